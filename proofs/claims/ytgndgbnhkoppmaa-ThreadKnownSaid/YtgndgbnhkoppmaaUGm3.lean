/-
  States as literal rows: what stays alike in them; what is lent whole comes back whole.
  No condition: laws.
-/
import Derived.Test.YtgndgbnhkoppmaaUThr54
set_option maxHeartbeats 40000000
set_option linter.unusedVariables false
set_option linter.unusedSimpArgs false
namespace Go.Proofs.Ytgndgbnhkoppmaa
open Go Go.Conc
open Go.RowKit
inductive KP:Ob->Ob->Prop
  | same (o:Ob):KP o o
  | loose {o o':Ob} (h:zhB o=true) (h':zhB o'=true):KP o o'
  | pend {a b c d e f f'}:KP (.thr a b c d e f) (.thr a b c d e f')
theorem KeepC.cons {o o':Ob} {S S':St} (h:KP o o') (H:KeepC S S'):KeepC (o::S) (o'::S'):=by
  refine⟨fun i a b c d e f z=>?_,fun i a b c d e f z=>?_,fun i a b c d e=>?_,fun i c z=>?_⟩
  . cases i with
    | zero =>
      simp only [List.getElem?_cons_zero,Option.some.injEq] at z ⊢;subst z;cases h with
      | same=>exact⟨f,rfl⟩
      | loose h h'=>cases h'
      | pend=>exact⟨_,rfl⟩
    | succ i=>exact H.thr i a b c d e f z
  . cases i with
    | zero =>
      simp only [List.getElem?_cons_zero,Option.some.injEq] at z ⊢;subst z;cases h with
      | same=>exact⟨f,rfl⟩
      | loose h h'=>cases h
      | pend=>exact⟨_,rfl⟩
    | succ i=>exact H.thr' i a b c d e f z
  . cases i with
    | zero =>
      simp only [List.getElem?_cons_zero,Option.some.injEq];cases h with
      | same=>exact Iff.rfl
      | loose h h'=>constructor<;>(intro z;subst z;first|cases h'|cases h)
      | pend=>constructor<;>(intro z;cases z)
    | succ i=>exact H.wp i a b c d e
  . cases i with
    | zero =>
      simp only [List.getElem?_cons_zero,Option.some.injEq] at z ⊢;subst z;cases h with
      | same=>rfl
      | loose h h'=>cases h
    | succ i=>exact H.box i c z
theorem KeepC.more {o':Ob} {S':St} (h:zhB o'=true) (H:KeepC [] S'):KeepC [] (o'::S'):=by
  refine⟨fun i a b c d e f z=>?_,fun i a b c d e f z=>(zbs z).elim,fun i a b c d e=>?_,fun i c z=>(zbs z).elim⟩
  . cases i with
    | zero=>simp only [List.getElem?_cons_zero,Option.some.injEq] at z;subst z;cases h
    | succ i=>exact H.thr i a b c d e f z
  . cases i with
    | zero =>
      constructor
      . intro z;simp only [List.getElem?_cons_zero,Option.some.injEq] at z;subst z;cases h
      . intro z;exact (zbs z).elim
    | succ i =>
      constructor
      . intro z;exact ((zbs ((H.wp i a b c d e).1 z))).elim
      . intro z;exact (zbs z).elim
theorem Idle.nil:Idle []:=fun _ _ _ _ _ _ _ h=>(zbs h).elim
theorem Idle.cons {o:Ob} {S:St} (h:∀ a b c d e f,o=.thr a b c d e f->d=false) (H:Idle S):Idle (o::S):=fun k a b c d e f z=>by
  cases k with
  | zero=>simp only [List.getElem?_cons_zero,Option.some.injEq] at z;exact h _ _ _ _ _ _ z
  | succ i=>exact H i a b c d e f z
theorem ziD {hs hs2:AHeap}:uniH hs hs hs2=hs2:=by
  refine zhI (fun n=>?_) rfl;show (match hs2.get n with|some b=>some b|none=>if (hs.get n).isSome then none else hs.get n)=hs2.get n
  cases h2:hs2.get n with
  | some b=>rfl
  | none =>
    simp only;cases h:hs.get n<;>simp
theorem LendH.all (hs:AHeap):LendH hs hs:=⟨fun _ _ h=>h,rfl,fun _ _ _ _ _ h2 h3=>by rw [h2] at h3;cases h3⟩
section
variable {P:Program} {σ:Type} {X:Face P σ} {fn:Func} {A:Conf σ->Prop} {ops:Array Oper} {k:List Item} {i:Nat} {tmps:List Value} {S:σ} {l:List (Option Blk)}
theorem At.list (hk:∀ lf:List (Option Blk),lf.length=l.length->Ge l lf->At X fn A ops k i tmps (zaT lf l.length []) S):At X fn A ops k i tmps (zar l) S:=by
  rw [zqJ];exact hk l rfl (Ge.refl l)
theorem Goes.list {todo:List Item} (hk:∀ lf:List (Option Blk),lf.length=l.length->Ge l lf->Goes X fn A (.run todo tmps (zaT lf l.length []) S)):Goes X fn A (.run todo tmps (zar l) S):=by
  rw [zqJ];exact hk l rfl (Ge.refl l)
end
def LawRuns {Γ:Type} (Pr:Proto Γ) (f:FuncId) (args:Array Value) (l:List Blk) (γ:Γ):Prop :=
  ∃ g c,Try.prog.funcs[f]?=some g/\g.body=some c/\GE MF (SpM Pr) g (fun c γ'=>∃ h1 S1,c=.done (.bool true) h1 S1/\KeepC γ'.2 S1/\Idle S1) (.run (zag g c args).1 (zag g c args).2 (zar (l.map some)) []) (γ,[])
theorem LawRuns.mk {Γ:Type} {Pr:Proto Γ} {f:FuncId} {g:Func} {c:Code} {args:Array Value} {l:List Blk} {γ:Γ} (hf:Try.prog.funcs[f]?=some g) (hb:g.body=some c)
    (hrun:Goes MF g (fun x=>GE MF (SpM Pr) g (fun c γ'=>∃ h1 S1,c=.done (.bool true) h1 S1/\KeepC γ'.2 S1/\Idle S1) x (γ,[])) (.run [.code c] (args.toList++List.replicate (g.ntmps - args.size) undef) (zar (l.map some)) [])):LawRuns Pr f args l γ:=⟨g,c,hf,hb,GE.go hrun⟩
theorem Goes.endL {Γ:Type} {Pr:Proto Γ} {fn:Func} {γ:Γ × St} {todo:List Item} {tmps:List Value} {h:AHeap} {S:St} (ht:retB todo=true) (hv:resA Try.prog fn tmps h=some (.bool true)) (hk:KeepC γ.2 S) (hi:Idle S) :
    Goes MF fn (fun x=>GE MF (SpM Pr) fn (fun c γ'=>∃ h1 S1,c=.done (.bool true) h1 S1/\KeepC γ'.2 S1/\Idle S1) x γ) (.run todo tmps h S):=Goes.endG ht hv ⟨h,S,rfl,hk,hi⟩
theorem LawRuns.runs {Γ:Type} {Pr:Proto Γ} {f:FuncId} {fg:Func} {t:Tmp} {args:Array Value} {γ:Γ} (L:LawRuns Pr f args [] γ) (hf:Try.prog.funcs[f]?=some fg) (hr:fg.results=#[.tmp t]) (hi:Try.prog.inits.idxOf? f=none) (ha:args.all zac=true) (W:World) :
    ∃ M last o w' t',runNT Try.prog (M+1) (solo (Go.Conc.G (Frame.enter Try.prog f args .normal) []) W) #[]=(.ended o w',t')/\runN Try.prog M (solo (Go.Conc.G (Frame.enter Try.prog f args .normal) []) W)=.next last /\
      step Try.prog last=.ended o w'/\Conc.Good Try.prog (fun v w'=>v=.bool true/\Go.RowKit.Below W.heap.size W w') last o w' t':=by
  obtain⟨g,c,h1,h2,G⟩:=L;rw [hf] at h1;cases h1;have hg0:∀ n b,(zar (([]:List Blk).map some)).get n=some b->False:=fun n b hb=>by simp [zar] at hb
  have h:=zqx (F:=idE) (w00:=W) hf h2 hr hi ⟨fun n b hb=>(hg0 n b hb).elim,fun n m b c hb=>(hg0 n b hb).elim⟩ (zbu _) (by simp [zar]) (fun n b hb=>(hg0 n b hb).elim) (fun u hu=>Stab.plain (by
    obtain⟨i,hi,rfl⟩:=Array.mem_iff_getElem.1 hu;exact Array.all_eq_true.1 ha i hi)) (fun n b hb=>(hg0 n b hb).elim) G
  rw [zcl idE ha] at h;exact h
theorem ztd {P:Program} {k:Nat} {name:String} {args:Array Value}:zic P (.iface 68 (hndV k)) name args=(match za9 P 68 name with|some f=>some (f,#[hndV k]++args)|none=>none):=rfl
theorem ztb {P:Program} {k:Nat} {name:String}:zci P (.func (.method name) #[.iface 68 (hndV k)] #[])=(match za9 P 68 name with|some _=>some (.func (.method name) #[.iface 68 (hndV k)] #[])|none=>none):=rfl
attribute [go_sem] ztd ztb
abbrev Acc4:=Nat × Int × UInt64 × UInt64
def ztk (a:Acc4) (ws:List UInt64) (bs:List UInt8):UInt64:=if a.1<=4 then wT a.1 a.2.1 a.2.2.1 ws else if a.1=5 then (bT a.2.1 bs).toUInt64 else 0
def wdsQ (a:Acc4) (ws:List UInt64):List UInt64:=if a.1<=4 then wS a.1 a.2.1 a.2.2.1 a.2.2.2 ws else ws
def bytQ (a:Acc4) (bs:List UInt8):List UInt8:=if a.1=6 then bS a.2.1 a.2.2.1.toUInt8 bs else bs
abbrev Row:=Nat × Blk
def Fr (fr:List Row) (l:List (Option Blk)):Prop:=∀ x∈fr,l[x.1]?=some (some x.2)
theorem Fr.ge {fr:List Row} {l l':List (Option Blk)} (h:Fr fr l) (hg:Ge l l'):Fr fr l':=fun x hx=>hg _ _ (h x hx)
theorem Fr.set {fr:List Row} {l:List (Option Blk)} {n:Nat} {b:Blk} {b':Option Blk} (h:Fr fr l) (hn:l[n]?=some (some b)) {pr:Blk->Bool} (hc:∀ x∈fr,pr x.2=false) (hb:pr b=true):Fr fr (l.set n b'):=fun x hx=>by
  by_cases e:n=x.1
  . subst e;have:=h x hx;rw [hn] at this;cases this;rw [hc x hx] at hb;cases hb
  . rw [List.getElem?_set_ne e];exact h x hx
theorem Fr.nil {l:List (Option Blk)}:Fr [] l:=fun _ h=>by cases h
theorem Fr.cons {fr:List Row} {l:List (Option Blk)} {n:Nat} {b:Blk} (h:l[n]?=some (some b)) (H:Fr fr l):Fr ((n,b)::fr) l:=fun x hx=>by
  rcases List.mem_cons.1 hx with rfl|hx
  . exact h
  . exact H x hx
def zpi (b:Blk):Bool:=b.elem==22 && !b.ro
structure Sys (G P:Type) where
  acc:P->Acc4
  most:Nat
  rank:List UInt64->P->Nat
  hot:Blk->Bool
  inv:G->List UInt64->List UInt8->List (Option P)->List (Option Blk)->Prop
  born:Nat->G->List UInt64->List UInt8->List (Option P)->List (Option Blk)->Prop
  run:Nat->P->UInt64->Nat->G->List UInt64->List UInt8->List (Option P)->List (Option Blk)->Prop
structure PG (G P:Type) where
  g:G
  ks:List Nat
  fr:List Row
  lim:Nat × Nat
  slack:Nat
  pk:Nat->Option (P × Nat × List Row)
  fuel:Nat
abbrev PG.ps {G P:Type} (γ:PG G P):List (Option P):=γ.ks.map fun k=>(γ.pk k).map Prod.fst
def upd1 {α:Type} (f:Nat->α) (k:Nat) (y:α):Nat->α:=fun x=>if x=k then y else f x
theorem zeM {α:Type} {f:Nat->α} {k:Nat} {y:α}:upd1 f k y k=y:=if_pos rfl
theorem zfN {α:Type} {f:Nat->α} {k x:Nat} {y:α} (h:x≠k):upd1 f k y x=f x:=if_neg h
theorem zmU {α β:Type} {f:Nat->α} {h:α->β} {k:Nat} {y:α}:∀ {ks:List Nat} {i:Nat},ks.Nodup->ks[i]?=some k->(ks.map fun x=>h (upd1 f k y x))=(ks.map fun x=>h (f x)).set i (h y)
  | [],i,_,hi=>by simp at hi
  | a::ks,0,hn,hi=>by
    obtain rfl:a=k:=by simpa using hi
    have hm:=(List.nodup_cons.1 hn).1;simp only [List.map_cons,zeM,List.set_cons_zero,List.cons.injEq,true_and];exact List.map_congr_left fun x hx=>by rw [zfN fun (e:x=a)=>hm (e ▸ hx)]
  | a::ks,i+1,hn,hi=>by
    have hi:ks[i]?=some k:=by simpa using hi
    have hne:a≠k:=fun e=>(List.nodup_cons.1 hn).1 (e ▸ List.mem_of_getElem? hi);simp only [List.map_cons,zfN hne,List.set_cons_succ,zmU (List.nodup_cons.1 hn).2 hi]
theorem zqB {G P:Type} {γ:PG G P} {k i:Nat} {y:Option (P × Nat × List Row)} (hn:γ.ks.Nodup) (hi:γ.ks[i]?=some k) (g:G) (fr:List Row) (lim:Nat × Nat) (sl fu:Nat):(PG.mk g γ.ks fr lim sl (upd1 γ.pk k y) fu).ps=γ.ps.set i (y.map Prod.fst):=zmU hn hi
theorem ztz {G P:Type} {γ:PG G P} {k i:Nat} (hi:γ.ks[i]?=some k):γ.ps[i]?=some ((γ.pk k).map Prod.fst):=by simp [PG.ps,hi]
def LIM:Nat:=500000000
section
variable {G P:Type} (U:Sys G P) (pm:Nat)
structure Hd (γ:PG G P) (l:List (Option Blk)) (q:Nat):Prop where
  ll:l.length<=q
  nd:γ.ks.Nodup
  fr:Fr γ.fr l
  cold:∀ x∈γ.fr,U.hot x.2=false
  rows:∀ k∈γ.ks,∀ p,γ.pk k=some p->γ.ks[p.2.1]?=some k/\Fr p.2.2 l/\∀ x∈p.2.2,U.hot x.2=false/\zpi x.2=false
def Sys.pr:Proto (PG G P) where
  Ph:=P × Nat × List Row
  ph γ k:=γ.pk k
  acc q:=U.acc q.1
  fuel γ:=γ.fuel
  Con:=List Nat × List Row × (Nat × Nat) × Nat
  con γ:=(γ.ks,γ.fr,γ.lim,γ.slack)
  Inv γ hs S:=∃ l q ws bs,hs=zaT l q []/\Hd U γ l q/\q+1000 * γ.fuel+γ.slack<=LIM/\S[pm]?=some (.mem ws bs)/\U.inv γ.g ws bs γ.ps l/\∀ k p,γ.ks[γ.lim.1]?=some k->γ.pk k=some p->U.rank ws p.1<γ.lim.2
  Run k p v γ hs S:=∃ l q ws bs R,hs=zaT l q []/\Hd U γ l q/\q+1000 * γ.fuel+γ.slack+1000<=LIM/\S[pm]?=some (.mem ws bs)/\γ.ks[p.2.1]?=some k/\γ.pk k=some p/\γ.lim.1=p.2.1/\R<=γ.lim.2/\U.run p.2.1 p.1 v R γ.g ws bs γ.ps l
structure Sys.Ok:Prop where
  acc:∀ p,1<=(U.acc p).1/\(U.acc p).1<=6
  hot:∀ b,U.hot b=true->zpi b=false
  rank:∀ {g:G} {ws:List UInt64} {bs:List UInt8} {ps:List (Option P)} {l:List (Option Blk)} {i:Nat} {p:P},U.inv g ws bs ps l->ps[i]?=some (some p)->1<=U.rank ws p/\U.rank ws p<=U.most
  rows:∀ {g:G} {ws:List UInt64} {bs:List UInt8} {ps:List (Option P)} {l l':List (Option Blk)},U.inv g ws bs ps l->(∀ (n:Nat) (b:Blk),l[n]?=some (some b)->zpi b=false->l'[n]?=some (some b))->U.inv g ws bs ps l'
  grant:∀ {g:G} {ws:List UInt64} {bs:List UInt8} {ps:List (Option P)} {l:List (Option Blk)} {i:Nat} {p:P},U.inv g ws bs ps l->ps[i]?=some (some p)->∃ g',U.run i p (ztk (U.acc p) ws bs) (U.rank ws p) g' (wdsQ (U.acc p) ws) (bytQ (U.acc p) bs) ps l
  birth:∀ {g:G} {ws:List UInt64} {bs:List UInt8} {ps:List (Option P)} {l:List (Option Blk)},U.inv g ws bs ps l->∃ g',U.born ps.length g' ws bs (ps++[none]) l
structure BH (i k hp:Nat) (me:Int) (st R:Nat) (γ:PG G P × St) (l:List (Option Blk)) (q b:Nat) (S:St) (ws:List UInt64) (bs:List UInt8):Prop where
  hS:S=γ.2
  hwp:∃ ask gr qt,S[hp]?=some (.wp me st ask gr qt)
  hm:S[pm]?=some (.mem ws bs)
  hk:γ.1.ks[i]?=some k
  hl:γ.1.lim.1=i/\R<=γ.1.lim.2
  hd:Hd U γ.1 l q
  bud:q+1000 * γ.1.fuel+γ.1.slack+b<=LIM
variable {U pm}
theorem Hd.ge {γ:PG G P} {l l':List (Option Blk)} {q q':Nat} (H:Hd U γ l q) (hg:Ge l l') (hl:l'.length<=q'):Hd U γ l' q':=⟨hl,H.nd,H.fr.ge hg,H.cold,fun k hk p hp=>⟨(H.rows k hk p hp).1,(H.rows k hk p hp).2.1.ge hg,(H.rows k hk p hp).2.2⟩⟩
theorem Hd.set {γ:PG G P} {l:List (Option Blk)} {q n:Nat} {b:Blk} {b':Option Blk} (H:Hd U γ l q) (hn:l[n]?=some (some b)) (hb:U.hot b=true):Hd U γ (l.set n b') q :=
  ⟨by rw [List.length_set];exact H.ll,H.nd,H.fr.set hn H.cold hb,H.cold,fun k hk p hp=>⟨(H.rows k hk p hp).1,(H.rows k hk p hp).2.1.set hn (fun x hx=>((H.rows k hk p hp).2.2 x hx).1) hb,(H.rows k hk p hp).2.2⟩⟩
section
variable {i k hp:Nat} {me:Int} {st R:Nat} {γ:PG G P × St} {l:List (Option Blk)} {q b:Nat} {S:St} {ws:List UInt64} {bs:List UInt8}
theorem BH.ll (H:BH U pm i k hp me st R γ l q b S ws bs):l.length<=q:=H.hd.ll
theorem BH.ge (H:BH U pm i k hp me st R γ l q b S ws bs) {l':List (Option Blk)} {q':Nat} (hg:Ge l l') (hl:l'.length<=q') {d:Nat} (hq:q'<=q+d) (hd:d<=b):BH U pm i k hp me st R γ l' q' (b - d) S ws bs :=
  ⟨H.hS,H.hwp,H.hm,H.hk,H.hl,H.hd.ge hg hl,by have:=H.bud;omega⟩
theorem BH.set (H:BH U pm i k hp me st R γ l q b S ws bs) {n:Nat} {c:Blk} {c':Option Blk} (hn:l[n]?=some (some c)) (hb:U.hot c=true):BH U pm i k hp me st R γ (l.set n c') q b S ws bs :=
  ⟨H.hS,H.hwp,H.hm,H.hk,H.hl,H.hd.set hn hb,H.bud⟩
theorem BH.less (H:BH U pm i k hp me st R γ l q b S ws bs) {b':Nat} (hb:b'<=b):BH U pm i k hp me st R γ l q b' S ws bs:=⟨H.hS,H.hwp,H.hm,H.hk,H.hl,H.hd,by have:=H.bud;omega⟩
theorem BH.lt (H:BH U pm i k hp me st R γ l q b S ws bs):i<γ.1.ps.length:=by
  have:=(List.getElem?_eq_some_iff.1 H.hk).1;simpa [PG.ps] using this
theorem BH.ask {a:Acc4} {Q:UInt64->AHeap->St->PG G P × St->Prop} (H:BH U pm i k hp me st R γ l q b S ws bs) (p:P) (rows:List Row) (g1:G) (hacc:U.acc p=a) (hrow:Fr rows l) (hcold:∀ x∈rows,U.hot x.2=false/\zpi x.2=false)
    (hinv:U.inv g1 ws bs (γ.1.ps.set i (some p)) l) (hr:U.rank ws p<R)
    (hQ:∀ (v:UInt64) (γ2:PG G P × St) (l2:List (Option Blk)) (q2:Nat) (S2:St) (ws2:List UInt64) (bs2:List UInt8) (R2:Nat),BH U pm i k hp me (st+1) R2 γ2 l2 q2 1000 S2 ws2 bs2->Fr rows l2->γ2.1.ps[i]?=some (some p)->q<=q2->U.run i p v R2 γ2.1.g ws2 bs2 γ2.1.ps l2->Q v (zaT l2 q2 []) S2 γ2) :
    Ask (U.pr pm) k hp a (zaT l q []) S γ Q:=by
  obtain⟨ask,gr,qt,hwp⟩:=H.hwp;have hps:=zqB (y:=some (p,i,rows)) H.hd.nd H.hk g1 γ.1.fr γ.1.lim γ.1.slack γ.1.fuel;refine Ask.mk (Pr:=U.pr pm) (PG.mk g1 γ.1.ks γ.1.fr γ.1.lim γ.1.slack (upd1 γ.1.pk k (some (p,i,rows))) γ.1.fuel) (p,i,rows) hacc H.hS hwp ⟨l,q,ws,bs,rfl,⟨H.hd.ll,H.hd.nd,H.hd.fr,H.hd.cold,fun k' hk' p' hp'=>?_⟩,?_,H.hm,?_,fun k' p' hk' hp'=>?_⟩ zeM (fun j hj=>zfN hj) ⟨rfl,rfl⟩ fun v h1 γ2 S1 hrun hfu hnx hlen hwp1=>?_
  . by_cases e:k'=k
    . subst e;have hp':upd1 γ.1.pk k' (some (p,i,rows)) k'=some p':=hp';rw [zeM] at hp';cases hp';exact⟨H.hk,hrow,hcold⟩
    . exact H.hd.rows k' hk' p' ((zfN e).symm.trans hp')
  . have:=H.bud;show q+1000 * γ.1.fuel+γ.1.slack<=LIM;omega
  . rw [hps];exact hinv
  . have hk':γ.1.ks[γ.1.lim.1]?=some k':=hk';rw [H.hl.1,H.hk] at hk';cases hk';have hp':upd1 γ.1.pk k (some (p,i,rows)) k=some p':=hp';rw [zeM] at hp';cases hp';exact Nat.lt_of_lt_of_le hr H.hl.2
  . obtain⟨l2,q2,ws2,bs2,R2,rfl,hd,hbud,hm,hks,hpk,hlim,hR,hrun⟩:=hrun;have hks:γ2.ks[i]?=some k:=hks;have hpk:γ2.pk k=some (p,i,rows):=hpk;have hq:(zaT l q []).next<=(zaT l2 q2 []).next:=hnx;simp only [sz,List.length_nil,Nat.add_zero] at hq;refine hQ v (γ2,S1) l2 q2 S1 ws2 bs2 R2 ⟨rfl,⟨_,_,_,hwp1⟩,hm,hks,⟨hlim,hR⟩,hd,hbud⟩ (hd.rows k (List.mem_of_getElem? hks) _ hpk).2.1 ?_ hq hrun;rw [ztz hks,hpk];rfl
theorem BH.over (H:BH U pm i k hp me st R γ l q b S ws bs) (g1:G) (hinv:U.inv g1 ws bs (γ.1.ps.set i none) l):EndB (U.pr pm) k (zaT l q []) S γ:=by
  have hps:=zqB (y:=none) H.hd.nd H.hk g1 γ.1.fr γ.1.lim γ.1.slack γ.1.fuel;refine⟨H.hS,PG.mk g1 γ.1.ks γ.1.fr γ.1.lim γ.1.slack (upd1 γ.1.pk k none) γ.1.fuel,⟨l,q,ws,bs,rfl,⟨H.hd.ll,H.hd.nd,H.hd.fr,H.hd.cold,fun k' hk' p' hp'=>?_⟩,?_,H.hm,?_,fun k' p' hk' hp'=>?_⟩,zeM,fun j hj=>zfN hj,rfl,rfl⟩
  . by_cases e:k'=k
    . subst e;have hp':upd1 γ.1.pk k' none k'=some p':=hp';rw [zeM] at hp';cases hp'
    . exact H.hd.rows k' hk' p' ((zfN e).symm.trans hp')
  . have:=H.bud;show q+1000 * γ.1.fuel+γ.1.slack<=LIM;omega
  . rw [hps];exact hinv
  . have hk':γ.1.ks[γ.1.lim.1]?=some k':=hk';rw [H.hl.1,H.hk] at hk';cases hk';have hp':upd1 γ.1.pk k none k=some p':=hp';rw [zeM] at hp';cases hp'
end
end
structure AwG where
  k:Nat
  st:Nat
  fu:Nat
  ns:Nat
  ng:Nat
  fr:List Row
abbrev awI (x:Int):Blk:={ cells:=[.int .i64 x],elem:=3 }
abbrev awU (x:Int):Blk:={ cells:=[.int .u64 x],elem:=29 }
section
variable {Γ:Type} (Pr:Proto Γ)
def orP:Proto (Γ ⊕ AwG) where
  Ph:=Pr.Ph ⊕ (Nat × Nat × Nat)
  ph γ k:=match γ with
    | .inl g=>(Pr.ph g k).map Sum.inl
    | .inr a=>if k=a.k/\a.st<2 then some (.inr (a.st,a.ns,a.ng)) else none
  acc q:=match q with
    | .inl q=>Pr.acc q
    | .inr p=>if p.1=0 then (2,1,5,0) else (1,2,0,0)
  fuel γ:=match γ with
    | .inl g=>Pr.fuel g+2
    | .inr a=>a.fu
  Con:=Pr.Con ⊕ (Nat × Nat × Nat × List Row)
  con γ:=match γ with
    | .inl g=>.inl (Pr.con g)
    | .inr a=>.inr (a.k,a.ns,a.ng,a.fr)
  Inv γ h S:=match γ with
    | .inl g=>Pr.Inv g h S
    | .inr a=>∃ l q,h=zaT l q []/\l.length<=q/\q+1000 * a.fu<=400000000/\a.st<=2/\a.fu+a.st=2/\l[a.ns]?=some (some (awI 7))/\l[a.ng]?=some (some (awU (if a.st=2 then 9 else 0)))/\Fr a.fr l
  Run k q v γ h S:=match q,γ with
    | .inl p,.inl g=>Pr.Run k p v g h S
    | .inr p,.inr a=>∃ l q,h=zaT l q []/\l.length<=q/\q+1000 * a.fu+500<=400000000/\a=⟨k,p.1,1 - p.1,p.2.1,p.2.2,a.fr⟩/\p.1<2/\(p.1=1->v=9)/\l[a.ns]?=some (some (awI 7))/\l[a.ng]?=some (some (awU 0))/\Fr a.fr l/\∀ x∈a.fr,x.1≠a.ng
    | _,_=>False
theorem zhg {k st fu ns ng st' fu' ns' ng':Nat} {fr fr':List Row} (i:Nat) (hi:i≠k):(orP Pr).ph (.inr ⟨k,st,fu,ns,ng,fr⟩) i=(orP Pr).ph (.inr ⟨k,st',fu',ns',ng',fr'⟩) i :=
  Eq.trans (b:=none) (if_neg fun h=>hi h.1) (Eq.symm (if_neg fun h=>hi h.1))
variable {Pr}
set_option maxRecDepth 20000 in
theorem zqm {k hp ns ng:Nat} {l:List (Option Blk)} {q:Nat} {S:St} {ask gr qt:Nat} (hwp:S[hp]?=some (.wp 7 0 ask gr qt)) (hl:l.length<=q) (hq:q<=300000000) (hs:l[ns]?=some (some (awI 0))) (hg:l[ng]?=some (some (awU 0))) :
    zeX (orP Pr) k hp 32 #[] #[.pointer (some ⟨ns,0,none⟩),.pointer (some ⟨ng,0,none⟩)] (zaT l q []) S (.inr ⟨k,3,2,ns,ng,[]⟩):=by
  refine⟨Try.f32,_,Try.func32,rfl,rfl,GE.go ?_⟩;show Goes OF _ _ (.run [.code _] ((#[Value.iface 68 (hndV hp),.pointer (some ⟨ns,0,none⟩),.pointer (some ⟨ng,0,none⟩)]:Array Value).toList++List.replicate (Try.f32.ntmps - (#[Value.iface 68 (hndV hp),.pointer (some ⟨ns,0,none⟩),.pointer (some ⟨ng,0,none⟩)]:Array Value).size) undef) _ _);have hsl:=(List.getElem?_eq_some_iff.1 hs).1;have hgl:=(List.getElem?_eq_some_iff.1 hg).1;have hne:ng≠ns:=fun e=>by subst e;rw [hg] at hs;cases hs
  have q1:ns<q:=by omega
  rw [Try.ntmps32];simp only [List.size_toArray,List.length_cons,List.length_nil,List.replicate,List.cons_append,List.nil_append];refine via ?_;((first|refine qp1 rfl rfl fun K hK=>?_|refine qp3 rfl rfl fun K hK=>?_);simp (disch:=(first|omega|(simp only [sz]<;>omega)|fail)) only [go_sem];(first|refine⟨_,_,.wself hwp,?_⟩|refine⟨_,_,.com (.wself hwp),?_⟩);(try simp only [go_sem]);with_reducible refine hK _ _ ?_;clear hK K)
  refine viaF hs ?_;refine Goes.named fun l2 hl2=>?_;have hs2:l2[ns]?=some (some (awI 7)):=by rw [hl2,List.getElem?_set_self hsl]
  have hg2:l2[ng]?=some (some (awU 0)):=by rw [hl2,List.getElem?_set_ne (Ne.symm hne)];exact hg
  have hll2:l2.length<=q:=by rw [hl2,List.length_set];exact hl
  clear hl2;refine via ?_;(refine qg1 rfl rfl fun K hK=>?_;simp (disch:=(first|omega|(simp only [sz]<;>omega)|fail)) only [go_sem])
  refine zpP (A:=5) (Ask.mk (Pr:=orP Pr) (Sum.inr ⟨k,0,2,ns,ng,[]⟩) (Sum.inr (0,ns,ng)) rfl rfl hwp ⟨l2,q,rfl,hll2,by show q+1000 * 2<=400000000;omega,Nat.zero_le 2,rfl,hs2,hg2,Fr.nil⟩ (if_pos ⟨rfl,Nat.zero_lt_two⟩) (fun i hi=>zhg Pr i hi) ⟨rfl,rfl⟩ fun v h1 γ2 S1 hrun hfu hnx hlenS hwp1=>?_)
  rcases γ2 with g|a
  . exact hrun.elim
  obtain⟨l3,q3,rfl,hl3,hq3,ea,_,_,hs3,hg3,hf3,hn3⟩:=hrun;obtain⟨k',st',fu',ns',ng',fr⟩:=a;injection ea with b1 b2 b3 b4 b5 _
  subst k' st' fu' ns' ng';replace hs3:l3[ns]?=some (some (awI 7)):=hs3;replace hg3:l3[ng]?=some (some (awU 0)):=hg3
  ((try simp only [go_sem]);with_reducible refine hK _ _ _ _ ?_;clear hK K)
  refine via ?_;(refine qg1 rfl rfl fun K hK=>?_;simp (disch:=(first|omega|(simp only [sz]<;>omega)|fail)) only [go_sem])
  refine zqS (Ask.mk (Pr:=orP Pr) (Sum.inr ⟨k,1,1,ns,ng,fr⟩) (Sum.inr (1,ns,ng)) rfl rfl hwp1 ⟨l3,q3,rfl,hl3,by have hq3:q3+1000 * (1 - 0)+500<=400000000:=hq3;show q3+1000 * 1<=400000000;omega,Nat.le_succ 1,rfl,hs3,hg3,hf3⟩ (if_pos ⟨rfl,Nat.one_lt_two⟩) (fun i hi=>zhg Pr i hi) ⟨rfl,rfl⟩ fun v2 h2 γ3 S2 hrun2 hfu2 hnx2 hlenS2 hwp2=>?_)
  rcases γ3 with g|a
  . exact hrun2.elim
  obtain⟨l4,q4,rfl,hl4,hq4,ea,_,hv,hs4,hg4,hf4,hn4⟩:=hrun2;obtain⟨k',st',fu',ns',ng',fr2⟩:=a;injection ea with b1 b2 b3 b4 b5 _
  subst k' st' fu' ns' ng';obtain rfl:=hv rfl;replace hs4:l4[ns]?=some (some (awI 7)):=hs4;replace hg4:l4[ng]?=some (some (awU 0)):=hg4;have hgl4:=(List.getElem?_eq_some_iff.1 hg4).1;have q2:ng<q4:=by omega
  ((try simp only [go_sem]);with_reducible refine hK _ _ _ _ ?_;clear hK K)
  refine viaF hg4 ?_;refine Goes.named fun l5 hl5=>?_;have hs5:l5[ns]?=some (some (awI 7)):=by rw [hl5,List.getElem?_set_ne hne];exact hs4
  have hg5:l5[ng]?=some (some (awU 9)):=by rw [hl5,List.getElem?_set_self hgl4];rfl
  have hf5:Fr fr2 l5:=fun x hx=>by rw [hl5,List.getElem?_set_ne fun e=>hn4 x hx e.symm];exact hf4 x hx
  have hll5:l5.length<=q4:=by rw [hl5,List.length_set];exact hl4
  clear hl5;refine via ?_;refine Goes.endG rfl (by simp (disch:=(first|omega|(simp only [zaa,List.length_cons,List.length_nil,List.size_toArray,zad]<;>omega)|fail)) only [go_sem,resA,zaF,Try.results32]<;>rfl) ?_
  exact⟨_,_,_,rfl,rfl,Sum.inr ⟨k,2,0,ns,ng,fr2⟩,⟨l5,q4,rfl,hll5,by have hq4:q4+1000 * (1 - 1)+500<=400000000:=hq4;show q4+1000 * 0<=400000000;omega,Nat.le_refl 2,rfl,hs5,hg5,hf5⟩,if_neg fun h=>Nat.lt_irrefl 2 h.2,fun i hi=>zhg Pr i hi,rfl,rfl⟩
theorem zk0 {k ns ng st fu:Nat} {fr:List Row} (h12:fu=1\/fu=2) {Q:Value->AHeap->St->(Γ ⊕ AwG) × St->Prop} {r:Value} {hs:AHeap} {self:Int} {quit hp gid dn:Nat} {S:St} (H:∀ l q,l.length<=q->q+1000 * fu<=400000000->hs.next<=q->l[ns]?=some (some (awI 7))->l[ng]?=some (some (awU 0))->Fr fr l ->
      Q r (zaT l q []) (S.set k (.thr self quit false true (some (hp,gid,dn)) (some S.length))++[.acc (if fu=2 then 2 else 1) (if fu=2 then 1 else 2) (if fu=2 then 5 else 0) 0]) (.inr ⟨k,2 - fu,fu,ns,ng,fr⟩,S.set k (.thr self quit false true (some (hp,gid,dn)) (some S.length))++[.acc (if fu=2 then 2 else 1) (if fu=2 then 1 else 2) (if fu=2 then 5 else 0) 0])) :
    zkd (orP Pr) Q r hs hs k self quit hp gid dn S (.inr ⟨k,st,fu,ns,ng,fr⟩):=by
  intro γ2 hs2 hI hfu _ hnx;rw [ziD];rcases γ2 with g|⟨k2,st2,fu2,ns2,ng2,fr2⟩
  . exact absurd hfu.2 (by intro h;cases h)
  obtain⟨l,q,rfl,h1,h2,h3,h4,h5,h6,h7⟩:=hI;have e1:fu2=fu:=hfu.1;have e2:(Sum.inr (k2,ns2,ng2,fr2):Pr.Con ⊕ (Nat × Nat × Nat × List Row))=Sum.inr (k,ns,ng,fr):=hfu.2;injection e2 with e2
  injection e2 with e3 e2
  injection e2 with e4 e2
  injection e2 with e5 e7
  subst e1 e3 e4 e5 e7;replace h4:fu2+st2=2:=h4;have e6:st2=2 - fu2:=by omega
  subst e6;have hn:hs.next<=q:=by
    have:hs.next<=(zaT l q []).next:=hnx;simpa only [sz,List.length_nil,Nat.add_zero] using this
  have hp0:(orP Pr).ph (.inr ⟨k2,2 - fu2,fu2,ns2,ng2,fr2⟩) k2=some (.inr (2 - fu2,ns2,ng2)):=if_pos ⟨rfl,by show 2 - fu2<2;omega⟩
  refine⟨fun q2 hq2=>?_,fun hq2=>(by rw [hp0] at hq2;cases hq2)⟩
  rw [hp0] at hq2;obtain rfl:=Option.some.inj hq2;have h6:l[ng2]?=some (some (awU (if 2 - fu2=2 then 9 else 0))):=h6
  rw [if_neg (by omega)] at h6
  have:=H l q h1 h2 hn h5 h6 h7;rcases h12 with rfl|rfl<;>exact this
theorem znI {k ns ng st:Nat} {fr:List Row} {Q:Value->AHeap->St->(Γ ⊕ AwG) × St->Prop} {r:Value} {hs:AHeap} {self:Int} {quit hp gid dn:Nat} {S:St} (H:∀ l q,l.length<=q->q<=400000000->hs.next<=q->l[ns]?=some (some (awI 7))->l[ng]?=some (some (awU 9))->Fr fr l ->
      Q r (zaT l q []) (S.set k (.thr self quit false false (some (hp,gid,dn)) none)) (.inr ⟨k,2,0,ns,ng,fr⟩,S.set k (.thr self quit false false (some (hp,gid,dn)) none))) :
    zkd (orP Pr) Q r hs hs k self quit hp gid dn S (.inr ⟨k,st,0,ns,ng,fr⟩):=by
  intro γ2 hs2 hI hfu _ hnx;rw [ziD];rcases γ2 with g|⟨k2,st2,fu2,ns2,ng2,fr2⟩
  . exact absurd hfu.2 (by intro h;cases h)
  obtain⟨l,q,rfl,h1,h2,h3,h4,h5,h6,h7⟩:=hI;have e1:fu2=0:=hfu.1;have e2:(Sum.inr (k2,ns2,ng2,fr2):Pr.Con ⊕ (Nat × Nat × Nat × List Row))=Sum.inr (k,ns,ng,fr):=hfu.2;injection e2 with e2
  injection e2 with e3 e2
  injection e2 with e4 e2
  injection e2 with e5 e7
  subst e1 e3 e4 e5 e7;replace h4:0+st2=2:=h4;obtain rfl:st2=2:=by omega
  have hn:hs.next<=q:=by
    have:hs.next<=(zaT l q []).next:=hnx;simpa only [sz,List.length_nil,Nat.add_zero] using this
  have hp0:(orP Pr).ph (.inr ⟨k2,2,0,ns2,ng2,fr2⟩) k2=none:=if_neg fun h=>Nat.lt_irrefl 2 h.2;refine⟨fun q2 hq2=>(by rw [hp0] at hq2;cases hq2),fun _=>H l q h1 h2 hn h5 h6 h7⟩
end
structure AwS (S:St) (k hp gid dn pd qc st ask gr c:Nat) (n:Int) (A:UInt64):Prop where
  thr:S[k]?=some (.thr 7 qc false true (some (hp,gid,dn)) (some pd))
  wp:S[hp]?=some (.wp 7 st ask gr qc)
  acc:S[pd]?=some (.acc c n A 0)
  oth:∀ (j:Nat) a b c e f,S[j]?=some (.thr a b c true e f)->j=k
theorem zr7 {B:St} {k:Nat} {X:Ob} {L:List Ob} {j:Nat} {o:Ob} (h:B[j]?=some o) (hj:j≠k):(B.set k X++L)[j]?=some o:=by
  rw [List.getElem?_append_left (by rw [List.length_set];exact zaL h),List.getElem?_set_ne (Ne.symm hj)];exact h
theorem zow {B:St} {k:Nat} {X:Ob} {L:List Ob} (h:k<B.length):(B.set k X++L)[k]?=some X:=by
  rw [List.getElem?_append_left (by rw [List.length_set];exact h),List.getElem?_set_self h]
theorem zqz {B:St} {k:Nat} {X o:Ob}:(B.set k X++[o])[B.length]?=some o:=by
  rw [List.getElem?_append_right (by simp)];simp
theorem zoS {B:St} {k:Nat} {X o y:Ob} {j:Nat} (h:(B.set k X++[o])[j]?=some y):(j=k/\y=X)\/(j≠k/\B[j]?=some y)\/y=o:=by
  by_cases hj:j<B.length
  . rw [List.getElem?_append_left (by rw [List.length_set];exact hj)] at h
    by_cases e:j=k
    . subst e;rw [List.getElem?_set_self hj] at h;exact .inl ⟨rfl,(Option.some.inj h).symm⟩
    . rw [List.getElem?_set_ne (Ne.symm e)] at h;exact .inr (.inl ⟨e,h⟩)
  . rw [List.getElem?_append_right (by rw [List.length_set];omega)] at h
    have:=List.mem_of_getElem? h;simp at this;exact .inr (.inr this)
theorem zro {S0:St} {qc ask gr gid dn c:Nat} {n:Int} {A:UInt64} (hI:Idle S0):AwS ((zdS (S0++[Ob.thr 7 qc false false none none]) S0.length 7 qc ask gr gid dn).set S0.length (Ob.thr 7 qc false true (some ((S0++[Ob.thr 7 qc false false none none]).length,gid,dn)) (some (zdS (S0++[Ob.thr 7 qc false false none none]) S0.length 7 qc ask gr gid dn).length))++[Ob.acc c n A 0]) S0.length (S0++[Ob.thr 7 qc false false none none]).length gid dn (zdS (S0++[Ob.thr 7 qc false false none none]) S0.length 7 qc ask gr gid dn).length qc 0 ask gr c n A:=by
  refine⟨zow (by rw [zeY];simp;omega),zr7 zfC (by simp),zqz,fun j a b c e f h=>?_⟩
  rcases zoS h with ⟨e,_⟩|⟨e,h⟩|h
  . exact e
  . rcases zbV h with ⟨e2,_⟩|⟨_,h⟩|⟨_,h⟩|⟨_,h⟩
    . exact absurd e2 e
    . by_cases hj:j<S0.length
      . rw [List.getElem?_append_left hj] at h;have:=hI _ _ _ _ _ _ _ h;cases this
      . have:=zaL h;simp at this;omega
    . cases h
    . cases h
  . cases h
theorem zrq {S:St} {k hp gid dn pd qc st ask gr c c':Nat} {n n':Int} {A A':UInt64} (H:AwS S k hp gid dn pd qc st ask gr c n A):AwS ((cntS S hp 7 (st+1) ask gr qc).set k (.thr 7 qc false true (some (hp,gid,dn)) (some (cntS S hp 7 (st+1) ask gr qc).length))++[.acc c' n' A' 0]) k hp gid dn (cntS S hp 7 (st+1) ask gr qc).length qc (st+1) ask gr c' n' A':=by
  have hk:=zaL H.thr;have hne:hp≠k:=fun e=>by have:=H.thr;rw [<-e,H.wp] at this;cases this
  refine⟨zow (by rw [cnt_len];exact hk),zr7 (zfp H.wp) hne,zqz,fun j a b c e f h=>?_⟩
  rcases zoS h with ⟨e,_⟩|⟨e,h⟩|h
  . exact e
  . exact H.oth _ _ _ _ _ _ ((zbZ H.wp).1 h)
  . cases h
theorem zsJ {S:St} {k hp gid dn pd qc st ask gr c:Nat} {n:Int} {A:UInt64} (H:AwS S k hp gid dn pd qc st ask gr c n A):((cntS S hp 7 (st+1) ask gr qc).set k (.thr 7 qc false false (some (hp,gid,dn)) none))[k]?=some (.thr 7 qc false false (some (hp,gid,dn)) none)/\((cntS S hp 7 (st+1) ask gr qc).set k (.thr 7 qc false false (some (hp,gid,dn)) none))[hp]?=some (.wp 7 (st+1) ask gr qc)/\Idle ((cntS S hp 7 (st+1) ask gr qc).set k (.thr 7 qc false false (some (hp,gid,dn)) none)):=by
  have hk:=zaL H.thr;have hne:hp≠k:=fun e=>by have:=H.thr;rw [<-e,H.wp] at this;cases this
  refine⟨List.getElem?_set_self (by rw [cnt_len];exact hk),by rw [List.getElem?_set_ne (Ne.symm hne)];exact zfp H.wp,fun j a b c d e f h=>?_⟩
  by_cases z:j=k
  . subst z;rw [List.getElem?_set_self (by rw [cnt_len];exact hk)] at h
    cases h;rfl
  . rw [List.getElem?_set_ne (Ne.symm z)] at h;cases d with
    | false=>rfl
    | true=>exact absurd (H.oth _ _ _ _ _ _ ((zbZ H.wp).1 h)) z
theorem zoO {S:St} {k:Nat} {o:Ob} (h:Idle S) (ho:∀ a b c d e f,o=.thr a b c d e f->d=false):Idle (S.set k o):=fun j a b c d e f z=>by
  by_cases e2:j=k
  . subst e2;by_cases hl:j<S.length
    . rw [List.getElem?_set_self hl] at z;exact ho _ _ _ _ _ _ (Option.some.inj z)
    . rw [List.getElem?_eq_none (by simp;omega)] at z;cases z
  . rw [List.getElem?_set_ne (Ne.symm e2)] at z;exact h _ _ _ _ _ _ _ z
theorem zsu {S:St} {o:Ob}:S.length≠(S++[o]).length:=by simp
theorem wr_2:wr (0+1+1)=2:=by decide
section
variable {Γ:Type} {Pr:Proto Γ}
set_option maxRecDepth 20000 in
theorem ziX {γ:(Γ ⊕ AwG) × St} {l:List (Option Blk)} {q:Nat} {S:St} {Q:Value->AHeap->St->(Γ ⊕ AwG) × St->Prop} (hno:∀ i,(orP Pr).ph γ.1 i=none) (hfu:2<=(orP Pr).fuel γ.1) (hk:KeepC γ.2 S) (hidle:Idle S) (hl:l.length<=q) (hq:q<=200000000) (hQ:∀ l' q' S' γ',KeepC γ'.2 S'->Idle S'->Q (.bool true) (zaT l' q' []) S' γ') :
    Runs MF (SpM (orP Pr)) 19 #[] (zaT l q []) S γ Q:=by
  refine Runs.mk Try.func19 rfl rfl ?_;rw [Try.ntmps19];simp only [List.size_toArray,List.length_cons,List.length_nil,List.replicate,List.cons_append,List.nil_append];refine via ?_;(refine qs1 rfl rfl fun K hK=>?_;simp (disch:=(first|omega|(simp only [sz]<;>omega)|fail)) only [go_sem])
  refine .inl ⟨7,rfl,rfl,hk,fun qc=>?_⟩
  ((try simp only [go_sem]);with_reducible refine hK _ _ _ _ ?_;clear hK K)
  refine via ?_;refine At.folds hl fun lf hlen hge hrow=>?_;have hs0:lf[q]?=some (some (awI 0)):=hrow 0;have hg0:lf[q+1]?=some (some (awU 0)):=hrow 1;simp only [List.length_cons,List.length_nil,Nat.zero_add] at hlen ⊢;(refine qs1 rfl rfl fun K hK=>?_;simp (disch:=(first|omega|(simp only [sz]<;>omega)|fail)) only [go_sem])
  refine .inr (.inl ⟨S.length,_,qc,7,#[],_,none,_,.inr ⟨S.length,3,2,q,q+1,[]⟩,rfl,rfl,KeepC.refl _,by simp,LendH.all _,hfu,fun i hi=>?_,fun ask gr gid dn=>zqm zfC (by omega) (by omega) hs0 hg0,fun ask gr gid dn=>zk0 (.inr rfl) fun l1 q1 hl1 hq1 hn1 hs1 hg1 hf1=>?_⟩)
  . rw [hno i];exact if_neg fun h=>hi h.1
  have HS1:=zro (qc:=qc) (ask:=ask) (gr:=gr) (gid:=gid) (dn:=dn) (c:=if 2=2 then 2 else 1) (n:=if 2=2 then 1 else 2) (A:=if 2=2 then 5 else 0) hidle
  simp only [↓reduceIte] at HS1 ⊢
  ((try simp only [go_sem]);with_reducible refine hK _ _ _ _ ?_;clear hK K)
  refine via ?_;((first|refine qp1 rfl rfl fun K hK=>?_|refine qp3 rfl rfl fun K hK=>?_);simp (disch:=(first|omega|(simp only [sz]<;>omega)|fail)) only [go_sem];(first|refine⟨_,_,.pend HS1.thr HS1.acc,?_⟩|refine⟨_,_,.com (.pend HS1.thr HS1.acc),?_⟩);(try simp only [go_sem]);with_reducible refine hK _ _ ?_;clear hK K)
  simp only [accV];refine via ?_;refine At.folds hl1 fun lf2 hlen2 hge2 hrow2=>?_;have hgl1:=(List.getElem?_eq_some_iff.1 hg1).1;simp only [List.length_cons,List.length_nil,Nat.zero_add] at hlen2 ⊢;have ra:=hrow2 0;(refine qs1 rfl rfl fun K hK=>?_;simp (disch:=(first|omega|(simp only [sz]<;>omega)|fail)) only [go_sem])
  refine .inr (.inr (.inl ⟨S.length,_,gid,dn,_,0,ask,gr,qc,7,7,0,.inr (0,q,q+1),_,.inr ⟨S.length,0,1,q,q+1,[(q1,_)]⟩,rfl,rfl,KeepC.refl _,HS1.thr,HS1.wp,if_pos ⟨rfl,Nat.zero_lt_two⟩,LendH.all _,⟨lf2,_,rfl,Nat.le_of_eq hlen2,?_,rfl,Nat.zero_lt_two,fun h=>(Nat.zero_ne_one h).elim,hge2 _ _ hs1,hge2 _ _ hg1,Fr.cons ra Fr.nil,fun x hx=>?_⟩,(by decide:1<2),fun i hi=>zhg Pr i hi,zk0 (.inl rfl) fun l2 q2 hl2 hq2 hn2 hs2 hg2 hf2=>?_⟩))
  . show q1+1+1000 * 1+500<=400000000;omega
  . obtain rfl:=List.mem_singleton.1 hx;show q1≠q+1;omega
  have HS2:=zrq (c':=if 1=2 then 2 else 1) (n':=if 1=2 then 1 else 2) (A':=if 1=2 then 5 else 0) HS1
  simp only [Nat.reduceEqDiff,↓reduceIte] at HS2 ⊢
  ((try simp only [go_sem]);with_reducible refine hK _ _ _ _ ?_;clear hK K)
  refine via ?_;((first|refine qp1 rfl rfl fun K hK=>?_|refine qp3 rfl rfl fun K hK=>?_);simp (disch:=(first|omega|(simp only [sz]<;>omega)|fail)) only [go_sem];(first|refine⟨_,_,.pend HS2.thr HS2.acc,?_⟩|refine⟨_,_,.com (.pend HS2.thr HS2.acc),?_⟩);(try simp only [go_sem]);with_reducible refine hK _ _ ?_;clear hK K)
  simp only [accV];refine via ?_;refine At.folds hl2 fun lf3 hlen3 hge3 hrow3=>?_;have hgl2:=(List.getElem?_eq_some_iff.1 hg2).1;simp only [List.length_cons,List.length_nil,Nat.zero_add] at hlen3 ⊢;have ra2:=hge3 _ _ (hf2 _ (List.mem_singleton.2 rfl));have rb:=hrow3 0;(refine qs1 rfl rfl fun K hK=>?_;simp (disch:=(first|omega|(simp only [sz]<;>omega)|fail)) only [go_sem])
  refine .inr (.inr (.inl ⟨S.length,_,gid,dn,_,1,ask,gr,qc,7,7,9,.inr (1,q,q+1),_,.inr ⟨S.length,1,0,q,q+1,[(q1,_),(q2,_)]⟩,rfl,rfl,KeepC.refl _,HS2.thr,HS2.wp,if_pos ⟨rfl,Nat.one_lt_two⟩,LendH.all _,⟨lf3,_,rfl,Nat.le_of_eq hlen3,?_,rfl,Nat.one_lt_two,fun _=>rfl,hge3 _ _ hs2,hge3 _ _ hg2,Fr.cons ra2 (Fr.cons rb Fr.nil),fun x hx=>?_⟩,(by decide:0<1),fun i hi=>zhg Pr i hi,znI fun l3 q3 hl3 hq3 hn3 hs3 hg3 hf3=>?_⟩))
  . show q2+1+1000 * 0+500<=400000000;omega
  . rcases List.mem_cons.1 hx with rfl|hx
    . show q1≠q+1;omega
    . obtain rfl:=List.mem_singleton.1 hx;show q2≠q+1;omega
  obtain⟨e1,e2,e3⟩:=zsJ HS2;have ra3:l3[q1]?=some (some { cells:=[.int .u8 2,.int .i64 1,.int .u64 5,.int .u64 0],elem:=31 }):=hf3 _ (List.mem_cons_self ..);have rb3:l3[q2]?=some (some { cells:=[.int .u8 1,.int .i64 2,.int .u64 0,.int .u64 0],elem:=31 }):=hf3 _ (List.mem_cons_of_mem _ (List.mem_cons_self ..))
  ((try simp only [go_sem]);with_reducible refine hK _ _ _ _ ?_;clear hK K)
  refine via ?_;((first|refine qp1 rfl rfl fun K hK=>?_|refine qp3 rfl rfl fun K hK=>?_);simp (disch:=(first|omega|(simp only [sz]<;>omega)|fail)) only [go_sem];(first|refine⟨_,_,.idle e1,?_⟩|refine⟨_,_,.com (.idle e1),?_⟩);(try simp only [go_sem]);with_reducible refine hK _ _ ?_;clear hK K)
  refine via ?_;(refine qs1 rfl rfl fun K hK=>?_;simp (disch:=(first|omega|(simp only [sz]<;>omega)|fail)) only [go_sem])
  refine zp7 ⟨S.length,qc,7,_,_,rfl,rfl,KeepC.refl _,e1,?_⟩;have f1:=List.getElem?_set_self (a:=Ob.thr 7 qc true false (some ((S++[Ob.thr 7 qc false false none none]).length,gid,dn)) none) (zaL e1)
  ((try simp only [go_sem]);with_reducible refine hK _ _ _ _ ?_;clear hK K)
  have m1:=(List.getElem?_eq_some_iff.1 hs3).1;have m2:=(List.getElem?_eq_some_iff.1 hg3).1;have m3:=(List.getElem?_eq_some_iff.1 ra3).1;have m4:=(List.getElem?_eq_some_iff.1 rb3).1;have m5:q<q3:=by omega
  have m6:q+1<q3:=by omega
  have m7:q1<q3:=by omega
  have m8:q2<q3:=by omega
  repeat (first|refine Goes.reg ?_|refine Goes.ctl2 rfl ?_|((first|refine qv1 rfl rfl rfl fun K hK=>?_|refine qv3 rfl rfl rfl fun K hK=>?_|refine qv2 rfl rfl rfl rfl rfl rfl fun K hK=>?_|refine qv4 rfl rfl rfl rfl rfl rfl fun K hK=>?_|refine qn1 rfl rfl rfl fun K hK=>?_|refine qn3 rfl rfl rfl fun K hK=>?_|refine qt1 rfl rfl rfl fun K hK=>?_|refine qt3 rfl rfl rfl fun K hK=>?_);simp (disch:=(first|omega|(simp only [sz]<;>omega)|fail)) only [go_sem,hs3,hg3,ra3,rb3];with_reducible refine hK _ _ ?_;clear hK K)|refine At.nil rfl ?_|refine RG.nil rfl ?_|((first|refine AtL.skipg rfl rfl rfl rfl rfl ?_|refine RGL.skipg rfl rfl rfl rfl rfl ?_|refine AtL.skipu rfl rfl rfl rfl ?_|refine RGL.skipu rfl rfl rfl rfl ?_);simp only [putL,List.set_cons_zero,List.set_cons_succ])|refine Goes.yes rfl ?_|refine Goes.no rfl ?_|refine Goes.drawR [] (by kernel_rfl) ?_)
  ((first|refine qp1 rfl rfl fun K hK=>?_|refine qp3 rfl rfl fun K hK=>?_);simp (disch:=(first|omega|(simp only [sz]<;>omega)|fail)) only [go_sem];(first|refine⟨_,_,.busy f1,?_⟩|refine⟨_,_,.com (.busy f1),?_⟩);(try simp only [go_sem]);with_reducible refine hK _ _ ?_;clear hK K)
  refine via ?_;((first|refine qp1 rfl rfl fun K hK=>?_|refine qp3 rfl rfl fun K hK=>?_);simp (disch:=(first|omega|(simp only [sz]<;>omega)|fail)) only [go_sem];(first|refine⟨_,_,.steps f1 ((List.getElem?_set_ne zsu).trans e2),?_⟩|refine⟨_,_,.com (.steps f1 ((List.getElem?_set_ne zsu).trans e2)),?_⟩);(try simp only [go_sem]);with_reducible refine hK _ _ ?_;clear hK K)
  repeat (first|refine Goes.reg ?_|refine Goes.ctl2 rfl ?_|((first|refine qv1 rfl rfl rfl fun K hK=>?_|refine qv3 rfl rfl rfl fun K hK=>?_|refine qv2 rfl rfl rfl rfl rfl rfl fun K hK=>?_|refine qv4 rfl rfl rfl rfl rfl rfl fun K hK=>?_|refine qn1 rfl rfl rfl fun K hK=>?_|refine qn3 rfl rfl rfl fun K hK=>?_|refine qt1 rfl rfl rfl fun K hK=>?_|refine qt3 rfl rfl rfl fun K hK=>?_);simp (disch:=(first|omega|(simp only [sz]<;>omega)|fail)) only [go_sem,hs3,hg3,wr_2];with_reducible refine hK _ _ ?_;clear hK K)|refine At.nil rfl ?_|refine RG.nil rfl ?_|((first|refine AtL.skipg rfl rfl rfl rfl rfl ?_|refine RGL.skipg rfl rfl rfl rfl rfl ?_|refine AtL.skipu rfl rfl rfl rfl ?_|refine RGL.skipu rfl rfl rfl rfl ?_);simp only [putL,List.set_cons_zero,List.set_cons_succ])|refine Goes.yes rfl ?_|refine Goes.no rfl ?_|refine Goes.drawR [] (by kernel_rfl) ?_)
  refine Goes.retG rfl (by simp (disch:=(first|omega|(simp only [zaa,List.length_cons,List.length_nil,List.size_toArray,zad]<;>omega)|fail)) only [go_sem,resA,zaF,Try.results19]<;>rfl) ?_
  rw [zid hl3];refine hQ _ _ _ _ ?_ ?_
  . exact KeepC.refl _
  refine zoO e3 ?_;intro a b c d e f h;cases h;rfl
end
structure KnG where
  k:Nat
  fu:Nat
  ra:Nat
  on:Bool
abbrev knB (b:Bool):Blk:={ cells:=[.bool b],elem:=4 }
def knP:Proto KnG where
  Ph:=Unit
  ph γ k:=if k=γ.k/\γ.on=true then some () else none
  acc _:=(5,3,0,0)
  fuel γ:=γ.fu
  Con:=Nat × Nat
  con γ:=(γ.k,γ.ra)
  Inv γ h S:=∃ l q,h=zaT l q []/\l.length<=q/\q+1000 * γ.fu<=1000000/\l[γ.ra]?=some (some (knB true))/\γ.on=(γ.fu==3)
  Run _ _ _ _ _ _:=False
theorem zjO {k fu ra:Nat} (i:Nat):(orP knP).ph (.inl ⟨k,fu,ra,false⟩) i=none:=by
  show ((if i=k/\false=true then some () else none:Option Unit).map Sum.inl)=none
  simp
theorem zqH {k fu ra:Nat}:(orP knP).ph (.inl ⟨k,fu,ra,true⟩) k=some (.inl ()):=by
  show ((knP.ph ⟨k,fu,ra,true⟩ k).map Sum.inl)=_;have:knP.ph ⟨k,fu,ra,true⟩ k=some ():=if_pos ⟨rfl,rfl⟩;rw [this];rfl
theorem ziw {k fu fu' ra ra':Nat} {b b':Bool} (i:Nat) (hi:i≠k):(orP knP).ph (.inl ⟨k,fu,ra,b⟩) i=(orP knP).ph (.inl ⟨k,fu',ra',b'⟩) i:=by
  show ((if i=k/\b=true then some () else none:Option Unit).map Sum.inl)=((if i=k/\b'=true then some () else none:Option Unit).map Sum.inl)
  rw [if_neg fun h=>hi h.1,if_neg fun h=>hi h.1]
theorem znW {Γ:Type} {Pr:Proto Γ} {k hp:Nat} {n:Int} {h:AHeap} {S:St} {γ:Γ × St} {Q:Value->AHeap->St->Γ × St->Prop} (H:Ask Pr k hp (5,n,0,0) h S γ fun _ _ _ _=>False):Runs OF (SpB Pr k hp) 75 #[hndV hp,.int .i64 n] h S γ Q:=by
  refine Runs.mk Try.func75 rfl rfl ?_;rw [Try.ntmps75];simp only [List.size_toArray,List.length_cons,List.length_nil,List.replicate,List.cons_append,List.nil_append];refine via ?_;(refine qs1 rfl rfl fun K hK=>?_;simp (disch:=(first|omega|(simp only [sz]<;>omega)|fail)) only [go_sem])
  exact SpB.mono H fun v h1 S1 γ' ⟨x,e,hq⟩=>hq.elim
set_option maxRecDepth 20000 in
theorem zpa {k hp ra:Nat} {l:List (Option Blk)} {q:Nat} {S:St} (hl:l.length<=q) (hq:q+1000 * 5<=1000000) (hr:l[ra]?=some (some (knB false))) :
    zeX (orP knP) k hp 8 #[] #[.pointer (some ⟨ra,0,none⟩)] (zaT l q []) S (.inl ⟨k,5,ra,false⟩):=by
  refine⟨Try.f8,_,Try.func8,rfl,rfl,GE.go ?_⟩;show Goes OF _ _ (.run [.code _] ((#[Value.iface 68 (hndV hp),.pointer (some ⟨ra,0,none⟩)]:Array Value).toList++List.replicate (Try.f8.ntmps - (#[Value.iface 68 (hndV hp),.pointer (some ⟨ra,0,none⟩)]:Array Value).size) undef) _ _);have hrl:=(List.getElem?_eq_some_iff.1 hr).1;have q1:ra<q:=by omega
  rw [Try.ntmps8];simp only [List.size_toArray,List.length_cons,List.length_nil,List.replicate,List.cons_append,List.nil_append];refine viaF hr ?_;refine Goes.named fun l2 hl2=>?_;have hr2:l2[ra]?=some (some (knB true)):=by rw [hl2,List.getElem?_set_self hrl]
  have hll2:l2.length<=q:=by rw [hl2,List.length_set];exact hl
  clear hl2;refine Goes.endG rfl (by simp (disch:=(first|omega|(simp only [zaa,List.length_cons,List.length_nil,List.size_toArray,zad]<;>omega)|fail)) only [go_sem,resA,zaF,Try.results8]<;>rfl) ?_
  exact⟨_,_,_,rfl,rfl,Sum.inl ⟨k,5,ra,false⟩,⟨l2,q,rfl,hll2,hq,hr2,rfl⟩,zjO k,fun i hi=>rfl,rfl,rfl⟩
set_option maxRecDepth 20000 in
theorem zp1 {k hp ra:Nat} {l:List (Option Blk)} {q:Nat} {S:St} {ask gr qt:Nat} (hwp:S[hp]?=some (.wp 1 0 ask gr qt)) (hl:l.length<=q) (hq:q+1000 * 3<=1000000) (hr:l[ra]?=some (some (knB true))) :
    zeX (orP knP) k hp 12 #[] #[] (zaT l q []) S (.inl ⟨k,3,ra,false⟩):=by
  refine⟨Try.f12,_,Try.func12,rfl,rfl,GE.go ?_⟩;show Goes OF _ _ (.run [.code _] ((#[Value.iface 68 (hndV hp)]:Array Value).toList++List.replicate (Try.f12.ntmps - (#[Value.iface 68 (hndV hp)]:Array Value).size) undef) _ _);rw [Try.ntmps12];simp only [List.size_toArray,List.length_cons,List.length_nil,List.replicate,List.cons_append,List.nil_append];refine via ?_;(refine qg1 rfl rfl fun K hK=>?_;simp (disch:=(first|omega|(simp only [sz]<;>omega)|fail)) only [go_sem])
  exact znW (Ask.mk (Pr:=orP knP) (Sum.inl ⟨k,3,ra,true⟩) (Sum.inl ()) rfl rfl hwp ⟨l,q,rfl,hl,hq,hr,rfl⟩ zqH (fun i hi=>ziw i hi) ⟨rfl,rfl⟩ fun v h1 γ2 S1 hrun hfu hnx hlenS hwp1=>by
    rcases γ2 with g|a
    . exact hrun
    . exact hrun)
theorem zqp {k ra:Nat} {Q:Value->AHeap->St->(KnG ⊕ AwG) × St->Prop} {r:Value} {hs:AHeap} {self:Int} {quit hp gid dn:Nat} {S:St} (H:∀ l q,l.length<=q->q+1000 * 5<=1000000->l[ra]?=some (some (knB true)) ->
      Q r (zaT l q []) (S.set k (.thr self quit false false (some (hp,gid,dn)) none)) (.inl ⟨k,5,ra,false⟩,S.set k (.thr self quit false false (some (hp,gid,dn)) none))) :
    zkd (orP knP) Q r hs hs k self quit hp gid dn S (.inl ⟨k,5,ra,false⟩):=by
  intro γ2 hs2 hI hfu _ hnx;rw [ziD];rcases γ2 with ⟨k2,fu2,ra2,on2⟩|a
  . obtain⟨l,q,rfl,h1,h2,h3,h4⟩:=hI;have e1:fu2+2=5+2:=hfu.1;obtain rfl:fu2=5:=by omega
    have e2:(Sum.inl (k2,ra2):knP.Con ⊕ (Nat × Nat × Nat × List Row))=Sum.inl (k,ra):=hfu.2;injection e2 with e2
    injection e2 with e3 e4
    subst e3 e4;obtain rfl:on2=false:=h4;exact⟨fun q2 hq2=>(by rw [zjO] at hq2;cases hq2),fun _=>H l q h1 h2 h3⟩
  . exact absurd hfu.2 (by intro h;cases h)
theorem zpW {k ra:Nat} {Q:Value->AHeap->St->(KnG ⊕ AwG) × St->Prop} {r:Value} {hs:AHeap} {self:Int} {quit hp gid dn:Nat} {S:St} (H:∀ l q,l.length<=q->q+1000 * 3<=1000000->l[ra]?=some (some (knB true)) ->
      Q r (zaT l q []) (S.set k (.thr self quit false true (some (hp,gid,dn)) (some S.length))++[.acc 5 3 0 0]) (.inl ⟨k,3,ra,true⟩,S.set k (.thr self quit false true (some (hp,gid,dn)) (some S.length))++[.acc 5 3 0 0])) :
    zkd (orP knP) Q r hs hs k self quit hp gid dn S (.inl ⟨k,3,ra,false⟩):=by
  intro γ2 hs2 hI hfu _ hnx;rw [ziD];rcases γ2 with ⟨k2,fu2,ra2,on2⟩|a
  . obtain⟨l,q,rfl,h1,h2,h3,h4⟩:=hI;have e1:fu2+2=3+2:=hfu.1;obtain rfl:fu2=3:=by omega
    have e2:(Sum.inl (k2,ra2):knP.Con ⊕ (Nat × Nat × Nat × List Row))=Sum.inl (k,ra):=hfu.2;injection e2 with e2
    injection e2 with e3 e4
    subst e3 e4;obtain rfl:on2=true:=h4;have hp0:(orP knP).ph (.inl ⟨k2,3,ra2,true⟩) k2=some (.inl ()):=zqH;refine⟨fun q2 hq2=>?_,fun hq2=>(by rw [hp0] at hq2;cases hq2)⟩
    rw [hp0] at hq2;obtain rfl:=Option.some.inj hq2;exact H l q h1 h2 h3
  . exact absurd hfu.2 (by intro h;cases h)
theorem zgW {K:Nat->Prop} {v:Value} (h:zac v=true):∀ u∈[v],Clo K u:=fun u hu=>by
  rw [List.mem_singleton.1 hu];exact Clo.plain h
theorem zhQ {f:Fn} (F:Emb):ren F (.func f #[] #[])=.func f #[] #[]:=by simp
theorem zi1 (S:St):Does OF 14 #[.pointer none] [] S (.tuple #[]) S:=by
  refine Does.mk Try.func14 rfl rfl ?clo ?hand ?_
  case clo=>exact zgW rfl
  case hand=>exact Hand.plain (by simp [zac,accZ])
  rw [Try.ntmps14];simp only [List.size_toArray,List.length_cons,List.length_nil,List.replicate,List.cons_append,List.nil_append];refine via ?_;refine Goes.fin rfl (by simp (disch:=(first|omega|(simp only [zaa,List.length_cons,List.length_nil,List.size_toArray,zad]<;>omega)|fail)) only [go_sem,resA,zaF,Try.results14]<;>rfl) ?_
  rfl
theorem zkH (S:St):Does OF 10 #[.pointer none] [] S (.tuple #[accZ,.bool false]) S:=by
  refine Does.mk Try.func10 rfl rfl ?clo ?hand ?_
  case clo=>exact zgW rfl
  case hand=>exact Hand.plain (by simp [zac,accZ])
  rw [Try.ntmps10];simp only [List.size_toArray,List.length_cons,List.length_nil,List.replicate,List.cons_append,List.nil_append];refine via ?_;refine Goes.fin rfl (by simp (disch:=(first|omega|(simp only [zaa,List.length_cons,List.length_nil,List.size_toArray,zad]<;>omega)|fail)) only [go_sem,resA,zaF,Try.results10]<;>rfl) ?_
  rfl
abbrev resZ:Value:=.agg #[.int .i64 0,.int .i64 0,.int .u8 0,.int .u64 0,.int .u64 0,.int .u64 0,.int .u64 0,.int .u64 0,.int .i64 0,.int .i64 0,.int .i64 0]
theorem zkL (S:St):Does OF 16 #[.pointer none] [] S (.tuple #[resZ,.bool false]) S:=by
  refine Does.mk Try.func16 rfl rfl ?clo ?hand ?_
  case clo=>exact zgW rfl
  case hand=>exact fun F F' _=>by simp
  rw [Try.ntmps16];simp only [List.size_toArray,List.length_cons,List.length_nil,List.replicate,List.cons_append,List.nil_append];refine via ?_;refine Goes.fin rfl (by simp (disch:=(first|omega|(simp only [zaa,List.length_cons,List.length_nil,List.size_toArray,zad]<;>omega)|fail)) only [go_sem,resA,zaF,Try.results16]<;>rfl) ?_
  rfl
theorem zi6 (S:St) (f:Fn):Does OF 7 #[.pointer none,.func f #[] #[]] [] S (.bool false) S:=by
  refine Does.mk Try.func7 rfl rfl ?clo ?hand ?_
  case clo =>
    intro u hu;rcases List.mem_cons.1 hu with rfl|hu
    . exact Clo.plain rfl
    . rw [List.mem_singleton.1 hu];exact fun F F' _=>(zhQ F).trans (zhQ F').symm
  case hand=>exact Hand.plain (by simp [zac,accZ])
  rw [Try.ntmps7];simp only [List.size_toArray,List.length_cons,List.length_nil,List.replicate,List.cons_append,List.nil_append];refine via ?_;refine Goes.fin rfl (by simp (disch:=(first|omega|(simp only [zaa,List.length_cons,List.length_nil,List.size_toArray,zad]<;>omega)|fail)) only [go_sem,resA,zaF,Try.results7]<;>rfl) ?_
  rfl
theorem zi4 (S:St) (v:Int):Does OF 11 #[.pointer none,.int .u64 v] [] S (.bool false) S:=by
  refine Does.mk Try.func11 rfl rfl ?clo ?hand ?_
  case clo =>
    intro u hu;rcases List.mem_cons.1 hu with rfl|hu
    . exact Clo.plain rfl
    . rw [List.mem_singleton.1 hu];exact Clo.plain rfl
  case hand=>exact Hand.plain (by simp [zac,accZ])
  rw [Try.ntmps11];simp only [List.size_toArray,List.length_cons,List.length_nil,List.replicate,List.cons_append,List.nil_append];refine via ?_;refine Goes.fin rfl (by simp (disch:=(first|omega|(simp only [zaa,List.length_cons,List.length_nil,List.size_toArray,zad]<;>omega)|fail)) only [go_sem,resA,zaF,Try.results11]<;>rfl) ?_
  rfl
theorem zkR (S:St):Does OF 9 #[.pointer none] [] S (.bool false) S:=by
  refine Does.mk Try.func9 rfl rfl ?clo ?hand ?_
  case clo=>exact zgW rfl
  case hand=>exact Hand.plain (by simp [zac,accZ])
  rw [Try.ntmps9];simp only [List.size_toArray,List.length_cons,List.length_nil,List.replicate,List.cons_append,List.nil_append];refine via ?_;refine Goes.fin rfl (by simp (disch:=(first|omega|(simp only [zaa,List.length_cons,List.length_nil,List.size_toArray,zad]<;>omega)|fail)) only [go_sem,resA,zaF,Try.results9]<;>rfl) ?_
  rfl
theorem zjm (S:St):Does OF 18 #[.pointer none] [] S (.int .i64 0) S:=by
  refine Does.mk Try.func18 rfl rfl ?clo ?hand ?_
  case clo=>exact zgW rfl
  case hand=>exact Hand.plain (by simp [zac,accZ])
  rw [Try.ntmps18];simp only [List.size_toArray,List.length_cons,List.length_nil,List.replicate,List.cons_append,List.nil_append];refine via ?_;refine Goes.fin rfl (by simp (disch:=(first|omega|(simp only [zaa,List.length_cons,List.length_nil,List.size_toArray,zad]<;>omega)|fail)) only [go_sem,resA,zaF,Try.results18]<;>rfl) ?_
  rfl
end Go.Proofs.Ytgndgbnhkoppmaa
namespace Go.Proofs.Ytgndgbnhkoppmaa
open Go Go.Conc
open Go.RowKit
set_option maxRecDepth 20000 in
theorem tk_law:LawRuns (orP knP) 3 #[] [] (.inl ⟨0,10,0,false⟩):=by
  refine LawRuns.mk Try.func3 rfl ?_;rw [Try.ntmps3];simp only [List.size_toArray,List.length_cons,List.length_nil,List.replicate,List.cons_append,List.nil_append];refine via ?_;(refine qs1 rfl rfl fun K hK=>?_;simp (disch:=(first|omega|(simp only [sz]<;>omega)|fail)) only [go_sem])
  refine .inl ⟨1,rfl,rfl,KeepC.refl _,fun qc=>?_⟩
  ((try simp only [go_sem]);with_reducible refine hK _ _ _ _ ?_;clear hK K)
  refine via ?_;refine At.list fun lf hlf hge=>?_;have r0:lf[0]?=some (some (knB false)):=hge 0 _ rfl;simp only [List.length_cons,List.length_nil,Nat.zero_add] at hlf ⊢;(refine qs1 rfl rfl fun K hK=>?_;simp (disch:=(first|omega|(simp only [sz]<;>omega)|fail)) only [go_sem])
  refine .inr (.inl ⟨0,_,qc,1,#[],_,none,_,.inl ⟨0,5,0,false⟩,rfl,rfl,KeepC.refl _,rfl,LendH.all _,(by decide:5+2<=10+2),fun i hi=>ziw i hi,fun ask gr gid dn=>zpa (by omega) (by decide) r0,fun ask gr gid dn=>zqp fun l1 q1 hl1 hq1 r1=>?_⟩)
  ((try simp only [go_sem]);with_reducible refine hK _ _ _ _ ?_;clear hK K)
  refine via ?_;((first|refine qp1 rfl rfl fun K hK=>?_|refine qp3 rfl rfl fun K hK=>?_);simp (disch:=(first|omega|(simp only [sz]<;>omega)|fail)) only [go_sem];(first|refine⟨_,_,.busy rfl,?_⟩|refine⟨_,_,.com (.busy rfl),?_⟩);(try simp only [go_sem]);with_reducible refine hK _ _ ?_;clear hK K)
  refine via ?_;((first|refine qp1 rfl rfl fun K hK=>?_|refine qp3 rfl rfl fun K hK=>?_);simp (disch:=(first|omega|(simp only [sz]<;>omega)|fail)) only [go_sem];(first|refine⟨_,_,.idle rfl,?_⟩|refine⟨_,_,.com (.idle rfl),?_⟩);(try simp only [go_sem]);with_reducible refine hK _ _ ?_;clear hK K)
  refine via ?_;((first|refine qp1 rfl rfl fun K hK=>?_|refine qp3 rfl rfl fun K hK=>?_);simp (disch:=(first|omega|(simp only [sz]<;>omega)|fail)) only [go_sem];(first|refine⟨_,_,.grantNo (v:=1) rfl,?_⟩|refine⟨_,_,.com (.grantNo (v:=1) rfl),?_⟩);(try simp only [go_sem]);with_reducible refine hK _ _ ?_;clear hK K)
  refine via ?_;((first|refine qp1 rfl rfl fun K hK=>?_|refine qp3 rfl rfl fun K hK=>?_);simp (disch:=(first|omega|(simp only [sz]<;>omega)|fail)) only [go_sem];(first|refine⟨_,_,.startNil rfl,?_⟩|refine⟨_,_,.com (.startNil rfl),?_⟩);(try simp only [go_sem]);with_reducible refine hK _ _ ?_;clear hK K)
  refine via ?_;refine At.folds hl1 fun lf2 hlen2 hge2 hrow2=>?_;simp only [List.length_cons,List.length_nil,Nat.zero_add] at hlen2 ⊢;(refine qs1 rfl rfl fun K hK=>?_;simp (disch:=(first|omega|(simp only [sz]<;>omega)|fail)) only [go_sem])
  refine .inr (.inl ⟨0,_,qc,1,#[],#[],some (1,gid,dn),_,.inl ⟨0,3,0,false⟩,rfl,rfl,KeepC.refl _,rfl,LendH.all _,(by decide:3+2<=5+2),fun i hi=>ziw i hi,fun ask2 gr2 gid2 dn2=>zp1 (ask:=ask2) (gr:=gr2) (qt:=qc) rfl (by omega) (by omega) (hge2 _ _ r1),fun ask2 gr2 gid2 dn2=>zpW fun l2 q2 hl2 hq2 r2=>?_⟩)
  ((try simp only [go_sem]);with_reducible refine hK _ _ _ _ ?_;clear hK K)
  refine via ?_;((first|refine qp1 rfl rfl fun K hK=>?_|refine qp3 rfl rfl fun K hK=>?_);simp (disch:=(first|omega|(simp only [sz]<;>omega)|fail)) only [go_sem];(first|refine⟨_,_,.startBusy (fun F=>zhQ F) rfl,?_⟩|refine⟨_,_,.com (.startBusy (fun F=>zhQ F) rfl),?_⟩);(try simp only [go_sem]);with_reducible refine hK _ _ ?_;clear hK K)
  refine via ?_;((first|refine qp1 rfl rfl fun K hK=>?_|refine qp3 rfl rfl fun K hK=>?_);simp (disch:=(first|omega|(simp only [sz]<;>omega)|fail)) only [go_sem];(first|refine⟨_,_,.pend rfl rfl,?_⟩|refine⟨_,_,.com (.pend rfl rfl),?_⟩);(try simp only [go_sem]);with_reducible refine hK _ _ ?_;clear hK K)
  simp only [accV];refine via ?_;(refine qs1 rfl rfl fun K hK=>?_;simp (disch:=(first|omega|(simp only [sz]<;>omega)|fail)) only [go_sem])
  refine zpT ⟨0,qc,3,gid2,dn2,1,_,.inl ⟨0,2,0,false⟩,rfl,rfl,KeepC.refl _,rfl,fun i hi=>ziw i hi,(by decide:2+2<=3+2),?_⟩
  ((try simp only [go_sem]);with_reducible refine hK _ _ _ _ ?_;clear hK K)
  refine via ?_;((first|refine qp1 rfl rfl fun K hK=>?_|refine qp3 rfl rfl fun K hK=>?_);simp (disch:=(first|omega|(simp only [sz]<;>omega)|fail)) only [go_sem];(first|refine⟨_,_,.startShut (fun F=>zhQ F) rfl,?_⟩|refine⟨_,_,.com (.startShut (fun F=>zhQ F) rfl),?_⟩);(try simp only [go_sem]);with_reducible refine hK _ _ ?_;clear hK K)
  refine via ?_;((first|refine qp1 rfl rfl fun K hK=>?_|refine qp3 rfl rfl fun K hK=>?_);simp (disch:=(first|omega|(simp only [sz]<;>omega)|fail)) only [go_sem];(first|refine⟨_,_,.grantNo (v:=1) rfl,?_⟩|refine⟨_,_,.com (.grantNo (v:=1) rfl),?_⟩);(try simp only [go_sem]);with_reducible refine hK _ _ ?_;clear hK K)
  refine via ?_;((first|refine qp1 rfl rfl fun K hK=>?_|refine qp3 rfl rfl fun K hK=>?_);simp (disch:=(first|omega|(simp only [sz]<;>omega)|fail)) only [go_sem];(first|refine⟨_,_,.closeNo rfl,?_⟩|refine⟨_,_,.com (.closeNo rfl),?_⟩);(try simp only [go_sem]);with_reducible refine hK _ _ ?_;clear hK K)
  refine via ?_;((first|refine qc1 rfl rfl fun K hK=>?_|refine qc3 rfl rfl fun K hK=>?_);simp (disch:=(first|omega|(simp only [sz]<;>omega)|fail)) only [go_sem];(first|refine⟨_,_,zi1 _,?_⟩|refine⟨_,_,Does.com (zi1 _),?_⟩);(try simp only [go_sem]);with_reducible refine hK _ _ ?_;clear hK K)
  refine via ?_;((first|refine qc1 rfl rfl fun K hK=>?_|refine qc3 rfl rfl fun K hK=>?_);simp (disch:=(first|omega|(simp only [sz]<;>omega)|fail)) only [go_sem];(first|refine⟨_,_,zkH _,?_⟩|refine⟨_,_,Does.com (zkH _),?_⟩);(try simp only [go_sem]);with_reducible refine hK _ _ ?_;clear hK K)
  refine via ?_;((first|refine qc1 rfl rfl fun K hK=>?_|refine qc3 rfl rfl fun K hK=>?_);simp (disch:=(first|omega|(simp only [sz]<;>omega)|fail)) only [go_sem];(first|refine⟨_,_,zkL _,?_⟩|refine⟨_,_,Does.com (zkL _),?_⟩);(try simp only [go_sem]);with_reducible refine hK _ _ ?_;clear hK K)
  have m1:=(List.getElem?_eq_some_iff.1 r2).1;have m0:0<q2:=by omega
  repeat (first|refine Goes.reg ?_|refine Goes.ctl2 rfl ?_|((first|refine qv1 rfl rfl rfl fun K hK=>?_|refine qv3 rfl rfl rfl fun K hK=>?_|refine qv2 rfl rfl rfl rfl rfl rfl fun K hK=>?_|refine qv4 rfl rfl rfl rfl rfl rfl fun K hK=>?_|refine qn1 rfl rfl rfl fun K hK=>?_|refine qn3 rfl rfl rfl fun K hK=>?_|refine qt1 rfl rfl rfl fun K hK=>?_|refine qt3 rfl rfl rfl fun K hK=>?_);simp (disch:=(first|omega|(simp only [sz]<;>omega)|fail)) only [go_sem,r2];with_reducible refine hK _ _ ?_;clear hK K)|refine At.nil rfl ?_|refine RG.nil rfl ?_|((first|refine AtL.skipg rfl rfl rfl rfl rfl ?_|refine RGL.skipg rfl rfl rfl rfl rfl ?_|refine AtL.skipu rfl rfl rfl rfl ?_|refine RGL.skipu rfl rfl rfl rfl ?_);simp only [putL,List.set_cons_zero,List.set_cons_succ])|refine Goes.yes rfl ?_|refine Goes.no rfl ?_|refine Goes.drawR [] (by kernel_rfl) ?_)
  ((first|refine qp1 rfl rfl fun K hK=>?_|refine qp3 rfl rfl fun K hK=>?_);simp (disch:=(first|omega|(simp only [sz]<;>omega)|fail)) only [go_sem];(first|refine⟨_,_,.busy rfl,?_⟩|refine⟨_,_,.com (.busy rfl),?_⟩);(try simp only [go_sem]);with_reducible refine hK _ _ ?_;clear hK K)
  refine via ?_;((first|refine qc1 rfl rfl fun K hK=>?_|refine qc3 rfl rfl fun K hK=>?_);simp (disch:=(first|omega|(simp only [sz]<;>omega)|fail)) only [go_sem];(first|refine⟨_,_,zi6 _ _,?_⟩|refine⟨_,_,Does.com (zi6 _ _),?_⟩);(try simp only [go_sem]);with_reducible refine hK _ _ ?_;clear hK K)
  refine via ?_;((first|refine qc1 rfl rfl fun K hK=>?_|refine qc3 rfl rfl fun K hK=>?_);simp (disch:=(first|omega|(simp only [sz]<;>omega)|fail)) only [go_sem];(first|refine⟨_,_,zi4 _ 0,?_⟩|refine⟨_,_,Does.com (zi4 _ 0),?_⟩);(try simp only [go_sem]);with_reducible refine hK _ _ ?_;clear hK K)
  refine via ?_;((first|refine qc1 rfl rfl fun K hK=>?_|refine qc3 rfl rfl fun K hK=>?_);simp (disch:=(first|omega|(simp only [sz]<;>omega)|fail)) only [go_sem];(first|refine⟨_,_,zkR _,?_⟩|refine⟨_,_,Does.com (zkR _),?_⟩);(try simp only [go_sem]);with_reducible refine hK _ _ ?_;clear hK K)
  refine via ?_;((first|refine qc1 rfl rfl fun K hK=>?_|refine qc3 rfl rfl fun K hK=>?_);simp (disch:=(first|omega|(simp only [sz]<;>omega)|fail)) only [go_sem];(first|refine⟨_,_,zjm _,?_⟩|refine⟨_,_,Does.com (zjm _),?_⟩);(try simp only [go_sem]);with_reducible refine hK _ _ ?_;clear hK K)
  refine via ?_;refine At.folds hl2 fun lf3 hlen3 hge3 hrow3=>?_;simp only [List.length_cons,List.length_nil,Nat.zero_add] at hlen3 ⊢;(refine qg1 rfl rfl fun K hK=>?_;simp (disch:=(first|omega|(simp only [sz]<;>omega)|fail)) only [go_sem])
  refine ziX (Pr:=knP) (fun i=>zjO i) (by decide:2<=2+2) (KeepC.refl _) ?_ (by omega) (by omega) fun l' q' S' γ' hk hi=>?_
  . repeat (first|exact Idle.nil|refine Idle.cons (fun _ _ _ _ _ _ e=>by cases e<;>rfl) ?_)
  ((try simp only [go_sem]);with_reducible refine hK _ _ _ _ ?_;clear hK K)
  refine via ?_;refine Goes.endL rfl (by simp (disch:=(first|omega|(simp only [zaa,List.length_cons,List.length_nil,List.size_toArray,zad]<;>omega)|fail)) only [go_sem,resA,zaF,Try.results3]<;>rfl) ?_ ?_
  . exact hk
  . exact hi
end Go.Proofs.Ytgndgbnhkoppmaa
namespace Go.Proofs.Ytgndgbnhkoppmaa
open Go Go.Conc
open Go.RowKit
theorem zf8 (W:World) :
    ∃ M last o w' t',runNT Try.prog (M+1) (solo (Go.Conc.G (Frame.enter Try.prog 3 #[] .normal) []) W) #[]=(.ended o w',t')/\runN Try.prog M (solo (Go.Conc.G (Frame.enter Try.prog 3 #[] .normal) []) W)=.next last /\
      step Try.prog last=.ended o w'/\Conc.Good Try.prog (fun v w'=>v=.bool true/\Go.RowKit.Below W.heap.size W w') last o w' t' :=
  tk_law.runs Try.func3 Try.results3 (by kernel_rfl) (by simp) W
end Go.Proofs.Ytgndgbnhkoppmaa
