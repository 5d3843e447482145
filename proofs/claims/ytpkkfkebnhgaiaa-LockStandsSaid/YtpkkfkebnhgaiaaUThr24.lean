/-
  Goroutine 0: a thread's row turns; an object comes.
  Condition: each call that is known does what is said of it (zat).
-/
import Derived.Test.YtpkkfkebnhgaiaaUThr14
import Derived.Test.YtpkkfkebnhgaiaaUPm2
import Derived.Conc.SmallLaws
set_option maxHeartbeats 40000000
set_option linter.unusedVariables false
set_option linter.unusedSimpArgs false
set_option maxRecDepth 100000
open Nat renaming le_refl->qa,le_of_eq->qi,lt_of_lt_of_le->ql,le_of_not_lt->qM
open List renaming getElem?_append_left->qb,getElem?_set_ne->qd,getElem?_set_self->qe,replicate->qg,mem_toArray->qk,getElem?_eq_some_iff->qz,mem_of_getElem?->qB,replicate_succ->qC,map_congr_left->qD
open Go.World renaming cell?->qf
open Go.Proofs.Ytpkkfkebnhgaiaa.Clo renaming plain->qh
open Go.Conc renaming G->qj,goes_oper_k->qn,goes_go->qr,mem_listed->qw,Goes->qL
open Option.some renaming inj->qm
open Go.Instr renaming makeInterface->qo,makeFunc->qx
open Go.Value renaming pointer->qp,int->qI
open Option renaming getD_some->qs
open Ne renaming symm->qy
namespace Go.Proofs.Ytpkkfkebnhgaiaa
open Go Go.Conc
open Go.ConcN (sumTo upd sumTo_upd upd_ne upd_same)
section
variable (hok:∀ mn OB WB,zat mn OB WB)
variable {OB WB OB' WB':Nat->Prop}{F F':Emb}{hs:AHeap}{S:St}{w w':World}
theorem zrQ{k:Nat}{a b c d e f a' b' c' d' e' f'}(hk:S[k]?=some (Ob.thr a b c d e f))(he:∀c,e'=some c->c.1<S.length)(hf:∀p,f'=some p->p<S.length)(R:Rep true OB WB F S w)(hw:∀x,fpS true F S x->x≠F.blk (VB+k)->w'.heap[x]?=w.heap[x]?)(hr:w'.heap[F.blk (VB+k)]?=some (.cells (zaT F a' b' c' d' e' f') 53 (0,0)))(hsz:w.heap.size<=w'.heap.size):Rep true OB WB F (S.set k (.thr a' b' c' d' e' f')) w'/\∀x,fpS true F (S.set k (.thr a' b' c' d' e' f')) x->fpS true F S x:=by
  have hlen:(S.set k (Ob.thr a' b' c' d' e' f')).length=S.length:=by simp
  have hself:(S.set k (Ob.thr a' b' c' d' e' f'))[k]?=some (.thr a' b' c' d' e' f'):=qe (zaG hk);have hne:∀i,i≠k->(S.set k (Ob.thr a' b' c' d' e' f'))[i]?=S[i]?:=fun i hi=>qd (qy hi);have hblk:∀(i:Nat) ob2,(S.set k (Ob.thr a' b' c' d' e' f'))[i]?=some ob2->∃ob,S[i]?=some ob/\zax true F i ob2=zax true F i ob:=fun i ob2 hi=>by
    by_cases z:i=k
    . subst z;rw[hself]at hi;cases hi;exact⟨_,hk,rfl⟩
    . rw[hne i z]at hi;exact⟨_,hi,rfl⟩
  have hk0:=R.at' _ _ hk rfl;refine⟨⟨fun i ob2 hi hr=>?_,fun i ob2 hi=>?_,fun i i' ob ob' hne' hi hi' x hx hx'=>?_,fun i ob2 hi x hx hW=>?_,fun b hb=>ql (R.wlow b hb) hsz⟩,fun x ⟨i,ob2,hi,hx⟩=>?_⟩
  . by_cases z:i=k
    . subst z;exact R.base i _ hk rfl
    . rw[hne i z]at hi;exact R.base i _ hi hr
  . by_cases z:i=k
    . subst z;rw[hself]at hi;cases hi;intro _;exact⟨hk0.1,fun c hc=>by rw[hlen];exact he c hc,fun p hp=>by rw[hlen];exact hf p hp,hr⟩
    . rw[hne i z]at hi;refine zpv (S:=S) (fun m ws bs hm=>?_) hlen (zdL (R.at' i _ hi) fun x hx=>hw x ⟨i,_,hi,hx⟩ fun e=>R.apart i k _ _ z hi hk x hx (by rw[e];simp[zax]))
      rw[hne]
      . exact hm
      rintro rfl;rw[hk]at hm;cases hm
  . obtain⟨o1,g1,g2⟩:=hblk i ob hi;obtain⟨o2,g3,g4⟩:=hblk i' ob' hi';exact R.apart i i' o1 o2 hne' g1 g3 x (g2▸hx) (g4▸hx')
  . by_cases z:i=k
    . subst z;rw[hself]at hi;cases hi;have:=R.waits i _ hk x hx hW;obtain⟨_,_,_,_,_,h⟩:=this;cases h
    . rw[hne i z]at hi;exact R.waits i _ hi x hx hW
  . obtain⟨ob,h1,h2⟩:=hblk i ob2 hi;exact⟨i,ob,h1,h2▸hx⟩
theorem zfo{k:Nat}{a b c d e f a' b' c' d' e' f'}(hk:S[k]?=some (Ob.thr a b c d e f))(he:∀c,e'=some c->c.1<S.length)(hf:∀p,f'=some p->p<S.length)(H:RInv (XM hok OB WB) F (.run [] [] hs S) w)(hw:∀x,Vis (XM hok OB WB) F (.run [] [] hs S) x->x≠F.blk (VB+k)->w'.heap[x]?=w.heap[x]?)(hr:w'.heap[F.blk (VB+k)]?=some (.cells (zaT F a' b' c' d' e' f') 53 (0,0)))(hsz:w.heap.size<=w'.heap.size):RInv (XM hok OB WB) F (.run [] [] hs (S.set k (.thr a' b' c' d' e' f'))) w':=by
  obtain⟨I,hV⟩:=H;have I:AInv (XM hok OB WB) F w (fun _=>True) (Kn hs.next S.length) (fun v=>v∈([]:List Value)) hs S w:=I;obtain⟨h1,h2⟩:=zrQ (w':=w') hk he hf I.rep (fun x hx hne=>hw x (.inr hx) hne) hr hsz;refine⟨?_,hV⟩;show AInv (XM hok OB WB) F w' (fun _=>True) (Kn hs.next (S.set k (Ob.thr a' b' c' d' e' f')).length) (fun v=>v∈([]:List Value)) hs (S.set k (.thr a' b' c' d' e' f')) w';rw[show(S.set k (Ob.thr a' b' c' d' e' f')).length=S.length by simp]
  refine⟨I.holds.kept fun n r hr=>hw _ (.inl ⟨n,r,hr,rfl⟩) fun z=>I.sep n r hr (by rw[z];exact⟨k,_,hk,by simp[zax]⟩),h1,fun v hv=>(by cases hv),I.hst,I.hk,?_,?_,Kept.refl _ _,fun _ _ _ _ _=>trivial,fun _ _ _=>trivial,fun n r hr hf=>I.sep n r hr (h2 _ hf)⟩
  . intro n hn1 hn2;refine I.hand n hn1 ?_;have hn2:n<VB+(S.set k (Ob.thr a' b' c' d' e' f')).length:=hn2;show n<VB+S.length;simpa using hn2
  . intro n hn;have:n<VB+S.length:=I.klim n hn;show n<VB+(S.set k (Ob.thr a' b' c' d' e' f')).length;simpa using this
def zr6:Ob->Bool
  | .thr _ _ _ _ _ _|.wp _ _ _ _ _|.acc _ _ _ _|.box _=>true
  | _=>false
theorem zlh{o:Ob}(h:zr6 o=true)(k:Nat):zax true F k o=[F.blk (VB+k)]:=by
  cases o with
  | mem=>cases h
  | port=>cases h
  | thr=>simp[zax]
  | wp=>rfl
  | acc=>rfl
  | box=>rfl
theorem zgL{o:Ob}(ho:zr6 o=true)(hO:∀b,OB b->OB' b)(hW:∀b,WB b->WB' b)(hF:Same (Kn hs.next S.length) F F')(hb:F'.base (VB+S.length)=0)(H:RInv (XM hok OB WB) F (.run [] [] hs S) w)(hnv:¬Vis (XM hok OB WB) F (.run [] [] hs S) (F'.blk (VB+S.length)))(hWn:∀b,WB' b->WB b\/(b=F'.blk (VB+S.length)/\∃a s x y z,o=Ob.wp a s x y z))(hw:∀x,Vis (XM hok OB WB) F (.run [] [] hs S) x->w'.heap[x]?=w.heap[x]?)(hat:obAt true OB' WB' F' (S++[o]) w' S.length o)(hWnew:WB (F'.blk (VB+S.length))->∃a s x y z,o=Ob.wp a s x y z)(hsz:w.heap.size<=w'.heap.size):RInv (XM hok OB' WB') F' (.run [] [] hs (S++[o])) w':=by
  obtain⟨I,hV⟩:=H;have I:AInv (XM hok OB WB) F w (fun _=>True) (Kn hs.next S.length) (fun v=>v∈([]:List Value)) hs S w:=I;have hF':Same (fun n=>VB<=n/\n<VB+S.length) F F':=hF.mono fun n hn=>.inr hn;obtain⟨R,hfp⟩:Rep true OB WB F' S w/\∀b,fpS true F' S b->fpS true F S b:=Rep.same hF' I.rep;have hlen:(S++[o]).length=S.length+1:=by simp
  have hnew:(S++[o])[S.length]?=some o:=by simp
  have hold:∀i,i<S.length->(S++[o])[i]?=S[i]?:=fun i hi=>qb hi;have hcase:∀(i:Nat) ob,(S++[o])[i]?=some ob->S[i]?=some ob\/(i=S.length/\ob=o):=fun i ob hi=>by
    have:=zaG hi;rw[hlen]at this;by_cases z:i<S.length
    . rw[hold i z]at hi;exact .inl hi
    . have z:i=S.length:=by omega
      subst z;rw[hnew]at hi;exact .inr ⟨rfl,(qm hi).symm⟩
  have hnf:¬fpS true F' S (F'.blk (VB+S.length)):=fun z=>hnv (.inr (hfp _ z));have hw':∀x,fpS true F' S x->w'.heap[x]?=w.heap[x]?:=fun x hx=>hw x (.inr (hfp x hx));have hbl:=zlh (F:=F') ho S.length;have hfp2:∀x,fpS true F' (S++[o]) x->fpS true F S x\/x=F'.blk (VB+S.length):=fun x ⟨i,ob,hi,hx⟩=>by
    rcases hcase i ob hi with h|⟨rfl,rfl⟩
    . exact .inl (hfp x ⟨i,ob,h,hx⟩)
    . rw[hbl]at hx;exact .inr (by simpa using hx)
  have hH:Holds F' hs w':=(I.holds.same (fun n c hc=>(I.hk n c hc).1) I.hst hF).kept fun n r hr=>by
    rw[<-(hF n (I.hk n r hr).1).1];exact hw _ (.inl ⟨n,r,hr,rfl⟩)
  refine⟨?_,hV⟩;show AInv (XM hok OB' WB') F' w' (fun _=>True) (Kn hs.next (S++[o]).length) (fun v=>v∈([]:List Value)) hs (S++[o]) w';have hKK:∀n,Kn hs.next S.length n->Kn hs.next (S++[o]).length n:=fun n h=>h.mono (qa _) (by omega)
  refine⟨hH,⟨fun i ob hi hr=>?_,fun i ob hi=>?_,fun i i' ob ob' hne hi hi' x hx hx'=>?_,fun i ob hi x hx hWx=>?_,fun b hb=>?_⟩,fun v hv=>(by cases hv),fun n c hc v hv=>(I.hst n c hc v hv).move hF hKK,fun n c hc=>⟨hKK n (I.hk n c hc).1,(I.hk n c hc).2⟩,fun n h1 h2=>.inr ⟨h1,h2⟩,fun n hn=>?_,Kept.refl _ _,fun _ _ _ _ _=>trivial,fun _ _ _=>trivial,fun n c hc hf=>?_⟩
  . rcases hcase i ob hi with h|⟨rfl,rfl⟩
    . exact R.base i ob h hr
    . exact hb
  . rcases hcase i ob hi with h|⟨rfl,rfl⟩
    . have h1:=zdL (R.at' i ob h) fun x hx=>hw' x ⟨i,ob,h,hx⟩;show obAt true OB' WB' F' (S++[o]) w' i ob;cases ob with
      | mem=>exact h1
      | port m me steps=>obtain⟨z1,ws,bs,z2⟩:=h1;exact⟨z1,ws,bs,by rw[hold m (zaG z2)];exact z2⟩
      | thr=>intro z;obtain⟨a1,a2,a3,a4⟩:=h1 z;exact⟨hO _ a1,fun c hc=>by rw[hlen];have:=a2 c hc;omega,fun c hc=>by rw[hlen];have:=a3 c hc;omega,a4⟩
      | wp=>obtain⟨z1,z2⟩:=h1;exact⟨hW _ z1,z2⟩
      | acc=>exact h1
      | box=>exact h1
    . exact hat
  . rcases hcase i ob hi with h|⟨rfl,rfl⟩<;>rcases hcase i' ob' hi' with h'|⟨rfl,rfl⟩
    . exact R.apart i i' ob ob' hne h h' x hx hx'
    . rw[hbl]at hx';have:x=F'.blk (VB+S.length):=by simpa using hx'
      subst this;exact hnf ⟨i,ob,h,hx⟩
    . rw[hbl]at hx;have:x=F'.blk (VB+S.length):=by simpa using hx
      subst this;exact hnf ⟨i',ob',h',hx'⟩
    . exact hne rfl
  . rcases hcase i ob hi with h|⟨rfl,rfl⟩
    . rcases hWn x hWx with z|⟨z,_⟩
      . exact R.waits i ob h x hx z
      . subst z;exact absurd ⟨i,ob,h,hx⟩ hnf
    . rcases hWn x hWx with z|⟨_,z⟩
      . rw[hbl]at hx;have:x=F'.blk (VB+S.length):=by simpa using hx
        subst this;exact hWnew z
      . exact z
  . rcases hWn b hb with z|⟨z,a,s,x,y,v,e⟩
    . exact ql (R.wlow b z) hsz
    . subst e;obtain⟨_,_,_,h⟩:=hat;rw[z];exact zab h
  . rcases hn with hn|⟨_,hn⟩
    . have:=I.klim n (.inl hn);have this:n<VB+S.length:=this;show n<VB+(S++[o]).length;omega
    . exact hn
  . rcases hfp2 _ hf with z|z
    . exact I.sep n c hc (by rw[(hF n (I.hk n c hc).1).1];exact z)
    . exact hnv (.inl ⟨n,c,hc,(hF n (I.hk n c hc).1).1.trans z⟩)
end
end Go.Proofs.Ytpkkfkebnhgaiaa
namespace Go.Proofs.Ytpkkfkebnhgaiaa
open Go Go.RowKit
variable {v:Value}{Ft:Emb}{me:Int}{s k:Nat}
section
variable {mn:Bool}{OB WB:Nat->Prop}{F F':Emb}{S:St}{w w':World}
theorem zfy(R:Rep mn OB WB F S w)(K:Kept w (fun _=>False) w')(hv:zac v=true):zcl mn OB WB F S w S v (.returned v) w' :=
  ⟨F,Same.refl _ _,by rw[zaA _ hv],R.kept K.size fun b ⟨k,ob,hk,hb⟩=>K.block b (by
    obtain⟨c,el,fr,h1⟩:=zfF (R.at' k ob hk) b hb;exact zab h1) id,⟨K.os,K.tape,K.output,K.size,fun b hl _=>K.block b hl id⟩,fun b hb=>.inl hb⟩
theorem zhe{f:FuncId}{args:Array Value}{l:List (Option Blk)}(D:ReadsI f args l v)(hH:Holds Ft (zaq l) w)(hst:∀u∈args,Clo (Kn l.length 0) u)(hc:∀n b,(zaq l).get n=some b->∀u∈b.cells,Clo (Kn l.length 0) u)(hl:l.length<=VB)(hro:∀n b,(zaq l).get n=some b->b.ro=true)(hv:zac v=true):
    TCalls Try.prog f (args.map (ren Ft)) w fun e w'=>e=.returned v/\Kept w (fun _=>False) w':=by
  obtain⟨g,c,h1,h2,G⟩:=D;refine(zfV (Q:=fun v' _=>v'=v) h1 h2 G (fun x ⟨h',hx⟩=>⟨v,h',hx,rfl⟩) hH (fun u hu=>(hst u hu).stab Ft) (fun n b hb u hu=>(hc n b hb u hu).stab Ft) hl).mono fun e w' ⟨v',h',Ft',e1,e2,_,_,e6,_⟩=>?_;subst e2;exact⟨by rw[e1,zaA _ hv],⟨e6.os,e6.tape,e6.output,e6.size,fun b hb _=>e6.block b hb fun⟨n,bb,z1,z2,_⟩=>by rw[hro n bb z1]at z2;cases z2⟩⟩
theorem zod{f:FuncId}{args:Array Value}(R:Rep mn OB WB F S w)(D:zne f args v)(ha:args.all zac=true)(hv:zac v=true):TCalls Try.prog f (args.map (ren F)) w (zcl mn OB WB F S w S v):=by
  rw[zcB F ha];refine(D w).mono fun e w' ⟨e1,K⟩=>?_;rw[e1];exact zfy R K hv
theorem zsm{f:FuncId}{args:Array Value}{l l':List Blk}(D:DoesI f args l v l')(hH:Holds Ft (zaq (l.map some)) w)(hl:l.length<=VB)(hro:l.all (·.ro)=true)(hv:zac v=true):
    TCalls Try.prog f (args.map (ren Ft)) w fun e w'=>e=.returned v/\Kept w (fun _=>False) w' :=
  (zfj D hH hl).mono fun e w' ⟨h1,Ft',e1,_,_,_,e6⟩=>⟨by rw[e1,zaA _ hv],⟨e6.os,e6.tape,e6.output,e6.size,fun b hb _=>e6.block b hb fun⟨n,bb,z1,z2,_⟩=>by
    have:=List.all_eq_true.1 hro bb (qB z1);rw[this]at z2;cases z2⟩⟩
theorem zjA{f:FuncId}{p:Nat}(R:Rep mn OB WB F S w)(hp:S[p]?=some (.port me.natAbs me s)\/∃m,S[p]?=some (.port m me s))(D:∀ws bs wc bc,DoesI f #[.pointer (some ⟨4,0,none⟩)] (dRo ws bs wc bc s me) v (dRo ws bs wc bc s me))(hv:zac v=true):
    TCalls Try.prog f (#[hndV p].map (ren F)) w (zcl mn OB WB F S w S v):=by
  obtain⟨m,hp⟩:∃m,S[p]?=some (.port m me s):=hp.elim (fun h=>⟨_,h⟩) id;obtain⟨⟨Y,hd⟩,ws,bs,hm⟩:=R.at' _ _ hp;obtain⟨X,hM⟩:=R.at' _ _ hm;have ha:#[hndV p].map (ren F)=#[qp (some ⟨4,0,none⟩)].map (ren (embM (F.blk (VB+m)) (F.base (VB+m)) (aux (F.slack (VB+m)) 1) X (aux (F.slack (VB+m)) 2) [(aux (F.slack (VB+p)) 1,Y.vpre.size),(F.blk (VB+p),F.base (VB+p))])):=by
    simp[hndV,adr,embC]
  rw[ha];refine(zsm (D ws bs X.wcap X.bcap) (zio hM hd) (by simp[VB]) rfl hv).mono fun e w' ⟨e1,K⟩=>?_
  rw[e1];exact zfy R K hv
theorem zr7{f:FuncId}{a g q:Nat}(R:Rep mn OB WB F S w)(h:S[k]?=some (.wp me s a g q))(D:ReadsI f #[.pointer (some ⟨0,0,none⟩)] [some (wpR me s)] v)(hv:zac v=true):
    TCalls Try.prog f (#[hndV k].map (ren F)) w (zcl mn OB WB F S w S v):=by
  obtain⟨_,told,fr,hr⟩:=R.at' _ _ h;have h0:=R.base _ _ h rfl;have ha:#[hndV k].map (ren F)=#[qp (some ⟨0,0,none⟩)].map (ren (embB [F.blk (VB+k)])):=by
    simp[hndV,adr,embB,h0]
  rw[ha];refine(zhe D (znY (fun _=>rfl) (fun n b hn=>?_) (fun n n' b c h1 h2 hne _=>?_)) (fun u hu=>?_) (fun n b hb u hu=>?_) (by simp[VB]) (fun n b hb=>?_) hv).mono fun e w' ⟨e1,K⟩=>(by rw[e1];exact zfy R K hv)
  . match n,hn with
    | 0,hn =>
      obtain rfl:b=wpR me s:=by simpa using hn.symm
      exact⟨rfl,_,fr,by show w.heap[F.blk (VB+k)]?=_;rw[hr];simp[zdB];rfl,fun z=>by cases z⟩
    | n+1,hn=>simp at hn
  . have l1:=(qz.1 h1).1;have l2:=(qz.1 h2).1;simp at l1 l2;omega
  . simp only[qk,zMc,zNm,or_false]at hu;subst hu;exact zfg (by simp)
  . match n,hb with
    | 0,hb =>
      obtain rfl:b=wpR me s:=by simpa[zaq] using hb.symm
      simp only[zMc,zNm,or_false]at hu;rcases hu with rfl|rfl<;>exact qh rfl
    | n+1,hb=>simp[zaq]at hb
  . match n,hb with
    | 0,hb =>
      obtain rfl:b=wpR me s:=by simpa[zaq] using hb.symm
      rfl
    | n+1,hb=>simp[zaq]at hb
def wOf(o:Option Nat)(i:Nat):Value:=match o with|none=>.pointer none|some _=>.pointer (some ⟨i,0,none⟩)
theorem zpF{o:Option Nat}{i n c:Nat}(h:i<n):Clo (Kn n c) (wOf o i):=by
  cases o with
  | none=>exact qh rfl
  | some _=>exact zfg h
abbrev embT(F:Emb)(k:Nat)(o1 o2:Option Nat):Emb:=embB [F.blk (VB+k),(o1.map fun c=>F.blk (VB+c)).getD 0,(o2.map fun c=>F.blk (VB+c)).getD 0]
theorem zuM(F:Emb)(k:Nat)(o1 o2:Option Nat):ren (embT F k o1 o2) (wOf o1 1)=ptrO F o1:=by
  cases o1<;>simp[wOf,ptrO,adr,embB]
theorem ztW(F:Emb)(k:Nat)(o1 o2:Option Nat):ren (embT F k o1 o2) (wOf o2 2)=ptrO F o2:=by
  cases o2<;>simp[wOf,ptrO,adr,embB]
theorem zlw{zs:List Value}(hz:∀u∈zs,zac u=true){f:FuncId}{self:Int}{quit:Nat}{closed busy:Bool}{cur:Option (Nat×Nat×Nat)}{pend:Option Nat}{x1 x2:Option Blk}(R:Rep true OB WB F S w)(h:S[k]?=some (.thr self quit closed busy cur pend))(D:ReadsI f (.pointer (some ⟨0,0,none⟩)::zs).toArray [some (thB self (wOf (cur.map (·.1)) 1) (cur.map (·.2.2)) (wOf pend 2) busy closed),x1,x2] v)(h1:∀b,x1=some b->b.grow=none/\b.ro=true/\(∀u∈b.cells,zac u=true)/\∃(c:Nat) (post:Array Value) (fr:Nat×Nat),cur.map (·.1)=some c/\w.heap[F.blk (VB+c)]?=some (.cells (b.cells.toArray++post) b.elem fr))(h2:∀b,x2=some b->b.grow=none/\b.ro=true/\(∀u∈b.cells,zac u=true)/\∃(c:Nat) (post:Array Value) (fr:Nat×Nat),pend=some c/\w.heap[F.blk (VB+c)]?=some (.cells (b.cells.toArray++post) b.elem fr))(hv:zac v=true):
    TCalls Try.prog f ((hndV k::zs).toArray.map (ren F)) w (zcl true OB WB F S w S v):=by
  obtain⟨_,_,_,hr⟩:=R.at' _ _ h rfl;have h0:=R.base _ _ h rfl;have ha:(hndV k::zs).toArray.map (ren F)=(qp (some ⟨0,0,none⟩)::zs).toArray.map (ren (embT F k (cur.map (·.1)) pend)):=by
    simp only[List.map_toArray,zMp];congr 1;congr 1
    . simp[hndV,adr,embB,h0]
    . exact qD fun u hu=>by rw[zaA _ (hz u hu),zaA _ (hz u hu)]
  rw[ha];have hpl:∀b:Blk,(∀u∈b.cells,zac u=true)->b.cells.map (ren (embT F k (cur.map (·.1)) pend))=b.cells:=fun b hb=>by
    have:b.cells.map (ren (embT F k (cur.map (·.1)) pend))=b.cells.map id:=qD fun u hu=>zaA _ (hb u hu);rw[this,List.map_id]
  have hall:∀(n:Nat) b,([some (thB self (wOf (cur.map (·.1)) 1) (cur.map (·.2.2)) (wOf pend 2) busy closed),x1,x2]:List (Option Blk))[n]?=some (some b)->b.grow=none/\b.ro=true/\(∀u∈b.cells,Clo (Kn 3 0) u)/\∃(post:Array Value) (fr:Nat×Nat),w.heap[(embT F k (cur.map (·.1)) pend).blk n]?=some (.cells ((b.cells.map (ren (embT F k (cur.map (·.1)) pend))).toArray++post) b.elem fr):=fun n b hn=>by
    match n,hn with
    | 0,hn =>
      obtain rfl:b=thB self (wOf (cur.map (·.1)) 1) (cur.map (·.2.2)) (wOf pend 2) busy closed:=by simpa using hn.symm
      refine⟨rfl,rfl,fun u hu=>?_,#[chV quit],(0,0),?_⟩
      . simp only[zMc,zNm,or_false]at hu;rcases hu with rfl|rfl|rfl|rfl|rfl|rfl
        . exact qh rfl
        . exact zpF (by decide)
        . exact fun F F' _=>(by rw[zd1,zd1])
        . exact zpF (by decide)
        . exact qh rfl
        . exact qh rfl
      . show w.heap[F.blk (VB+k)]?=_;rw[hr];simp only[zMp,zMn,zuM,ztW,zbr,za8,zd1];rfl
    | 1,hn =>
      obtain⟨g1,g2,g3,c,post,fr,g4,g5⟩:=h1 b (by simpa using hn)
      refine⟨g1,g2,fun u hu=>qh (g3 u hu),post,fr,?_⟩;rw[hpl b g3];have:(embT F k (cur.map (·.1)) pend).blk 1=F.blk (VB+c):=by simp[embB,g4]
      rw[this];exact g5
    | 2,hn =>
      obtain⟨g1,g2,g3,c,post,fr,g4,g5⟩:=h2 b (by simpa using hn)
      refine⟨g1,g2,fun u hu=>qh (g3 u hu),post,fr,?_⟩;rw[hpl b g3];have:(embT F k (cur.map (·.1)) pend).blk 2=F.blk (VB+c):=by simp[embB,g4]
      rw[this];exact g5
    | n+3,hn=>simp at hn
  have hget:∀n b,(zaq ([some (thB self (wOf (cur.map (·.1)) 1) (cur.map (·.2.2)) (wOf pend 2) busy closed),x1,x2]:List (Option Blk))).get n=some b->([some (thB self (wOf (cur.map (·.1)) 1) (cur.map (·.2.2)) (wOf pend 2) busy closed),x1,x2]:List (Option Blk))[n]?=some (some b):=fun n b hb=>by
    rw[zaN]at hb;cases hx:([some (thB self (wOf (cur.map (·.1)) 1) (cur.map (·.2.2)) (wOf pend 2) busy closed),x1,x2]:List (Option Blk))[n]? with
    | none=>rw[hx]at hb;cases hb
    | some y=>rw[hx]at hb;exact congrArg some hb
  refine(zhe D (znY (fun _=>rfl) (fun n b hn=>?_) (fun n n' b c h1 h2 hne hro=>?_)) (fun u hu=>?_) (fun n b hb u hu=>(hall n b (hget n b hb)).2.2.1 u hu) (by simp[VB]) (fun n b hb=>(hall n b (hget n b hb)).2.1) hv).mono fun e w' ⟨e1,K⟩=>(by rw[e1];exact zfy R K hv)
  . obtain⟨g1,g2,_,post,fr,g3⟩:=hall n b hn;exact⟨g1,post,fr,g3,fun z=>by rw[g2]at z;cases z⟩
  . rw[(hall n b h1).2.1]at hro;cases hro
  . rcases List.mem_cons.1 (qk.1 hu) with rfl|hu
    . exact zfg (by simp)
    . exact qh (hz u hu)
theorem zlt{o:Ob}(R:Rep mn OB WB F S w)(hF:Same (fun n=>n<VB+S.length) F F')(K:Kept w (fun _=>False) w')(hbs:rowB o=true->F'.base (VB+S.length)=0)(hat:obAt mn OB WB F' (S++[o]) w' S.length o)(hnew:∀b∈zax mn F' S.length o,w.heap.size<=b):
    Rep mn OB WB F' (S++[o]) w'/\Kept w (fpS mn F S) w'/\∀b,fpS mn F' (S++[o]) b->fpS mn F S b\/w.heap.size<=b:=by
  obtain⟨R',hfp⟩:Rep mn OB WB F' S w/\∀b,fpS mn F' S b->fpS mn F S b:=Rep.same (hF.mono fun n hn=>hn.2) R;have hlen:(S++[o]).length=S.length+1:=by simp
  have hself:(S++[o])[S.length]?=some o:=by simp
  have hold:∀i,i<S.length->(S++[o])[i]?=S[i]?:=fun i hi=>qb hi;have hcase:∀(i:Nat) ob,(S++[o])[i]?=some ob->S[i]?=some ob\/(i=S.length/\ob=o):=fun i ob hi=>by
    have:=zaG hi;rw[hlen]at this;by_cases z:i<S.length
    . rw[hold i z]at hi;exact .inl hi
    . have z:i=S.length:=by omega
      subst z;rw[hself]at hi;exact .inr ⟨rfl,(qm hi).symm⟩
  have hlow:∀(i:Nat) ob,S[i]?=some ob->∀b∈zax mn F' i ob,b<w.heap.size:=fun i ob ho b hb=>by
    obtain⟨c,el,fr,h1⟩:=zfF (R'.at' i ob ho) b hb;exact zab h1
  refine⟨⟨fun i ob hi hr=>?_,fun i ob hi=>?_,fun i i' ob ob' hne hi hi' x hx hx'=>?_,fun i ob hi x hx hW=>?_,fun b hb=>ql (R.wlow b hb) K.size⟩,⟨K.os,K.tape,K.output,K.size,fun b hl _=>K.block b hl id⟩,fun b ⟨i,ob,hi,hb⟩=>?_⟩
  . rcases hcase i ob hi with h|⟨rfl,rfl⟩
    . exact R'.base i ob h hr
    . exact hbs hr
  . rcases hcase i ob hi with h|⟨rfl,rfl⟩
    . have h1:=zdL (R'.at' i ob h) fun x hx=>K.block x (hlow i ob h x hx) id;cases ob with
      | port m me st=>obtain⟨z1,ws0,bs0,z2⟩:=h1;exact⟨z1,ws0,bs0,(hold m (zaG z2)).trans z2⟩
      | thr a b c d e f=>intro y;obtain⟨a1,a2,a3,a4⟩:=h1 y;exact⟨a1,fun c hc=>by rw[hlen];have:=a2 c hc;omega,fun c hc=>by rw[hlen];have:=a3 c hc;omega,a4⟩
      | mem=>exact h1
      | wp=>exact h1
      | acc=>exact h1
      | box=>exact h1
    . exact hat
  . rcases hcase i ob hi with h|⟨rfl,rfl⟩<;>rcases hcase i' ob' hi' with h'|⟨rfl,rfl⟩
    . exact R'.apart i i' ob ob' hne h h' x hx hx'
    . have:=hlow i ob h x hx;have:=hnew x hx';omega
    . have:=hlow i' ob' h' x hx';have:=hnew x hx;omega
    . exact hne rfl
  . rcases hcase i ob hi with h|⟨rfl,rfl⟩
    . exact R'.waits i ob h x hx hW
    . have:=hnew x hx;have:=R.wlow x hW;omega
  . rcases hcase i ob hi with h|⟨rfl,rfl⟩
    . exact .inl (hfp b ⟨i,ob,h,hb⟩)
    . exact .inr (hnew b hb)
def Emb.addE(F:Emb)(k:Nat)(b o s:Nat):Emb:=⟨fun n=>if n=k then b else F.blk n,fun n=>if n=k then o else F.base n,fun n=>if n=k then s else F.slack n⟩
theorem Emb.addE_same{F:Emb}{b o:Nat}:Same (fun n=>n<k) F (F.addE k b o s):=fun n hn=>by
  have hn:n<k:=hn;have:n≠k:=by omega
  simp[Emb.addE,this]
theorem zgN{f:FuncId}{args:Array Value}{l l1:List (Option Blk)}(D:MakesI f args l v l1)(hl:∀x∈l,x=none)(hst:∀u∈args,Clo (Kn l.length 0) u)(hL:l.length<=VB):
    TCalls Try.prog f (args.map (ren Ft)) w fun e w'=>∃Ft',e=.returned (ren Ft' v)/\Holds Ft' (zaq l1) w'/\Same (Kn l.length 0) Ft Ft'/\Kept w (fun _=>False) w'/\∀n b,(zaq l1).get n=some b->b.ro=false->w.heap.size<=Ft'.blk n:=by
  obtain⟨g,c,h1,h2,G⟩:=D;have hg0:∀n b,(zaq l).get n=some b->False:=fun n b hb=>by
    rw[zaN]at hb;cases hx:l[n]? with
    | none=>rw[hx]at hb;cases hb
    | some y =>
      rw[hl y (qB hx)]at hx;rw[hx]at hb;cases hb
  refine(zfV (Q:=fun v' h'=>v'=v/\h'=zaq l1) h1 h2 G (fun x hx=>⟨v,_,hx,rfl,rfl⟩) ⟨fun n b hb=>(hg0 n b hb).elim,fun n m b c hb=>(hg0 n b hb).elim⟩ (fun u hu=>(hst u hu).stab Ft) (fun n b hb u hu=>(hg0 n b hb).elim) hL).mono fun e w' ⟨v',h',Ft',e1,⟨e2,e3⟩,e4,e5,e6,e7⟩=>?_;subst e2 e3;refine⟨Ft',e1,e4,e5,⟨e6.os,e6.tape,e6.output,e6.size,fun b hb _=>e6.block b hb fun⟨n,bb,z1,_⟩=>hg0 n bb z1⟩,fun n b hb hro=>?_⟩;refine qM fun hlt=>?_;obtain⟨n',bb,z1,_⟩:=e7 n b hb hro hlt;exact hg0 n' bb z1
theorem zpA{m:Nat}{ws:List UInt64}{bs:List UInt8}(R:Rep mn OB WB F S w)(h:S[m]?=some (Ob.mem ws bs)):TCalls Try.prog 14 (#[hndV m,.int .i64 me].map (ren F)) w (zcl mn OB WB F S w (S++[.port m me 0]) (hndV S.length)):=by
  have hml:=zaG h;have ha:#[hndV m,.int .i64 me].map (ren F)=#[qp (some ⟨0,0,none⟩),.int .i64 me].map (ren (embC [(F.blk (VB+m),F.base (VB+m))])):=by
    simp[hndV,adr,embC]
  rw[ha];refine(zgN (ztP me) (fun x hx=>by simpa using hx) (fun u hu=>?_) (by simp[VB])).mono fun e w' ⟨Ft',e1,H,hs,K,hfr⟩=>?_
  . simp only[qk,zMc,zNm,or_false]at hu;rcases hu with rfl|rfl
    . exact zfg (by simp)
    . exact qh rfl
  obtain⟨s1,s2,_⟩:=hs 0 (.inl (by simp))
  have s1:F.blk (VB+m)=Ft'.blk 0:=s1;have s2:F.base (VB+m)=Ft'.base 0:=s2;obtain⟨p1,q1,fr1,r1,r2,r3,_⟩:=H.row 1 _ rfl;obtain⟨p2,q2,fr2,t1,t2,t3,_⟩:=H.row 2 _ rfl;have f1:=hfr 1 _ rfl rfl;have f2:=hfr 2 _ rfl rfl;rw[r3 rfl]at r1;rw[t3 rfl]at t1;have hne:∀i,i<S.length->VB+i≠VB+S.length:=fun i hi=>by omega
  have hE:Same (fun n=>n<VB+S.length) F (F.addE (VB+S.length) (Ft'.blk 2) (Ft'.base 2) (code (Ft'.blk 1) 0)):=Emb.addE_same;have eb:(F.addE (VB+S.length) (Ft'.blk 2) (Ft'.base 2) (code (Ft'.blk 1) 0)).blk (VB+S.length)=Ft'.blk 2:=if_pos rfl;have eo:(F.addE (VB+S.length) (Ft'.blk 2) (Ft'.base 2) (code (Ft'.blk 1) 0)).base (VB+S.length)=Ft'.base 2:=if_pos rfl;have es:(F.addE (VB+S.length) (Ft'.blk 2) (Ft'.base 2) (code (Ft'.blk 1) 0)).slack (VB+S.length)=code (Ft'.blk 1) 0:=if_pos rfl;have em:(F.addE (VB+S.length) (Ft'.blk 2) (Ft'.base 2) (code (Ft'.blk 1) 0)).blk (VB+m)=Ft'.blk 0:=(if_neg (hne m hml)).trans s1;have en:(F.addE (VB+S.length) (Ft'.blk 2) (Ft'.base 2) (code (Ft'.blk 1) 0)).base (VB+m)=Ft'.base 0:=(if_neg (hne m hml)).trans s2;generalize F.addE (VB+S.length) (Ft'.blk 2) (Ft'.base 2) (code (Ft'.blk 1) 0)=F' at *;obtain⟨z1,z2,z3⟩:=zlt (o:=.port m me 0) R hE K (fun z=>by cases z) ⟨⟨(⟨p2,#[.pointer none]++q2,p1,q1,by rw[eo];exact t2⟩:DirP (F'.base (VB+S.length))),⟨by
      show w'.heap[F'.blk (VB+S.length)]?=_;rw[eb,t1,es,zmn];simp[adr,r2],by
      show w'.heap[aux (F'.slack (VB+S.length)) 1]?=_;rw[es,zmn,r1,em,en];simp[adr]⟩⟩,ws,bs,by rw[qb hml];exact h⟩ (fun b hb=>by
      simp only[zax,zMc,zNm,or_false]at hb;rcases hb with rfl|rfl
      . rw[eb];exact f2
      . rw[es,zmn];exact f1)
  exact⟨F',hE,by rw[e1];simp[hndV,adr,eb,eo],z1,z2,z3⟩
theorem zmQ(a:Nat):zbu [qI .u64 0] a=wL (qg a 0):=by
  induction a with
  | zero=>rfl
  | succ n ih=>simp only[zbu,ih,qC];rfl
theorem zmu(a:Nat):zbu [qI .u8 0] a=bL (qg a 0):=by
  induction a with
  | zero=>rfl
  | succ n ih=>simp only[zbu,ih,qC];rfl
theorem zpr{a b:Nat}(R:Rep mn OB WB F S w)(ha:a<=2097152)(hb:b<=1048576):TCalls Try.prog 19 (#[.int .i64 (a:Int),.int .i64 (b:Int)].map (ren F)) w (zcl mn OB WB F S w (S++[.mem (qg a 0) (qg b 0)]) (.tuple #[hndV S.length,.int .i64 0])):=by
  refine(zgN (Ft:=F) (ztl a b ha hb) (fun x hx=>by cases hx) (fun u hu=>?_) (by simp)).mono fun e w' ⟨Ft',e1,H,hs,K,hfr⟩=>?_
  . simp only[qk,zMc,zNm,or_false]at hu;rcases hu with rfl|rfl<;>exact qh rfl
  obtain⟨p0,q0,fr0,o1,o2,o3,_⟩:=H.row 0 _ rfl;obtain⟨p1,q1,fr1,r1,r2,r3,_⟩:=H.row 1 _ rfl;obtain⟨p2,q2,fr2,t1,t2,t3,_⟩:=H.row 2 _ rfl;have f0:=hfr 0 _ rfl rfl;have f1:=hfr 1 _ rfl rfl;have f2:=hfr 2 _ rfl rfl;rw[o3 rfl]at o1;rw[r3 rfl]at r1;rw[t3 rfl]at t1;have hE:Same (fun n=>n<VB+S.length) F (F.addE (VB+S.length) (Ft'.blk 2) (Ft'.base 2) (code (Ft'.blk 0) (Ft'.blk 1))):=Emb.addE_same;have eb:(F.addE (VB+S.length) (Ft'.blk 2) (Ft'.base 2) (code (Ft'.blk 0) (Ft'.blk 1))).blk (VB+S.length)=Ft'.blk 2:=if_pos rfl;have eo:(F.addE (VB+S.length) (Ft'.blk 2) (Ft'.base 2) (code (Ft'.blk 0) (Ft'.blk 1))).base (VB+S.length)=Ft'.base 2:=if_pos rfl;have es:(F.addE (VB+S.length) (Ft'.blk 2) (Ft'.base 2) (code (Ft'.blk 0) (Ft'.blk 1))).slack (VB+S.length)=code (Ft'.blk 0) (Ft'.blk 1):=if_pos rfl;generalize F.addE (VB+S.length) (Ft'.blk 2) (Ft'.base 2) (code (Ft'.blk 0) (Ft'.blk 1))=F' at *;obtain⟨z1,z2,z3⟩:=zlt (o:=.mem (qg a 0) (qg b 0)) R hE K (fun z=>by cases z) ⟨(⟨p2,q2,p0,q0,a+Ft'.slack 0,p1,q1,b+Ft'.slack 1,by rw[eo];exact t2⟩:MemP (F'.base (VB+S.length))),⟨by
      show w'.heap[F'.blk (VB+S.length)]?=_;rw[eb,t1,es,zmn,zrJ];simp[adr,o2,r2],by
      show w'.heap[aux (F'.slack (VB+S.length)) 1]?=_;rw[es,zmn,o1];simp only[zmQ,zbP];rw[zfv],by
      show w'.heap[aux (F'.slack (VB+S.length)) 2]?=_;rw[es,zrJ,r1];simp only[zmu,zbP];rw[zfs],by simpa using ha,by simpa using hb⟩⟩ (fun x hx=>by
      simp only[zax,zMc,zNm,or_false]at hx;rcases hx with rfl|rfl|rfl
      . rw[eb];exact f2
      . rw[es,zmn];exact f0
      . rw[es,zrJ];exact f1)
  exact⟨F',hE,by rw[e1];simp[hndV,adr,eb,eo],z1,z2,z3⟩
theorem prim_ok{f:FuncId}{args:Array Value}{S':St}(h:Prim f args S v S')(R:Rep mn OB WB F S w):TCalls Try.prog f (args.map (ren F)) w (zcl mn OB WB F S w S' v):=by
  cases h with
  | pure h ha hv=>exact zod R (h w) ha hv
  | @word k ws bs S n h =>
    have h1:=zgJ (zs:=#[.int .i64 n]) R h (fun wc bc=>ztz ws bs wc bc n) (by simp[zac]) (by simp[zac]) rfl rfl
    rw[zfi h]at h1;exact h1
  | @do' k ws bs S c n A B h h1 h4=>exact zgJ (zs:=#[accV c n A B]) R h (fun wc bc=>zry ws bs wc bc c n A B h1 h4) (by simp[zac,accV]) (by simp[zac]) (zhy ..) rfl
  | @load p m me st ws bs S n h hm hs =>
    rw[zhK];exact zkg (zs:=#[.int .i64 n]) R h hm (fun wc bc=>zrz ws bs wc bc st me n hs) (by simp[zac]) (by simp[zac]) rfl rfl
  | @cas p m me st ws bs S n A B h hm hs=>exact zkg (zs:=#[.int .i64 n,.int .u64 (A.toNat:Int),.int .u64 (B.toNat:Int)]) R h hm (fun wc bc=>zto ws bs wc bc st me n A B hs) (by simp[zac]) (by simp[zac]) (zhy ..) rfl
  | @self p m me st S h=>exact zjA (s:=st) R (.inr ⟨m,h⟩) (fun ws bs wc bc=>zrB ws bs wc bc st me) rfl
  | @steps p m me st S h=>exact zjA (s:=st) R (.inr ⟨m,h⟩) (fun ws bs wc bc=>zp4 ws bs wc bc st me) rfl
  | @dget k ws bs S n A B h =>
    have h1:=zgJ (zs:=#[accV 5 n A B]) R h (fun wc bc=>zsL ws bs wc bc n A B) (by simp[zac,accV]) (by simp[zac]) rfl rfl
    rw[zfi h]at h1;exact h1
  | @dput k ws bs S n A B h=>exact zgJ (zs:=#[accV 6 n A B]) R h (fun wc bc=>zsx ws bs wc bc n A B) (by simp[zac,accV]) (by simp[zac]) rfl (zjq ..)
  | @wself k me st a b c S h=>exact zr7 R h (zsG me st) rfl
  | @pnew m me ws bs S h=>exact zpA R h
  | mnew a b ha hb=>exact zpr R ha hb
theorem zpQ{f:FuncId}{args:Array Value}{S':St}(h:PrimM f args S v S')(R:Rep true OB WB F S w):TCalls Try.prog f (args.map (ren F)) w (zcl true OB WB F S w S' v):=by
  cases h with
  | com h=>exact prim_ok h R
  | idle h=>exact zlw (zs:=[]) (fun _ z=>by cases z) R h (ztf _ _ _ _ _) (fun _ z=>by cases z) (fun _ z=>by cases z) (by simp[zac,accZ,accV])
  | @pend k p self quit closed b cur S c n A B h hp =>
    refine zlw (zs:=[]) (fun _ z=>by cases z) (x1:=none) (x2:=some (aR c n A B)) R h (zsW _ _ _ _ _ _ _ _ _) (fun _ z=>by cases z) (fun b z=>?_) (by simp[zac,accV])
    obtain rfl:=qm z;exact⟨rfl,rfl,fun u hu=>by simp only[zMc,zNm,or_false]at hu;rcases hu with rfl|rfl|rfl|rfl<;>rfl,p,#[],(0,0),rfl,by simpa[zgp] using show w.heap[F.blk (VB+p)]?=some (.cells (zgp c n A B) 64 (0,0)) from R.at' _ _ hp⟩
end
theorem zdp(mn:Bool)(OB WB:Nat->Prop):zat mn OB WB:=by
  intro f args S v S' F w h R;cases mn with
  | true=>exact zpQ h R
  | false=>exact prim_ok h R
end Go.Proofs.Ytpkkfkebnhgaiaa
namespace Go.Proofs.Ytpkkfkebnhgaiaa
open Go Go.Conc
open Go.ConcN (sumTo upd sumTo_upd upd_ne upd_same)
variable {k N C hp gid dn ask n0 n:Nat}
section
variable (hok:∀ mn OB WB,zat mn OB WB)
variable {OB WB:Nat->Prop}{F:Emb}{hs hs' hs2:AHeap}{S:St}{w w':World}
theorem zgB{a b c d e f a' b' c' d' e' f'}(hk:S[k]?=some (Ob.thr a b c d e f))(R:Rep false OB WB F S w):Rep false OB WB F (S.set k (.thr a' b' c' d' e' f')) w/\∀x,fpS false F (S.set k (.thr a' b' c' d' e' f')) x->fpS false F S x:=by
  have hlen:(S.set k (Ob.thr a' b' c' d' e' f')).length=S.length:=by simp
  have hself:(S.set k (Ob.thr a' b' c' d' e' f'))[k]?=some (.thr a' b' c' d' e' f'):=qe (zaG hk);have hne:∀i,i≠k->(S.set k (Ob.thr a' b' c' d' e' f'))[i]?=S[i]?:=fun i hi=>qd (qy hi);have hblk:∀(i:Nat) ob2,(S.set k (Ob.thr a' b' c' d' e' f'))[i]?=some ob2->∃ob,S[i]?=some ob/\zax false F i ob2=zax false F i ob:=fun i ob2 hi=>by
    by_cases z:i=k
    . subst z;rw[hself]at hi;cases hi;exact⟨_,hk,rfl⟩
    . rw[hne i z]at hi;exact⟨_,hi,rfl⟩
  refine⟨⟨fun i ob2 hi hr=>?_,fun i ob2 hi=>?_,fun i i' ob ob' hne' hi hi' x hx hx'=>?_,fun i ob2 hi x hx hW=>?_,R.wlow⟩,fun x ⟨i,ob2,hi,hx⟩=>?_⟩
  . by_cases z:i=k
    . subst z;exact R.base i _ hk rfl
    . rw[hne i z]at hi;exact R.base i _ hi hr
  . by_cases z:i=k
    . subst z;rw[hself]at hi;cases hi;intro z;cases z
    . rw[hne i z]at hi;refine zpv (S:=S) (fun m ws bs hm=>?_) hlen (R.at' i _ hi);rw[hne]
      . exact hm
      rintro rfl;rw[hk]at hm;cases hm
  . obtain⟨o1,g1,g2⟩:=hblk i ob hi;obtain⟨o2,g3,g4⟩:=hblk i' ob' hi';exact R.apart i i' o1 o2 hne' g1 g3 x (g2▸hx) (g4▸hx')
  . by_cases z:i=k
    . subst z;rw[hself]at hi;cases hi;simp[zax]at hx
    . rw[hne i z]at hi;exact R.waits i _ hi x hx hW
  . obtain⟨ob,h1,h2⟩:=hblk i ob2 hi;exact⟨i,ob,h1,h2▸hx⟩
theorem zo1{a b c d e f a' b' c' d' e' f'}(hk:S[k]?=some (Ob.thr a b c d e f))(H:RInv (XB hok OB WB) F (.run [] [] hs S) w):RInv (XB hok OB WB) F (.run [] [] hs (S.set k (.thr a' b' c' d' e' f'))) w:=by
  obtain⟨I,hV⟩:=H;have I:AInv (XB hok OB WB) F w (fun _=>True) (Kn hs.next S.length) (fun v=>v∈([]:List Value)) hs S w:=I;obtain⟨h1,h2⟩:=zgB (a':=a') (b':=b') (c':=c') (d':=d') (e':=e') (f':=f') hk I.rep;refine⟨?_,hV⟩;show AInv (XB hok OB WB) F w (fun _=>True) (Kn hs.next (S.set k (Ob.thr a' b' c' d' e' f')).length) (fun v=>v∈([]:List Value)) hs (S.set k (.thr a' b' c' d' e' f')) w;rw[show(S.set k (Ob.thr a' b' c' d' e' f')).length=S.length by simp]
  refine⟨I.holds,h1,fun v hv=>(by cases hv),I.hst,I.hk,?_,?_,Kept.refl _ _,fun _ _ _ _ _=>trivial,fun _ _ _=>trivial,fun n r hr hf=>I.sep n r hr (h2 _ hf)⟩
  . intro n hn1 hn2;refine I.hand n hn1 ?_;have hn2:n<VB+(S.set k (Ob.thr a' b' c' d' e' f')).length:=hn2;show n<VB+S.length;simpa using hn2
  . intro n hn;have:n<VB+S.length:=I.klim n hn;show n<VB+(S.set k (Ob.thr a' b' c' d' e' f')).length;simpa using this
theorem zp1(R:Rep false OB WB F S w)(hO:∀(k:Nat) a b c d e f,S[k]?=some (Ob.thr a b c d e f)->OB (F.blk (VB+k)))(ht:∀(k:Nat) a b c d e f,S[k]?=some (Ob.thr a b c d e f)->obAt true OB WB F S w k (.thr a b c d e f))(hv:∀x,OB x->¬fpS false F S x)(hd:∀(k k':Nat) a b c d e f a' b' c' d' e' f',k≠k'->S[k]?=some (Ob.thr a b c d e f)->S[k']?=some (Ob.thr a' b' c' d' e' f')->F.blk (VB+k)≠F.blk (VB+k'))(hap:∀x,OB x->¬WB x):Rep true OB WB F S w:=by
  have hthr:∀ob:Ob,(∃a b c d e f,ob=.thr a b c d e f)\/∀a b c d e f,ob≠.thr a b c d e f:=fun ob=>by
    cases ob with
    | thr a b c d e f=>exact .inl ⟨a,b,c,d,e,f,rfl⟩
    | _=>exact .inr fun _ _ _ _ _ _ z=>by cases z
  refine⟨R.base,fun k ob hk=>?_,fun k k' ob ob' hne hk hk' x hx hx'=>?_,fun k ob hk x hx hW=>?_,R.wlow⟩
  . rcases hthr ob with⟨a,b,c,d,e,f,rfl⟩|h
    . exact ht _ _ _ _ _ _ _ hk
    . exact znz h (R.at' k ob hk)
  . rcases hthr ob with⟨a,b,c,d,e,f,rfl⟩|h<;>rcases hthr ob' with⟨a',b',c',d',e',f',rfl⟩|h'
    . simp only[zax,if_true,zMc,zNm,or_false]at hx hx';exact hd _ _ _ _ _ _ _ _ _ _ _ _ _ _ hne hk hk' (hx.symm.trans hx')
    . simp only[zax,if_true,zMc,zNm,or_false]at hx;exact hv x (hx▸hO _ _ _ _ _ _ _ hk) ⟨k',ob',hk',zc6 h' hx'⟩
    . simp only[zax,if_true,zMc,zNm,or_false]at hx';exact hv x (hx'▸hO _ _ _ _ _ _ _ hk') ⟨k,ob,hk,zc6 h hx⟩
    . exact R.apart k k' ob ob' hne hk hk' x (zc6 h hx) (zc6 h' hx')
  . rcases hthr ob with⟨a,b,c,d,e,f,rfl⟩|h
    . simp only[zax,if_true,zMc,zNm,or_false]at hx;exact absurd hW (hap x (hx▸hO _ _ _ _ _ _ _ hk))
    . exact R.waits k ob hk x (zc6 h hx) hW
structure zsE {Γ:Type} (Pr:Proto Γ) (d:BD Γ) (γ:Γ) (hs hs':AHeap) (S0:St):Prop where
  ok:d.Ok
  lend:LendH hs hs'
  inv:RInv (XM hok d.p.OB d.p.WB) d.p.FR (.run [] [] hs S0) d.p.wR
  len:S0.length=d.S.length
  nr:d.p.NR=hs.next
  cr:d.p.CR=S0.length
  px:∀x,znO d.p.FR hs hs' x->d.p.PX x
  tb:d.tb=d.p.FR.blk (VB+d.k)
  wro:∀n r,hs.get n=some r->d.p.WB (d.p.FR.blk n)->r.ro=true
  rows:∀(i:Nat) a b c x e f,(d.S.set d.k (.thr d.self d.quit false true (some (d.hp,d.p.h,d.dn)) none))[i]?=some (Ob.thr a b c x e f)->(∀c,e=some c->c.1<d.S.length)/\(∀p,f=some p->p<d.S.length)/\d.wN.heap[d.p.FR.blk (VB+i)]?=some (.cells (zaT d.p.FR a b c x e f) 53 (0,0))
  dist:∀k k':Nat,k≠k'->(∃a b c x e f,(d.S.set d.k (.thr d.self d.quit false true (some (d.hp,d.p.h,d.dn)) none))[k]?=some (Ob.thr a b c x e f))->(∃a b c x e f,(d.S.set d.k (.thr d.self d.quit false true (some (d.hp,d.p.h,d.dn)) none))[k']?=some (Ob.thr a b c x e f))->d.p.FR.blk (VB+k)≠d.p.FR.blk (VB+k')
  su:d.Su=SuM hok Pr () γ
  ph:∀i,i≠d.k->Pr.ph d.γ i=Pr.ph γ i
  fuel:Pr.fuel d.γ<=Pr.fuel γ
  base0:∀n r,hs.get n=some r->r.ro=false->d.p.n0<=d.p.FR.blk n
end
section
variable {F F':Emb}{S:St}{x:Nat}
theorem zg4{a b c d e f a' b' c' d' e' f'}(hk:S[k]?=some (Ob.thr a b c d e f))(h:fpS true F (S.set k (.thr a' b' c' d' e' f')) x):fpS true F S x:=by
  obtain⟨i,ob,hi,hx⟩:=h;by_cases z:i=k
  . subst z;rw[qe (zaG hk)]at hi;cases hi;exact⟨i,_,hk,hx⟩
  . rw[qd (qy z)]at hi;exact⟨i,ob,hi,hx⟩
theorem zgz{o:Ob}(ho:zr6 o=true)(hF:Same (fun n=>VB<=n/\n<VB+S.length) F F')(h:fpS true F' (S++[o]) x):fpS true F S x\/x=F'.blk (VB+S.length):=by
  obtain⟨i,ob,hi,hx⟩:=h;by_cases z:i<S.length
  . rw[qb z]at hi;rw[zdD hF z]at hx;exact .inl ⟨i,ob,hi,hx⟩
  . have:=zaG hi;have z:i=S.length:=by simp at this;omega
    subst z;rw[List.getElem?_append_right (qa _),Nat.sub_self]at hi;cases hi;rw[zlh ho]at hx;exact .inr (by simpa using hx)
theorem znJ(h:fpS true F S x):(∃k a b c d e f,S[k]?=some (Ob.thr a b c d e f)/\x=F.blk (VB+k))\/fpS false F S x:=by
  obtain⟨i,ob,hi,hx⟩:=h;cases ob with
  | thr a b c d e f=>exact .inl ⟨i,_,_,_,_,_,_,hi,by simpa[zax] using hx⟩
  | _=>exact .inr ⟨i,_,hi,hx⟩
end
variable {Inb:Nat->Option Seat}{gs:Array Goroutine}{w w0:World}{T:Trace}{hs hs':AHeap}{fr:Frame}{cs:List Frame}{m:Machine}
section
variable (hok:∀ mn OB WB,zat mn OB WB)
variable {Γ:Type}(Pr:Proto Γ)
def znT(n00:Nat)(w00:World)(d:BD Γ)(hs hs':AHeap)(n0 c0:Nat)(fr:Frame)(cs:List Frame)(m:Machine)(T:Trace):Prop :=
  ∃(gs:Array Goroutine) (w:World) (sl:Option (Nat×Nat)) (F:Emb) (hs2:AHeap) (γ2:Γ) (Inb:Nat->Option Seat) (p:Par) (S3:St),m=crowd gs w sl/\gs[0]?=some (qj (fr.finish (.tuple #[])) cs)/\ClM n00 w00 () (γ2,S3) p/\Standing p hok (SuM hok Pr () γ2) S3 F (.run [] [] (uniH hs hs' hs2) S3) Inb gs w T /\
    Same (Kn n0 c0) d.p.FR F/\n0<=hs2.next/\Pr.Inv γ2 hs2 d.S/\Pr.FC γ2 d.γ/\(∀i,i≠d.k->Pr.ph γ2 i=Pr.ph d.γ i) /\
    ((∃q,Pr.ph γ2 d.k=some q/\S3=d.S.set d.k (.thr d.self d.quit false true (some (d.hp,d.p.h,d.dn)) (some d.S.length))++[.acc (Pr.acc q).1 (Pr.acc q).2.1 (Pr.acc q).2.2.1 (Pr.acc q).2.2.2]) \/
      (Pr.ph γ2 d.k=none/\S3=d.S.set d.k (.thr d.self d.quit false false (some (d.hp,d.p.h,d.dn)) none)))
variable {Pr}
theorem zi2{p:Par}{Su:SuT}{S:St}{F:Emb}(H:Com p Su S F N C Inb gs w T){x:Nat}(hx:p.OB x):(∀i s,Inb i=some s->¬s.has x)/\¬p.WB x:=by
  obtain⟨B,Mem,q,R,_⟩:=H.ring;exact⟨fun i s hi hs=>R.far i s x hi hs hx,R.apart x hx⟩
theorem zfT{p:Par}{Su:SuT}{S:St}{F:Emb}(H:Com p Su S F N C Inb gs w T)(hW:∀x,p.WB x->∃cc el,w.heap[x]?=some (.cells cc el (0,0))/\cc.size≠0):∀b,zf9 p.OB p.WB Inb b->b<w.heap.size:=fun b hb=>by
  obtain⟨B,Mem,q,R,_⟩:=H.ring;rcases hb with hb|hb|⟨i,s,hi,hs⟩
  . exact H.tab.olow b hb
  . obtain⟨_,_,h1,_⟩:=hW b hb;exact zab h1
  . obtain⟨cap,k,hx⟩:=R.chans i s b (fun z=>z) hi hs;exact zab hx
theorem zjB{n00:Nat}{w00:World}{d:BD Γ}{γ:Γ}{S0:St}(L:zsE hok Pr d γ hs hs' S0)(hcs:d.cs0=fr::cs)(hn00:d.p.n0=n00)(hw00:d.p.w0=w00)(H:Came hok Pr (BSusp hok Pr) d m T):Reach Try.prog m T (znT hok Pr n00 w00 d hs hs' hs.next S0.length fr cs):=by
  obtain⟨gs,w,sl,F,hs2,γ2,kk,val,Inb,S',Su',Iv',rfl,hg,hph,hfu,hInv,hF,hnx,hown,hB,hov,hpx,hwr,hro,hbase,hCom,hcase⟩:=H;rw[L.nr,L.cr]at hF;rw[L.nr]at hnx;have hthr:=L.ok.thr;have hkl:=zaG hthr;have hlenS:=L.len
  -- the state with nothing pending
  let S1:St:=d.S.set d.k (.thr d.self d.quit false true (some (d.hp,d.p.h,d.dn)) none)
  have hS1:S1[d.k]?=some (.thr d.self d.quit false true (some (d.hp,d.p.h,d.dn)) none):=qe hkl;have hl1:S1.length=d.S.length:=by simp[S1]
  have hkc:KeepC d.S S1:=KeepC.pend hthr none;have hbl:∀i,i<d.S.length->F.blk (VB+i)=d.p.FR.blk (VB+i):=fun i hi=>((hF (VB+i) (.inr ⟨by omega,by omega⟩)).1).symm
  have htb:d.tb=F.blk (VB+d.k):=by rw[L.tb,hbl _ hkl]
  have t:=hCom.tab;have hthr':∃a b c x e f,S'[d.k]?=some (Ob.thr a b c x e f):=by
    rcases hcase with⟨_,q,_,_,rfl,_⟩|⟨_,_,_,rfl,_⟩
    . exact⟨_,_,_,_,_,_,hthr⟩
    . exact⟨_,_,_,_,_,_,zfD hthr⟩
  have hOBk:∀(i:Nat) a b c x e f,S1[i]?=some (Ob.thr a b c x e f)->d.p.OB (F.blk (VB+i)):=fun i a b c x e f hi=>by
    refine(t.obs _).2 ?_;by_cases z:i=d.k
    . obtain⟨a1,a2,a3,a4,a5,a6,h⟩:=hthr';exact⟨d.k,a1,a2,a3,a4,a5,a6,h,by rw[z]⟩
    . have h0:d.S[i]?=some (Ob.thr a b c x e f):=by
        have:S1[i]?=d.S[i]?:=qd (qy z);rw[<-this];exact hi
      refine⟨i,a,b,c,x,e,f,?_,rfl⟩;rcases hcase with⟨_,q,_,_,rfl,_⟩|⟨_,_,_,rfl,_⟩
      . exact h0
      . rw[ze2 z];exact h0
  have hOtb:d.p.OB d.tb:=by rw[htb];exact hOBk _ _ _ _ _ _ _ hS1
  have hB1:RInv (XB hok d.p.OB d.p.WB) F (.run [] [] hs2 S1) w:=zo1 hok hthr hB;have hov1:∀x,d.p.OB x->¬Vis (XB hok d.p.OB d.p.WB) F (.run [] [] hs2 S1) x:=fun x hx hv=>hov x hx (hv.imp id fun h=>(zgB hthr hB.1.rep).2 x h);have hrow:∀(i:Nat) a b c x e f,S1[i]?=some (Ob.thr a b c x e f)->obAt true d.p.OB d.p.WB F S1 w i (.thr a b c x e f):=fun i a b c x e f hi=>by
    have hil:i<d.S.length:=by rw[<-hl1];exact zaG hi
    obtain⟨h1,h2,h3⟩:=L.rows i a b c x e f hi;intro _;refine⟨hOBk _ _ _ _ _ _ _ hi,fun c hc=>by rw[hl1];exact h1 c hc,fun c hc=>by rw[hl1];exact h2 c hc,?_⟩
    rw[hown _ (hOBk _ _ _ _ _ _ _ hi),hbl i hil,h3];rw[zgQ (F:=d.p.FR) (F':=F) (S:=S0) (hF.mono fun n hn=>.inr hn) (fun c hc=>by rw[hlenS];exact h1 c hc) (fun c hc=>by rw[hlenS];exact h2 c hc)]
  have hap:∀x,d.p.OB x->¬d.p.WB x:=by obtain⟨_,_,_,R,_⟩:=hCom.ring;exact R.apart
  have hinv:=L.inv;have hdist:∀(k k':Nat) a b c x e f a' b' c' x' e' f',k≠k'->S1[k]?=some (Ob.thr a b c x e f)->S1[k']?=some (Ob.thr a' b' c' x' e' f')->F.blk (VB+k)≠F.blk (VB+k'):=fun k k' a b c x e f a' b' c' x' e' f' hne h1 h2=>by
    have R0:Rep true d.p.OB d.p.WB d.p.FR S0 d.p.wR:=hinv.1.rep;rw[hbl k (by rw[<-hl1];exact zaG h1),hbl k' (by rw[<-hl1];exact zaG h2)]
    exact L.dist k k' hne ⟨_,_,_,_,_,_,h1⟩ ⟨_,_,_,_,_,_,h2⟩
  have hRep:Rep true d.p.OB d.p.WB F S1 w:=zp1 hB1.1.rep hOBk hrow (fun x hx hv=>hov1 x hx (.inr hv)) hdist hap;have hM:RInv (XM hok d.p.OB d.p.WB) F (.run [] [] (uniH hs hs' hs2) S1) w:=zpH hok hinv (by rw[hl1];exact hlenS) hF hnx hRep hB1 hov1 (fun x hx=>by
    obtain⟨h1,h2,h3,h4⟩:=hpx x (L.px x hx);exact⟨h1,fun hv=>h2 (hv.imp id fun h=>(zgB hthr hB.1.rep).2 x h),h3,h4⟩) hOBk
  have hwro:∀n r,(uniH hs hs' hs2).get n=some r->d.p.WB (F.blk n)->r.ro=true:=fun n r hr hW=>by
    rcases zdV hr with h|⟨_,_,h⟩
    . exact hro n r h hW
    . refine L.wro n r h ?_;have:=(hinv.1.hk n r h).1;rw[(hF n this).1];exact hW
  have hrtb:w.heap[d.tb]?=some (.cells (zaT F d.self d.quit false true (some (d.hp,d.p.h,d.dn)) none) 53 (0,0)):=by
    rw[htb];exact(hrow _ _ _ _ _ _ _ hS1 rfl).2.2.2
  obtain⟨B,Mem,q0,R,hM0,_⟩:=hCom.ring;have hst:=zi2 hCom (x:=d.tb) hOtb;have hlow:=zfT hCom hwr;have hK:KA d.p.OB d.p.WB Inb w.heap.size w w:=⟨rfl,hlow,qa _⟩;have hhpl:d.hp<d.S.length:=zaG L.ok.wp;have hV:hs2.next<=VB:=hM.2;have hfγ:Pr.fuel γ2<=Pr.fuel γ:=by rw[hfu.1];exact L.fuel
  have hphγ:∀i,i≠d.k->Pr.ph γ2 i=Pr.ph γ i:=fun i hi=>(hph i hi).trans (L.ph i hi);have hComS:Com ⟨0,none,d.p.OB,d.p.WB,Iv',none,fun _=>False,w,F,0,0,d.p.n0,d.p.w0⟩ (SuM hok Pr () γ2) S' F hs2.next d.S.length Inb gs w T:=by
    refine hCom.su fun i self quit closed hp gid dn pend ob g hi _ hsu=>?_;rcases hcase with⟨_,q,hq,_,rfl,hQ⟩|⟨_,_,_,rfl,rfl⟩
    . have:=hQ _ _ _ _ _ _ _ hsu;by_cases z:i=d.k
      . subst z;rw[if_pos rfl]at this;obtain⟨F0,n0,c0,z1,z2,z3,z4⟩:=this;exact⟨q,F0,n0,c0,_,hq,z1,z2,z3,qa _,z4⟩
      . rw[if_neg z,L.su]at this;exact SuM.step hok hphγ hfγ z this
    . by_cases z:i=d.k
      . subst z;rw[zfD hthr]at hi;cases hi
      . rw[L.su]at hsu;exact SuM.step hok hphγ hfγ z hsu
  have hfpM:∀x,fpS true F S1 x->d.p.OB x\/fpS false F d.S x:=fun x hx=>by
    rcases znJ hx with⟨i,a,b,c,x',e,f,hi,rfl⟩|h
    . exact .inl (hOBk _ _ _ _ _ _ _ hi)
    . exact .inr ((zgB hthr hB.1.rep).2 x h)
  have hchS:∀k s c,ChS S' k s c->ChS d.S k s c:=fun k s c h=>by
    rcases hcase with⟨_,q,_,_,rfl,_⟩|⟨_,_,_,rfl,_⟩
    . exact h
    . exact zlL hthr h
  have fin:∀(S3:St) (F3:Emb) (gs2:Array Goroutine) (w2:World) (T2:Trace) (sl2:Option (Nat×Nat)),KeepC S' S3->RInv (XM hok d.p.OB d.p.WB) F3 (.run [] [] (uniH hs hs' hs2) S3) w2->Same (Kn hs2.next d.S.length) F F3->d.S.length<=S3.length->w.heap.size<=w2.heap.size->(∀x,¬d.p.OB x->x<w.heap.size->w2.heap[x]?=w.heap[x]?)->gs2.size=gs.size->(∀x,fpS true F3 S3 x->d.p.OB x\/fpS false F d.S x\/w.heap.size<=x) ->
      (∃B Mem q,RingO Try.prog d.p.OB d.p.WB B Iv' Mem Inb 0 T2 gs2 w2 q/\Mem 0/\Mem 0)->gs2[0]?=some (qj (fr.finish (.tuple #[])) cs)->((∃q,Pr.ph γ2 d.k=some q/\S3=d.S.set d.k (.thr d.self d.quit false true (some (d.hp,d.p.h,d.dn)) (some d.S.length))++[.acc (Pr.acc q).1 (Pr.acc q).2.1 (Pr.acc q).2.2.1 (Pr.acc q).2.2.2]) \/
      (Pr.ph γ2 d.k=none/\S3=d.S.set d.k (.thr d.self d.quit false false (some (d.hp,d.p.h,d.dn)) none)))->znT hok Pr n00 w00 d hs hs' hs.next S0.length fr cs (crowd gs2 w2 sl2) T2:=by
    intro S3 F3 gs2 w2 T2 sl2 hk hI hFF hlen hws hkp hgz hfp3 hring hg2 hfin
    let p':Par:=⟨0,none,d.p.OB,d.p.WB,Iv',none,fun _=>False,w2,F3,0,0,d.p.n0,d.p.w0⟩
    have hC2:Com p' (SuM hok Pr () γ2) S' F hs2.next d.S.length Inb gs w T:=⟨hComS.ring,hComS.tab,hComS.main,hComS.seats,hComS.waits,hComS.n0,hComS.c0⟩;have hC3:Com p' (SuM hok Pr () γ2) S3 F3 hs2.next S3.length Inb gs2 w2 T2:=Com.keep hk (qa _) (hC2.turn (SuM.mono hok Pr () γ2) hFF (qa _) hlen hV hws (zei fun c hc hO=>hkp c hO (by obtain⟨_,_,_,_,_,_,h1⟩:=hc;exact zab h1)) hgz hring)
    have hwro3:∀n r,(uniH hs hs' hs2).get n=some r->d.p.WB (F3.blk n)->r.ro=true:=fun n r hr hW=>hwro n r hr (by
      rw[(hFF n ((hM.1.hk n r hr).1.mono (qa _) (by show S1.length<=_;omega))).1];exact hW)
    refine⟨gs2,w2,sl2,F3,hs2,γ2,Inb,p',S3,rfl,hg2,⟨rfl,rfl,rfl,fun _ z=>z,hn00,hw00⟩,⟨hC3,(zdK hok (p:=p') rfl)▸hI,fun z=>absurd rfl z,fun x hx=>hx.elim,fun x hx=>?_,hwro3,?_,Same.refl _ _,Nat.zero_le _,Nat.zero_le _⟩,?_,hnx,hInv,hfu,hph,hfin⟩
    . obtain⟨cc,el,h1,h2⟩:=hwr x hx;exact⟨cc,el,(hkp x (fun z=>hap x z hx) (zab h1)).trans h1,h2⟩
    . refine⟨fun x hx=>?_,fun k s c h=>hbase.ch k s c (hchS k s c (hk.ch h))⟩;obtain⟨h1,h2,h3,h4⟩:=hbase.low x hx;refine⟨ql h1 hws,fun hT=>?_,h3,(hkp x h3 h1).trans h4⟩;rw[zdK hok (p:=p') rfl]at hT;rcases hT with⟨n,r,hr,hro',rfl⟩|hf
      . have hr:(uniH hs hs' hs2).get n=some r:=hr;have e:F3.blk n=F.blk n:=((hFF n ((hM.1.hk n r hr).1.mono (qa _) (by show S1.length<=_;omega))).1).symm
        rcases zdV hr with h|⟨_,_,h⟩
        . exact h2 (.inl ⟨n,r,h,hro',e.symm⟩)
        . have:=L.base0 n r h hro';have e2:F.blk n=d.p.FR.blk n:=(hF n (hinv.1.hk n r h).1).1.symm;have hx:F3.blk n<d.p.n0:=hx;omega
      . rcases hfp3 x hf with z|z|z
        . exact h3 z
        . exact h2 (.inr z)
        . omega
    . exact hF.trans (hFF.mono fun n hn=>hn.mono hnx (qi hlenS))
  have hk3:w.cell? ⟨d.tb,3,none⟩=some (.pointer none):=by simp[qf,hrtb,zaT,ptrO]
  have hk4:w.cell? ⟨d.tb,4,none⟩=some (.bool true):=by simp[qf,hrtb,zaT]
  have hfz:∀o,w.frozen? ⟨d.tb,o,none⟩=false:=fun o=>by simp[World.frozen?,hrtb]
  have hvk:∀x,Vis (XM hok d.p.OB d.p.WB) F (.run [] [] (uniH hs hs' hs2) S1) x->x<w.heap.size:=fun x hx=>by
    obtain⟨_,_,_,h1⟩:=zde (XF.soft (hok _ _ _)) hM hx;exact zab h1
  rw[hcs]at hg;rcases hcase with⟨rfl,q,hq,rfl,rfl,hQ⟩|⟨rfl,hnone,rfl,rfl,rfl⟩
  . rcases hacc:Pr.acc q with⟨c,n,A,B'⟩
    rw[show accQ (Pr.acc q)=accV c n A B' by rw[hacc];rfl,zmg]at hg
    refine(zaR (sl:=sl) (h:=0) 60 hg (zqw hK hst hk3 (hfz 3) fr cs) R).bind fun m2 T2=>?_;rintro⟨gs2,g2,w2,sl2,q2,B2,rfl,j1,j2,⟨rfl,hK2⟩,R2⟩
    let F3:Emb:=⟨fun n=>if n=VB+d.S.length then w.heap.size else F.blk n,fun n=>if n=VB+d.S.length then 0 else F.base n,F.slack⟩
    have hFF:Same (Kn hs2.next d.S.length) F F3:=fun n hn=>by
      have:n≠VB+d.S.length:=by
        rcases hn with hn|⟨_,hn⟩
        . omega
        . omega
      simp[F3,this]
    have hb3:F3.blk (VB+d.S.length)=w.heap.size:=if_pos rfl;have htl:d.tb<w.heap.size:=zab hrtb
    -- the access comes
    let w3:World:=w.alloc (.cells (zgp c n A B') 64)
    have hA:RInv (XM hok d.p.OB d.p.WB) F3 (.run [] [] (uniH hs hs' hs2) (S1++[.acc c n A B'])) w3:=by
      refine zgL hok (OB:=d.p.OB) (WB:=d.p.WB) rfl (fun _ h=>h) (fun _ h=>h) (by rw[hl1];exact hFF) (by rw[hl1];exact if_pos rfl) hM (fun hv=>?_) (fun b hb=>.inl hb) (fun x hx=>zaD _ _ _ (hvk x hx)) ?_ (fun z=>?_) (by rw[zaL];omega)
      . have:=hvk _ hv;rw[hl1,hb3]at this;omega
      . show w3.heap[F3.blk (VB+S1.length)]?=_;rw[hl1,hb3];exact zbC _ _
      . rw[hl1,hb3]at z;obtain⟨_,_,h1,_⟩:=hwr _ z;have:=zab h1;omega
    have hlA:(S1++[Ob.acc c n A B']).length=d.S.length+1:=by simp[S1]
    have hSA:(S1++[Ob.acc c n A B'])[d.k]?=some (.thr d.self d.quit false true (some (d.hp,d.p.h,d.dn)) none):=by
      rw[qb (by rw[hl1];exact hkl)];exact hS1
    have hbk3:F3.blk (VB+d.k)=d.tb:=by
      rw[htb];exact((hFF (VB+d.k) (.inr ⟨by omega,by omega⟩)).1).symm
    have hbp3:F3.blk (VB+d.hp)=F.blk (VB+d.hp):=((hFF (VB+d.hp) (.inr ⟨by omega,by omega⟩)).1).symm
    have hS3:(S1++[Ob.acc c n A B']).set d.k (.thr d.self d.quit false true (some (d.hp,d.p.h,d.dn)) (some d.S.length))=d.S.set d.k (.thr d.self d.quit false true (some (d.hp,d.p.h,d.dn)) (some d.S.length))++[.acc c n A B']:=by
      rw[List.set_append_left _ _ (by rw[hl1];exact hkl)]
      simp[S1]
    have hI3:=zfo hok (w':=w2) (a':=d.self) (b':=d.quit) (c':=false) (d':=true) (e':=some (d.hp,d.p.h,d.dn)) (f':=some d.S.length) hSA (fun c hc=>by cases hc;rw[hlA];show d.hp<_;omega) (fun p hp=>by cases hp;rw[hlA];omega) hA (fun x hx hne=>?_) ?_ (by rw[hK2.heap,zaE];exact qa _)
    . rw[hS3]at hI3;refine .here (fin _ F3 gs2 w2 T2 sl2 ?_ hI3 hFF (by simp) ?_ (fun x hx hlt=>?_) j1 (fun x hx=>?_) ⟨B2,Mem,q2,R2,hM0,hM0⟩ j2 (.inl ⟨q,hq,by rw[hacc]⟩))
      . exact(KeepC.pend hthr _).trans (KeepC.push rfl)
      . rw[hK2.heap,zaE,zaL];omega
      . rw[hK2.heap,heap_setCell,if_neg (fun(e:d.tb=x)=>hx (e▸hOtb)),zaD _ _ _ hlt]
      . rw[<-hS3]at hx;rcases zgz (S:=S1) rfl (by rw[hl1];exact hFF.mono fun n hn=>.inr hn) (zg4 hSA hx) with h|h
        . exact(hfpM x h).imp id .inl
        . rw[hl1,hb3]at h;exact .inr (.inr (qi h.symm))
    . rw[hbk3]at hne;rw[hK2.heap,heap_setCell,if_neg (fun(e:d.tb=x)=>hne e.symm)]
    . rw[hbk3,hK2.heap,heap_setCell,if_pos rfl,zaD _ _ _ htl,hrtb];simp[zaT,ptrO,hb3,hbp3]
  . rw[zpl]at hg;refine(zaR (sl:=sl) (h:=0) 60 hg (zqJ hK hst hk4 (hfz 4) fr cs) R).bind fun m2 T2=>?_;rintro⟨gs2,g2,w2,sl2,q2,B2,rfl,j1,j2,⟨rfl,hK2⟩,R2⟩;have hS3:S1.set d.k (.thr d.self d.quit false false (some (d.hp,d.p.h,d.dn)) none)=d.S.set d.k (.thr d.self d.quit false false (some (d.hp,d.p.h,d.dn)) none):=by simp[S1]
    have hI3:=zfo hok (w':=w2) (a':=d.self) (b':=d.quit) (c':=false) (d':=false) (e':=some (d.hp,d.p.h,d.dn)) (f':=none) hS1 (fun c hc=>by cases hc;rw[hl1];exact hhpl) (fun p hp=>by cases hp) hM (fun x hx hne=>?_) ?_ (by rw[hK2.heap,zaE];exact qa _)
    . rw[hS3]at hI3;refine .here (fin _ F gs2 w2 T2 sl2 (KeepC.refl _) hI3 (Same.refl _ _) (by simp) ?_ (fun x hx hlt=>?_) j1 (fun x hx=>?_) ⟨B2,Mem,q2,R2,hM0,hM0⟩ j2 (.inr ⟨hnone,rfl⟩))
      . rw[hK2.heap,zaE];omega
      . rw[hK2.heap,heap_setCell,if_neg (fun(e:d.tb=x)=>hx (e▸hOtb))]
      . rw[<-hS3]at hx;exact(hfpM x (zg4 hS1 hx)).imp id .inl
    . rw[<-htb]at hne;rw[hK2.heap,heap_setCell,if_neg (fun(e:d.tb=x)=>hne e.symm)]
    . rw[<-htb,hK2.heap,heap_setCell,if_pos rfl,hrtb];simp[zaT]
end
section
variable {p:Par}{Su:SuT}{S S0:St}{F:Emb}{N C:Nat}{Inb:Nat->Option Seat}{gs gs':Array Goroutine}{w w':World}{T T':Trace}
theorem Com.apartG(H:Com p Su S F N C Inb gs w T)(hr:p.run=none){self wself:Int}{quit steps grant:Nat}{closed bz:Bool}{pend:Option Nat}(hthr:S[k]?=some (.thr self quit closed bz (some (hp,gid,dn)) pend))(hwp:S[hp]?=some (.wp wself steps ask grant quit)):
    ∀i s' c,i≠0->Inb i=some s'->s'.has c->c≠ask/\c≠dn:=by
  intro i s' c h0 hi hc;have t:=H.tab;obtain⟨_,_,h3⟩:=H.seats i s' hi;obtain⟨k2,a1,a2,a3,hp2,dn2,pe2,b1,b2⟩:=h3 h0;obtain⟨_,h4⟩:=H.waits k2 _ _ _ _ _ _ _ b2;obtain⟨ws2,st2,ak2,gr2,ab2,x2,y2,cs2,c1,c2,_⟩:=h4 b1;rw[c2]at hi;cases hi;rcases zdc hc with rfl|rfl
  . exact⟨fun e=>absurd (t.dist' (.grant c1) (.ask hwp) e).2 (by decide),fun e=>absurd (t.dist' (.grant c1) (.done hthr) e).2 (by decide)⟩
  . exact⟨fun e=>absurd (t.dist' (.quit b2) (.ask hwp) e).2 (by decide),fun e=>absurd (t.dist' (.quit b2) (.done hthr) e).2 (by decide)⟩
theorem zmX{wb wb':Nat}{ab ab':Nat×Nat}{ak qt gr ak' qt' gr':Nat}{x y x' y':Value}{cs':List Frame}(h:zc5 wb ab ak qt gr x y cs=zc5 wb' ab' ak' qt' gr' x' y' cs'):qt=qt':=by
  have h1:=congrArg Seat.cases h;simp only[zc5]at h1;have h2:=congrArg (fun a:Array CommCase=>(a[1]?).map (·.chan)) h1;simpa[rcase] using h2
theorem Com.lend(H:Com p Su S F N C Inb gs w T)(hr:p.run=none)(hSu:zcR Su){self:Int}{quit:Nat}{closed:Bool}{pend:Option Nat}(hthr:S[k]?=some (.thr self quit closed true (some (hp,gid,dn)) pend)){sG:Seat}{Iv:Nat->World->Prop}{PX:Nat->Prop}{wR:World}{FR:Emb}{NR CR n0':Nat}{w0':World}(hs:w.heap.size<=w'.heap.size)(hk:∀c,¬p.OB c->(zbg w c->zbg w' c)/\∀cap,ChanO w c cap->ChanO w' c cap)(hsz:gs'.size=gs.size)(hring:∃B Mem q,RingO Try.prog p.OB p.WB B Iv Mem (fun i=>if i=gid then none else if i=0 then some sG else Inb i) gid T' gs' w' q/\Mem 0/\Mem gid):Com ⟨gid,some k,p.OB,p.WB,Iv,some sG,PX,wR,FR,NR,CR,n0',w0'⟩ Su S F N C (fun i=>if i=gid then none else if i=0 then some sG else Inb i) gs' w' T':=by
  have t:=H.tab;obtain⟨_,hp',gid',dn',ws',st',ak',gr',e1,e2,_,_,_,hgid,hgsz,_⟩:=t.busy _ _ _ _ _ _ hthr;cases e1;have huniq:∀(k':Nat) a b c hp' dn' f,S[k']?=some (Ob.thr a b c true (some (hp',gid,dn')) f)->k'=k:=fun k' a b c hp' dn' f hk'=>by
    obtain⟨ws1,st1,ak1,gr1,ab1,x1,y1,cs1,c1,c2,_⟩:=(H.waits k _ _ _ _ _ _ _ hthr).2 (by rw[hr];simp)
    obtain⟨ws2,st2,ak2,gr2,ab2,x2,y2,cs2,d1,d2,_⟩:=(H.waits k' _ _ _ _ _ _ _ hk').2 (by rw[hr];simp)
    have:=zmX (qm (d2.symm.trans c2));subst this;exact(t.dist _ _ _ _ _ (.quit hk') (.quit hthr)).1
  refine⟨hring,by rw[hsz];exact t.turn (p:=p) H.c0 (Same.refl (Kn N C) F) hs hk,?_,fun i s hi=>?_,fun k' a b c hp' gid' dn' f hk'=>?_,H.n0,H.c0⟩
  . show(if 0=gid then none else if 0=0 then some sG else Inb 0)=some sG
    rw[if_neg (by omega),if_pos rfl]
  . show i≠gid/\i<gs'.size/\_;by_cases z:i=gid
    . simp[z]at hi
    rw[if_neg z]at hi;by_cases z0:i=0
    . refine⟨z,by omega,fun h=>absurd z0 h⟩
    rw[if_neg z0]at hi;obtain⟨_,h2,h3⟩:=H.seats i s hi;refine⟨z,by omega,fun _=>?_⟩
    obtain⟨k',a1,a2,a3,a4,a5,a6,a7,a8⟩:=h3 z0;refine⟨k',a1,a2,a3,a4,a5,a6,fun e=>?_,a8⟩;have e:some k=some k':=e;cases e;rw[hthr]at a8;cases a8;exact z rfl
  . refine⟨fun e=>?_,fun hne=>?_⟩
    . have e:some k=some k':=e;cases e;rw[hthr]at hk';cases hk';rfl
    . obtain⟨ws2,st2,ak2,gr2,ab2,x2,y2,cs2,d1,d2,d3⟩:=(H.waits k' _ _ _ _ _ _ _ hk').2 (by rw[hr];simp)
      refine⟨ws2,st2,ak2,gr2,ab2,x2,y2,cs2,d1,?_,d3⟩;have z:gid'≠gid:=fun e=>by
        subst e;exact hne (by rw[huniq _ _ _ _ _ _ _ hk'])
      obtain⟨_,_,_,_,_,_,_,_,z1,_,_,_,_,z2,_⟩:=t.busy _ _ _ _ _ _ hk';cases z1;show(if gid'=gid then none else if gid'=0 then some sG else Inb gid')=_
      rw[if_neg z,if_neg (by omega)]
      exact d2
end
theorem zlZ(tb wb dn ak:Nat)(cs:List Frame)(h:ak≠dn):(zb1 tb wb dn ak cs).Wf:=by
  refine⟨fun cc h=>?_,fun k m c z z' h1 h2=>?_⟩
  . simp only[zb1,qk,zMc,zNm,or_false]at h;rcases h with rfl|rfl
    . exact⟨_,_,rfl⟩
    . exact⟨_,_,rfl⟩
  . rcases k with _|_|k<;>rcases m with _|_|m<;>simp[zb1,rcase]at h1 h2<;>omega
section
variable (hok:∀ mn OB WB,zat mn OB WB)
variable {Γ:Type}{Pr:Proto Γ}
variable {n00:Nat}{w00:World}
variable {p:Par}{S:St}{F:Emb}{Inb:Nat->Option Seat}{gs:Array Goroutine}{w:World}{T:Trace}{sl:Option (Nat × Nat)}
theorem zmM{γ γ1:Γ}{pd s grant quit:Nat}{self wself:Int}{q:Pr.Ph}{v:UInt64}(hC:ClM n00 w00 () (γ,S) p)(hthr:S[k]?=some (.thr self quit false true (some (hp,gid,dn)) (some pd)))(hwp:S[hp]?=some (.wp wself s ask grant quit))(hph:Pr.ph γ k=some q)(hl:LendH hs hs')(hRun:Pr.Run k q v γ1 hs' (cntS S hp wself (s+1) ask grant quit))(hfu:Pr.fuel γ1<Pr.fuel γ)(hph1:∀i,i≠k->Pr.ph γ1 i=Pr.ph γ i)(H:Standing p hok (SuM hok Pr () γ) S F (.run [] [] hs S) Inb gs w T)(hg:gs[0]?=some (qj ((base 28).at ⟨#[pt (F.blk (VB+k)),.int .u64 (v.toNat:Int),undef,undef,undef,undef,undef,undef,undef,undef,undef,undef,undef,undef,undef,undef,undef,undef,undef,undef,undef,undef,undef,undef],[]⟩ [.code zdn]) (fr::cs))):
    Reach Try.prog (crowd gs w sl) T fun m T'=>∃d:BD Γ,d.p.FR=F/\d.k=k/\d.hp=hp/\d.self=self/\d.quit=quit/\d.p.h=gid/\d.dn=dn/\d.S=cntS S hp wself (s+1) ask grant quit/\d.γ=γ1/\znT hok Pr n00 w00 d hs hs' hs.next S.length (zdm (F.blk (VB+k)) (F.blk (VB+hp)) grant ⟨F.blk (VB+pd),0,none⟩ (.int .u64 (v.toNat:Int)) [1]) (fr::cs) m T':=by
  obtain⟨h0,hrun,hseat,hPX,hn00,hw00⟩:=hC;have hX:=zdK hok h0;have Rp:Rep true p.OB p.WB F S w:=by
    have:=H.inv.1.rep;rw[hX]at this;exact this
  obtain⟨hOtb,_,_,hrtb⟩:=Rp.at' _ _ hthr rfl;obtain⟨hWwb,told,hrwb⟩:=H.wp hok hwp;generalize htbE:F.blk (VB+k)=tb at *;generalize hwbE:F.blk (VB+hp)=wb at *;have hG:KGr w tb wb dn ask grant ⟨F.blk (VB+pd),0,none⟩:=⟨by simp[qf,hrtb,zaT,ptrO,hwbE],by simp[qf,hrtb,zaT,ptrO],by simp[qf,hrwb,zdB,chV]⟩
  obtain⟨B0,Mem0,q0,R0,hM0,_⟩:=H.com.ring;rw[h0]at R0;refine(zaR (sl:=sl) (h:=0) 60 hg (znH hG ⟨rfl⟩ (fr::cs)) R0).bind fun m2 T2=>?_;rintro⟨gs2,g2,w2,sl2,q2,B2,rfl,j1,j2,⟨rfl,hKM⟩,R2⟩;have H2:Standing p hok (SuM hok Pr () γ) S F (.run [] [] hs S) Inb gs2 w2 T2:=H.grown hok (SuM.mono hok Pr () γ) (fun x _ _=>by rw[hKM.heap]) (by rw[hKM.heap];exact qa _) j1 ⟨B2,Mem0,q2,h0▸R2,hM0,h0▸hM0⟩
  have hrtb2:w2.heap[tb]?=some (.cells (zaT F self quit false true (some (hp,gid,dn)) (some pd)) 53 (0,0)):=by rw[hKM.heap];exact hrtb
  have hrwb2:w2.heap[wb]?=some (.cells (zdB wself s (.pointer told) ask grant quit) 58 (0,0)):=by rw[hKM.heap];exact hrwb
  have hc:=H2.com;have t:=hc.tab;obtain⟨_,hp',gid',dn',ws',st',ak',gr',e1,e2,cask,cgr,cdn,hgid,hgsz,hbox⟩:=t.busy _ _ _ _ _ _ hthr;cases e1;rw[hwp]at e2;cases e2;have cqt:=t.quit _ _ _ _ _ _ hthr;have fask:=t.far _ _ _ (.ask hwp);have fgr:=t.far _ _ _ (.grant hwp);have fdn:=t.far _ _ _ (.done hthr);have hap:∀x,p.OB x->¬p.WB x:=R2.apart;have hne:ask≠dn:=fun e=>absurd (t.dist' (.ask hwp) (.done hthr) e).2 (by decide)
  have hlow:∀{x},zbg w2 x->x<w2.heap.size:=fun {x} hx=>by obtain⟨_,_,_,_,_,_,h1⟩:=hx;exact zab h1
  have htl:tb<w2.heap.size:=zab hrtb2;have hwl:wb<w2.heap.size:=zab hrwb2
  -- goroutine 0 takes its seat
  let pb:Addr:=⟨F.blk (VB+pd),0,none⟩
  let vv:Value:=.int .u64 (v.toNat:Int)
  let cs0:List Frame:=zdm tb wb grant pb vv [1]::fr::cs
  let sG:Seat:=zb1 tb wb dn ask cs0
  let wN:World:=w2.setCell ⟨tb,3,none⟩ (.pointer none)
  let Inb1:Nat->Option Seat:=fun i=>if i=0 then some sG else Inb i
  have R3:RingO Try.prog p.OB p.WB (max B2 w2.heap.size) (IvN p.OB wN) Mem0 Inb 0 T2 gs2 w2 q2:=(CoF.mono (Nat.le_max_left _ _) (Nat.max_le.2 ⟨R2.lowB,qa _⟩) R2).iv (fun i w w1 hr hi h b hb=>(hr.2 h b hb).trans (hi h b hb)) (fun i s w' hi _ _ h=>absurd h hi);have R4:RingO Try.prog p.OB p.WB (max B2 w2.heap.size) (IvN p.OB wN) Mem0 Inb1 0 T2 gs2 w2 q2:=R3.reseat hM0 sG (zlZ _ _ _ _ _ hne)
    (fun c hcc=>by rcases zb4 hcc with rfl|rfl;exact⟨_,cask⟩;exact⟨_,cdn⟩)
    (fun c hcc=>by rcases zb4 hcc with rfl|rfl;exact fask.2.1;exact fdn.2.1)
    (fun c hcc=>by
      have:c<w2.heap.size:=by rcases zb4 hcc with rfl|rfl;exact hlow fask.1;exact hlow fdn.1
      omega)
    (fun i s' c hi hs hx hcc=>by
      obtain⟨h1,h2⟩:=hc.apartG hrun hthr hwp i s' c hi hs hx;rcases zb4 hcc with z|z
      . exact h1 z
      . exact h2 z)
  obtain⟨wsx,stx,akx,grx,ab,x,y,csb,c1,c2,hSuk⟩:=(hc.waits _ _ _ _ _ _ _ _ hthr).2 (by rw[hrun];simp)
  rw[hwp]at c1;cases c1;rw[hwbE]at c2 hSuk;have hIg:Inb1 gid=some (zc5 wb ab ask quit grant x y csb):=by
    show(if gid=0 then _ else _)=_
    rw[if_neg (by omega)];exact c2
  obtain⟨kg,hkg⟩:=cgr;refine(zte (P:=Try.prog) (h:=0) (j:=gid) (kk:=0) (kh:=0) (c:=grant) (v:=vv) (z:=.int .u64 0) (z':=.tuple #[]) (cases:=#[scase grant vv (.tuple #[])]) (shape:=.send) (by omega) hIg rfl hM0 rfl fgr.2.2 (fun main w=>zmq tb wb grant pb vv (fr::cs) main w) rfl (fun m c' hm hc'=>?_) (Inb':=Inb1) (fun _ _=>rfl) (.inl rfl) (nh:=46) w2 (fun T' w1 k1 _ hw1 _=>?_) _ (sl:=sl2) false rfl hgsz (SideD.refl w2) hkg j2 (fun z=>by cases z) R4).bind fun m T3=>?_
  . rcases m with _|m
    . exact absurd rfl hm
    . simp at hc'
  . rw[zmI];have hh1:w1.heap=w2.heap:=Array.ext_getElem? fun b=>hw1.only b fun z=>z.2 rfl;have hneg:∀b,p.OB b\/b=wb->(w1.setChan grant 0 #[] false (k1+1) (k1+1) false).heap[b]?=w2.heap[b]?:=fun b hb=>by
      rw[heap_setChan_ne _ _ _ _ _ _ _ (fun e=>?_),hh1];rcases hb with hb|rfl
      . exact fgr.2.1 (e▸hb)
      . exact fgr.2.2 (e▸hWwb)
    have hKG:KG p.OB p.WB w2 tb wb dn ask (w1.setChan grant 0 #[] false (k1+1) (k1+1) false):=⟨fun b hb=>hneg b (.inl hb),hOtb,hWwb,by simp[qf,hrtb2,zaT,ptrO,hwbE],by simp[qf,hrtb2,zaT],⟨_,by simp[qf,hrtb2,zaT];rfl⟩,by simp[World.frozen?,hrtb2],by rw[za5 w2 _ _ (hneg _ (.inr rfl))];simp[qf,hrwb2,zdB,chV]⟩
    refine .inl ⟨45,rfl,?_⟩;exact zeF (fun g w h=>⟨h.1,fun _ b hb=>h.2.own b hb⟩) (znr (B:=max B2 w2.heap.size) (pb:=pb) (v:=vv) hKG (fun e=>hap tb hOtb (e▸hWwb)) (by omega) (by omega) (fr::cs))
  rintro⟨gs3,gq,w1,k1,sl3,q3,rfl,b1,b2,b3,b4,b5,b6,R5⟩;have b3:gq=doG wb ab ask quit grant x y csb:=b3;subst b3;have hh1:w1.heap=w2.heap:=Array.ext_getElem? fun b=>b4.only b fun z=>z.2 rfl;have hset:∀x,x≠grant->(w1.setChan grant 0 #[] false (k1+1) (k1+1) false).heap[x]?=w2.heap[x]?:=fun x hx=>by
    rw[heap_setChan_ne _ _ _ _ _ _ _ (fun e=>hx e.symm),hh1]
  have hgr3:(w1.setChan grant 0 #[] false (k1+1) (k1+1) false).heap[grant]?=some (.chan 0 #[] false (k1+1) (k1+1) false):=heap_setChan_self w1 b6 _ _ _ _ _ _;have hsz3:(w1.setChan grant 0 #[] false (k1+1) (k1+1) false).heap.size=w2.heap.size:=by rw[<-hh1];simp[World.setChan]
  generalize hw3:w1.setChan grant 0 #[] false (k1+1) (k1+1) false=w3 at *;have hvis:∀x,Vis (XM hok p.OB p.WB) F (.run [] [] hs S) x->w3.heap[x]?=w2.heap[x]?:=fun x hx=>hset x fun e=>H2.chan_out hok fgr.1 (hX▸e▸hx);have hinv2:RInv (XM hok p.OB p.WB) F (.run [] [] hs S) w2:=hX▸H2.inv;have hinv3:RInv (XM hok p.OB p.WB) F (.run [] [] hs S) w3:=zeJ (qi hsz3.symm) hvis hinv2;have hch:∀c,¬p.OB c->(zbg w2 c->zbg w3 c)/\∀cap,ChanO w2 c cap->ChanO w3 c cap:=fun c hO=>by
    by_cases e:c=grant
    . subst e;refine⟨fun _=>⟨_,_,_,_,_,_,hgr3⟩,fun cap h=>?_⟩;obtain⟨m,hm⟩:=h;rw[hkg]at hm;cases hm;exact⟨_,hgr3⟩
    . refine⟨fun h=>?_,fun cap h=>?_⟩
      . obtain⟨a1,a2,a3,a4,a5,a6,a7⟩:=h;exact⟨a1,a2,a3,a4,a5,a6,by rw[hset c e];exact a7⟩
      . obtain⟨m,hm⟩:=h;exact⟨m,by rw[hset c e];exact hm⟩
  -- the body goes on
  obtain⟨q',F0,n0,c0,n,z1,z2,z3,z4,z5,z6⟩:=hSuk;rw[hph]at z1;cases z1
  let d:BD Γ:=⟨⟨gid,some k,p.OB,p.WB,IvN p.OB wN,some sG,znO F hs hs',w3,F,hs.next,S.length,p.n0,p.w0⟩,SuM hok Pr () γ,k,hp,self,quit,dn,some pd,wself,s+1,ask,grant,γ1,cntS S hp wself (s+1) ask grant quit,wN,tb,cs0⟩
  have hcom3:Com d.p (SuM hok Pr () γ) S F hs.next S.length (fun i=>if i=gid then none else if i=0 then some sG else Inb i) gs3 w3 T3:=hc.lend hrun (SuM.mono hok Pr () γ) hthr (qi hsz3.symm) hch b1 ⟨_,_,_,R5.unseat,⟨hM0,.inl (by show(if 0=0 then some sG else _)≠none;simp)⟩,⟨(R4.mem gid _ hIg).1,.inr rfl⟩⟩
  have t3:=hcom3.tab;have hXb:=zl4 hok (p:=d.p) (by show gid≠0;omega)
  have hdok:d.Ok:=by
    refine⟨SuM.mono hok Pr () γ,rfl,by show gid≠0;omega,rfl,?_,(zcF hwp).2 hthr,zgV hwp,cnt_len.symm,fun x hx=>(zfL hok hinv3 hl t3 hx).2.2.2⟩
    show some sG=some (zb1 tb (F.blk (VB+hp)) dn ask cs0);rw[hwbE]
  have hstand:Standing d.p hok d.Su S F (.run [] [] hs' S) (fun i=>if i=gid then none else if i=0 then some sG else Inb i) gs3 w3 T3:=by
    refine⟨?_,hXb▸zhl hok hinv3 hl,fun _ x hx=>hXb▸zkF hok hinv3 hl t3 hx,fun x hx=>?_,fun x hx=>?_,fun n r hr hW=>H2.wro n r (hl.sub n r hr) hW,H2.base.move (qi hsz3.symm) (fun x _ hx=>?_) (fun _ _ h=>h) (fun x _ _ _ h4=>hset x (h4 _ _ _ (.grant hwp))) (fun _ _ _ h=>.inl h),Same.refl _ _,qi hl.next.symm,qa _⟩
    . show Com d.p (SuM hok Pr () γ) S F hs'.next S.length _ gs3 w3 T3;rw[hl.next];exact hcom3
    . obtain⟨y1,y2,y3,_⟩:=zfL hok hinv3 hl t3 hx;exact⟨y1,hXb▸y2,y3,rfl⟩
    . obtain⟨cc,el,y1,y2⟩:=H2.wrow x hx;exact⟨cc,el,(hset x fun e=>by rw[e,hkg]at y1;cases y1).trans y1,y2⟩
    . rw[hXb]at hx;rw[hX];rcases hx with⟨n,r,h1,h2,h3⟩|⟨i,ob,h1,h2⟩
      . exact .inl ⟨n,r,hl.sub n r h1,h2,h3⟩
      . exact .inr ⟨i,ob,h1,zbI h2⟩
  refine((BSusp.unfold hok z6).1 d s S F hs' _ gs3 w3 sl3 T3 v hdok rfl rfl rfl rfl hwp rfl hstand ?_ z2 (by rw[hl.next];exact z3) z4 hRun (by show Pr.fuel γ1<n;omega)).bind fun m4 T4 hCame=>?_
  . exact b2
  have L:zsE hok Pr d γ hs hs' S:=by
    refine⟨hdok,hl,hinv3,cnt_len.symm,rfl,rfl,fun x hx=>hx,htbE.symm,H2.wro,fun i a b c e f g hi=>?_,fun i i' hne hi hi'=>?_,rfl,hph1,Nat.le_of_lt hfu,fun n r hr hro=>qM fun hlt=>(H2.base.low _ hlt).2.1 (by rw[hX];exact .inl ⟨n,r,hr,hro,rfl⟩)⟩
    . have hi:((cntS S hp wself (s+1) ask grant quit).set k (.thr self quit false true (some (hp,gid,dn)) none))[i]?=some (Ob.thr a b c e f g):=hi;have hlc:(cntS S hp wself (s+1) ask grant quit).length=S.length:=cnt_len;have Rp2:Rep true p.OB p.WB F S w2:=hinv2.1.rep;show _/\_/\(w2.setCell ⟨tb,3,none⟩ (.pointer none)).heap[F.blk (VB+i)]?=some (.cells (zaT F a b c e f g) 53 (0,0));by_cases zi:i=k
      . subst zi;rw[qe (by rw[hlc];exact zaG hthr)]at hi
        cases hi;refine⟨fun c hc=>(by cases hc;rw[hlc];exact zaG hwp),fun p hp=>(by cases hp),?_⟩
        rw[htbE,heap_setCell,if_pos rfl,hrtb2];simp[zaT,ptrO,hwbE]
      . rw[qd (qy zi)]at hi;have hi':=(zcF hwp).1 hi;obtain⟨y1,y2,y3,y4⟩:=Rp2.at' _ _ hi' rfl;refine⟨fun c hc=>by rw[hlc];exact y2 c hc,fun c hc=>by rw[hlc];exact y3 c hc,?_⟩
        rw[heap_setCell,if_neg]
        . exact y4
        intro e;have e:tb=F.blk (VB+i):=e;exact Rp2.apart i k _ _ zi hi' hthr (F.blk (VB+i)) (by simp[zax]) (by rw[<-e,<-htbE];simp[zax])
    . have Rp2:Rep true p.OB p.WB F S w2:=hinv2.1.rep;have key:∀j:Nat,(∃a b c x e f,((cntS S hp wself (s+1) ask grant quit).set k (.thr self quit false true (some (hp,gid,dn)) none))[j]?=some (Ob.thr a b c x e f))->∃a b c x e f,S[j]?=some (Ob.thr a b c x e f):=by
        rintro j ⟨a,b,c,x,e,f,hj⟩;by_cases zj:j=k
        . subst zj;exact⟨_,_,_,_,_,_,hthr⟩
        . rw[qd (qy zj)]at hj;exact⟨_,_,_,_,_,_,(zcF hwp).1 hj⟩
      obtain⟨_,_,_,_,_,_,y1⟩:=key i hi;obtain⟨_,_,_,_,_,_,y2⟩:=key i' hi';exact fun e=>Rp2.apart i i' _ _ hne y1 y2 (F.blk (VB+i)) (by simp[zax]) (by simp only[zax,if_true,zMc,zNm,or_false];exact e)
  exact(zjB hok L rfl hn00 hw00 hCame).mono fun m5 T5 hB=>⟨d,rfl,rfl,rfl,rfl,rfl,rfl,rfl,rfl,rfl,hB⟩
end
section
variable (hok:∀ mn OB WB,zat mn OB WB)
variable {Γ:Type}(Pr:Proto Γ)
def zrM(Q:Value->AHeap->St->Γ×St->Prop)(r:Value)(hs hs':AHeap)(k:Nat)(self:Int)(quit hp gid dn:Nat)(S:St)(γ1:Γ):Prop :=
  ∀(γ2:Γ) (hs2:AHeap),Pr.Inv γ2 hs2 S->Pr.FC γ2 γ1->(∀i,i≠k->Pr.ph γ2 i=Pr.ph γ1 i)->hs.next<=hs2.next ->
    (∀q,Pr.ph γ2 k=some q->Q r (uniH hs hs' hs2) (S.set k (.thr self quit false true (some (hp,gid,dn)) (some S.length))++[.acc (Pr.acc q).1 (Pr.acc q).2.1 (Pr.acc q).2.2.1 (Pr.acc q).2.2.2]) (γ2,S.set k (.thr self quit false true (some (hp,gid,dn)) (some S.length))++[.acc (Pr.acc q).1 (Pr.acc q).2.1 (Pr.acc q).2.2.1 (Pr.acc q).2.2.2])) /\
    (Pr.ph γ2 k=none->Q r (uniH hs hs' hs2) (S.set k (.thr self quit false false (some (hp,gid,dn)) none)) (γ2,S.set k (.thr self quit false false (some (hp,gid,dn)) none)))
def zpk:SpT Γ:=fun f args hs S γ Q=>∃(k hp gid dn pd s ask grant quit:Nat) (self wself:Int) (v:UInt64) (q:Pr.Ph) (hs':AHeap) (γ1:Γ),f=28/\args=#[hndV k,.int .u64 (v.toNat:Int)]/\KeepC γ.2 S/\S[k]?=some (.thr self quit false true (some (hp,gid,dn)) (some pd))/\S[hp]?=some (.wp wself s ask grant quit) /\
  Pr.ph γ.1 k=some q/\LendH hs hs'/\Pr.Run k q v γ1 hs' (cntS S hp wself (s+1) ask grant quit)/\Pr.fuel γ1<Pr.fuel γ.1/\(∀i,i≠k->Pr.ph γ1 i=Pr.ph γ.1 i)/\zrM Pr Q (.bool true) hs hs' k self quit hp gid dn (cntS S hp wself (s+1) ask grant quit) γ1
variable {Pr}
variable {n00:Nat}{w00:World}
variable {p:Par}{Su:SuT}{S S0:St}{F:Emb}{c:Conf St}{Inb:Nat->Option Seat}{gs:Array Goroutine}{w:World}{T:Trace}{sl:Option (Nat × Nat)}
theorem Standing.keep(k:KeepC S0 (st c))(H:Standing p hok Su S0 F c Inb gs w T):Standing p hok Su (st c) F c Inb gs w T:=⟨H.com.keep k (qa _),H.inv,H.ov,H.prot,H.wrow,H.wro,⟨H.base.low,fun a b c h=>H.base.ch a b c (k.ch h)⟩,H.same⟩
theorem zmm:Try.f28.body=some zdn:=rfl
theorem zkI{v:Int}(hb:F.base (VB+k)=0):actF F (zag Try.f28 zdn #[hndV k,.int .u64 v]).2=⟨#[pt (F.blk (VB+k)),.int .u64 v,undef,undef,undef,undef,undef,undef,undef,undef,undef,undef,undef,undef,undef,undef,undef,undef,undef,undef,undef,undef,undef,undef],[]⟩:=by
  simp only[zag,Try.ntmps28];simp[actF,adr,hndV,zaW,hb,qg]
theorem zpb{Fin:Unit->Machine->Trace->Prop}{d:BD Γ}{r:Value}{Q:Value->AHeap->St->Γ×St->Prop}{quit:Nat}{self:Int}{S1:St}{γ1:Γ}(hbk:zrM Pr Q r hs hs' k self quit hp gid dn S1 γ1)(hd:d.p.FR=F/\d.k=k/\d.hp=hp/\d.self=self/\d.quit=quit/\d.p.h=gid/\d.dn=dn/\d.S=S1/\d.γ=γ1){b:Frame}{F0:Emb}{N0 C0 c0:Nat}{ops:Array Oper}{i:Nat}{rest:List Nat}{kk:List Item}{tmps:List Value}{o:Oper}(ho:ops[i]?=some o)(hN:hs.next=n0)(hst:∀u∈tmps,Stab (Kn n0 c0) F u)(hr:zac r=true)(hc0:c0<=S1.length)(hret:∀{OB WB:Nat->Prop} {Inb:Nat->Option Seat} {n0:Nat} {w0 w:World} (c0:Frame) (cs:List Frame),KA OB WB Inb n0 w0 w->qL Try.prog true (Ro OB 0) (DO OB WB Inb 0) (fun g w'=>g=qj (c0.finish r) cs/\KA OB WB Inb n0 w0 w') 20 (qj (fr.finish (.tuple #[])) (c0::cs)) w)(hF:Same (Kn N0 C0) F0 F)(hN0:N0<=n0)(hC0:C0<=c0)(K:∀v h1 S1 γ',Q v h1 S1 γ'->Safe hok (ClM n00 w00) (SuM hok Pr) Fin b cs F0 N0 C0 (.run (.inRegion ops rest::kk) (putL o.dst v tmps) h1 S1) γ')(hB:znT hok Pr n00 w00 d hs hs' n0 c0 fr (b.at (actF F tmps) (.inRegion ops (i::rest)::kk)::cs) m T):Reach Try.prog m T (Fin ()):=by
  obtain⟨rfl,rfl,rfl,rfl,rfl,rfl,rfl,rfl,rfl⟩:=hd;obtain⟨gs,w,sl,F2,hs2,γ2,Inb,p,S3,rfl,hg,hC,H,hsame,hn,hInv,hfu,hph,hS3⟩:=hB;obtain⟨h0,hrun,hseat,hPX,hn00,hw00⟩:=id hC;obtain⟨B,Mem,q0,R,hM0,_⟩:=H.com.ring;rw[h0]at R;have hlow:=zfT H.com H.wrow;refine(zaR (sl:=sl) (h:=0) 20 hg (hret _ cs ⟨rfl,hlow,qa _⟩) R).bind fun m2 T2=>?_;rintro⟨gs2,g2,w2,sl2,q2,B2,rfl,j1,j2,⟨rfl,hK⟩,R2⟩;have H2:=H.grown hok (SuM.mono hok Pr () γ2) (w':=w2) (gs':=gs2) (T':=T2) (fun x _ _=>by rw[hK.heap]) (by rw[hK.heap];exact qa _) j1 ⟨B2,Mem,q2,h0▸R2,hM0,h0▸hM0⟩
  obtain⟨hq1,hq2⟩:=hbk γ2 hs2 hInv hfu hph (by rw[hN];exact hn)
  have hlen:d.S.length<=S3.length:=by
    rcases hS3 with⟨q,_,rfl⟩|⟨_,rfl⟩
    . simp
    . simp
  have hQ:Q r (uniH hs hs' hs2) S3 (γ2,S3):=by
    rcases hS3 with⟨q,hq,rfl⟩|⟨hq,rfl⟩
    . exact hq1 q hq
    . exact hq2 hq
  have hfin:(b.at (actF d.p.FR tmps) (.inRegion ops (i::rest)::kk)).finish r=b.at (actF F2 (putL o.dst r tmps)) (.inRegion ops rest::kk):=by
    rw[Frame.finish_at,ho];show b.at ((actF d.p.FR tmps).put o.dst r) (.inRegion ops rest::kk)=_;rw[<-zbp hst hsame,<-zc1,zaA F2 hr]
  rw[hfin]at j2;have hKK:∀x,Kn n0 c0 x->Kn hs2.next S3.length x:=fun x hx=>hx.mono hn (by omega)
  exact K r _ S3 (γ2,S3) hQ () p Inb F2 gs2 w2 sl2 T2 _ hC (Standing.conf hok H2 rfl rfl (zcs (fun u hu=>(hst u hu).move hsame hKK) (Stab.plain hr) o.dst)) (h0▸j2) rfl (hF.trans (hsame.mono fun x hx=>hx.mono hN0 hC0)) (Nat.le_trans hN0 hn) (by show C0<=S3.length;omega)
theorem zqk{Fin:Unit->Machine->Trace->Prop}{Stk:List Frame->Prop}:SpOK hok (ClM n00 w00) (SuM hok Pr) Fin Stk (zpk Pr):=by
  intro f args hs S γ Q hsp b cs F0 N0 C0 fn ops i rest kk tmps o hfn hkd hsk ho hw hb' hca K d p Inb F gs w sl T g hC H hg hgS hF hN hC0;obtain⟨k,hp,gid,dn,pd,s,ask,grant,quit,self,wself,v,q,hs',γ1,rfl,rfl,hkeep,hthr,hwp,hph,hl,hRun,hfu,hph1,hbk⟩:=hsp;obtain⟨h0,hrun,hseat,hPX,hn00,hw00⟩:=id hC;have hst:∀u∈tmps,Stab (Kn hs.next S.length) F u:=fun u hu=>H.inv.1.vst u hu;refine(zb9 hok (SuM.mono hok Pr d γ.1) ho hw hb' hca Try.func28 rfl zmm hkd H hg hgS).bind fun m1 T1=>?_;rintro⟨gs1,w1,sl1,rfl,k1,H1⟩;have H1:Standing p hok (SuM hok Pr d γ.1) S F (.run [] [] hs S) Inb gs1 w1 T1:=Standing.keep (c:=.run [] [] hs S) hok hkeep (Standing.conf hok H1 rfl rfl (fun v hv=>by cases hv))
  have Rp:Rep p.mn p.OB p.WB F S w1:=H1.inv.1.rep;rw[zkI (Rp.base _ _ hthr rfl)]at k1;refine(zmM hok (sl:=sl1) ⟨h0,hrun,hseat,hPX,hn00,hw00⟩ hthr hwp hph hl hRun hfu hph1 H1 (h0▸k1)).bind fun m2 T2=>?_;rintro⟨d',e1,e2,e3,e4,e5,e6,e7,e8,e9,hB⟩;exact zpb hok hbk ⟨e1,e2,e3,e4,e5,e6,e7,e8,e9⟩ ho rfl hst rfl (qi cnt_len.symm) (fun c0 cs hK=>zoO hK c0 cs) hF hN hC0 K hB
end
variable {P:Program}{dir:ChanDir}
section
variable {OB WB:Nat->Prop}{Inb:Nat->Option Seat}
theorem DO.alloc0{o:Obj}{es:Array Event}(hW:∀b,WB b->b<w.heap.size)(hS:∀i s c,Inb i=some s->s.has c->c<w.heap.size)(hs:∀e∈es,EvO OB WB 0 (w.alloc o) e):DO OB WB Inb 0 w (w.alloc o) es :=
  ⟨fun i s c hi hc=>zaD w o c (hS i s c hi hc),fun a ha _=>za5 _ _ _ (zaD w o _ (hW _ ha)),fun h=>absurd rfl h,by rw[zaL];omega,rfl,hs⟩
noncomputable def newC:Code:=(Try.f5.body).getD .skip
noncomputable def zk8:Array Oper:=cOps (cL (cR newC))
noncomputable def newR:Code:=cR (cR newC)
abbrev thrV(self:Int)(qc:Nat):Value:=.agg #[.int .i64 self,.pointer none,.chan none,.pointer none,.bool false,.bool false,.chan (some qc)]
noncomputable def zqF (self:Int) (qc:Nat) (rest:List Nat):Frame:=(base 5).at ⟨#[.int .i64 self,undef,.pointer none,.int .i64 self,.chan (some qc),thrV self qc,undef],[]⟩ [.inRegion zk8 rest,.code newR]
theorem zlD{t:TypeId}{e:TypeId}{i:TypeInfo}(ht:P.underlying t=some (.chan dir e))(hi:P.info? e=some i)(hn:n<=1)(hb:i.bytes<=1000)(w:World):(Instr.makeChan t (.int .i64 (n:Int))).run P w=.ok (.chan (some w.heap.size)) (w.alloc (.chan n #[] false 0 0 false)):=run_makeChan ht hi .i64 n (by omega) (by
  have h1:i.bytes * n<=1000 * 1:=Nat.mul_le_mul hb hn;have:(i.bytes:Int) * n=((i.bytes * n:Nat):Int):=by push_cast;rfl
  rw[this];omega)
theorem zfw{fn:FuncId}{a:Act}{o:Oper}{t:TypeId}{x:Operand}{e:TypeId}{i:TypeInfo}(ho:o.op=.makeChan t x)(hx:a.eval x=.int .i64 (n:Int))(ht:P.underlying t=some (.chan dir e))(hi:P.info? e=some i)(hn:n<=1)(hb:i.bytes<=1000):listed P fn a o w=#[]:=by
  have hev:=events_makeChan (P:=P) (w:=w) ht hi .i64 n (by omega) (by
    have h1:i.bytes * n<=1000 * 1:=Nat.mul_le_mul hb hn;have:(i.bytes:Int) * n=((i.bytes * n:Nat):Int):=by push_cast;rfl
    rw[this];omega) #[]
  have he:(execOp a.eval o).events P w #[]=#[]:=by
    unfold execOp;simp only[ho,hx];simp[go_sem,hev]
  show seen P fn ((execOp a.eval o).events P w #[])=#[];rw[he,seen_none]
theorem KM.alloc(K:KM w0 w){o:Obj}:KM (w0.alloc o) (w.alloc o):=⟨by rw[zbT,zbT,K.heap]⟩
theorem zqe{self:Int}(hK:KA OB WB Inb n0 w0 w)(cs:List Frame):
    qL Try.prog true (Ro OB 0) (DO OB WB Inb 0) (fun g w'=>g=qj (zqF self w0.heap.size [3,4]) cs/\KA OB WB Inb n0 (w0.alloc (.chan 0 #[] false 0 0 false)) w') 60 (qj ((base 5).at ⟨#[.int .i64 self,undef,undef,undef,undef,undef,undef],[]⟩ [.code newC]) cs) w:=by
  simp only[newC,Try.f5,qs];(refine qstp (fun _=>hK.rely) rfl fun w₁ hK=>?_;rw[stepG_seq];simp only[qr];refine⟨DO.none _,?_⟩);(refine qstp (fun _=>hK.rely) rfl fun w₁ hK=>?_;rw[stepG_region];simp only[qr,zSt,zLc,zLn,Nat.reduceAdd,Nat.zero_add,List.range,List.range.loop];refine⟨DO.none _,?_⟩);(refine qstp (fun _=>hK.rely) rfl fun w₁ hK=>?_;refine qn rfl rfl (by decide) (fun K hK'=>?_);go_simp;refine hK' _ _ ⟨DO.quiet (fun e he=>(by have hm:=qw he;simp[go_sem,qo,qx]at hm)),?_⟩;clear hK' K)
  (refine qstp (fun _=>hK.rely) rfl fun w₁ hK=>?_;rw[stepG_region_end];simp only[qr];refine⟨DO.none _,?_⟩);(refine qstp (fun _=>hK.rely) rfl fun w₁ hK=>?_;rw[stepG_seq];simp only[qr];refine⟨DO.none _,?_⟩);(refine qstp (fun _=>hK.rely) rfl fun w₁ hK=>?_;rw[stepG_region];simp only[qr,zSt,zLc,zLn,Nat.reduceAdd,Nat.zero_add,List.range,List.range.loop];refine⟨DO.none _,?_⟩);(refine qstp (fun _=>hK.rely) rfl fun w₁ hK=>?_;refine qn rfl rfl (by decide) (fun K hK'=>?_);go_simp;refine hK' _ _ ⟨DO.quiet (fun e he=>(by have hm:=qw he;simp[go_sem,qo,qx]at hm)),?_⟩;clear hK' K);refine Conc.Goes.step rfl (fun w₁ h₁=>?_);replace hK:=hK.rely h₁;clear h₁
  refine qn rfl rfl (by decide) (fun K hK'=>?_)
  go_simp
  rw[show(qI IntKind.i64 0)=.int .i64 ((0:Nat):Int) from rfl,zlD rfl rfl (by omega) (by decide)]
  refine hK' _ _ ⟨DO.alloc (fun b hb=>by have:=hK.low b hb;have:=hK.size;rw[hK.heap];omega) (fun e he=>(by rw[zfw (n:=0) rfl rfl rfl rfl (by omega) (by decide)]at he;simp at he)),?_⟩
  clear hK' K;rw[show w₁.heap.size=w0.heap.size by rw[hK.heap]]
  have hn0:=hK.size;replace hK:=hK.alloc (o:=.chan 0 #[] false 0 0 false);refine qstp (fun _=>hK.rely) rfl fun w₁ hK=>?_;refine qn rfl rfl (by decide) (fun K hK'=>?_)
  go_simp
  refine hK' _ _ ⟨DO.quiet (fun e he=>(by have hm:=qw he;simp[go_sem,Act.put]at hm)),?_⟩
  clear hK' K;exact Conc.Goes.stop (fun w₁ h₁=>⟨by simp only[zqF,zk8,newR,newC,cOps,cL,cR,Try.f5,qs,thrV],hK.rely h₁⟩)
theorem zqh{self:Int}{qc:Nat}(hK:KM w0 w)(hW:∀b,WB b->b<w0.heap.size)(hS:∀i s c,Inb i=some s->s.has c->c<w0.heap.size)(c0:Frame)(cs:List Frame):
    qL Try.prog true (Ro OB 0) (DO OB WB Inb 0) (fun g w'=>g=qj (c0.finish (pt w0.heap.size)) cs/\KM (w0.alloc (.cells #[.int .i64 self,.pointer none,.chan none,.pointer none,.bool false,.bool false,.chan (some qc)] 53)) w') 60 (qj (zqF self qc [3,4]) (c0::cs)) w:=by
  simp only[zqF,zk8,newR,newC,cOps,cL,cR,Try.f5,qs,thrV];refine qstp (fun _=>hK.rely) rfl fun w₁ hK=>?_;refine qn rfl rfl (by decide) (fun K hK'=>?_)
  go_simp
  have hsz:w₁.heap.size=w0.heap.size:=by rw[hK.heap]
  refine hK' _ _ ⟨DO.alloc0 (fun b hb=>by rw[hsz];exact hW b hb) (fun i s c hi hc=>by rw[hsz];exact hS i s c hi hc) (fun e he=>(by have hm:=qw he;simp[go_sem]at hm)),?_⟩
  clear hK' K;rw[hsz];replace hK:=hK.alloc (o:=.cells #[.int .i64 self,.pointer none,.chan none,.pointer none,.bool false,.bool false,.chan (some qc)] 53);(refine qstp (fun _=>hK.rely) rfl fun w₁ hK=>?_;refine qn rfl rfl (by decide) (fun K hK'=>?_);go_simp;refine hK' _ _ ⟨DO.quiet (fun e he=>(by have hm:=qw he;simp[go_sem,qo,qx]at hm)),?_⟩;clear hK' K)
  (refine qstp (fun _=>hK.rely) rfl fun w₁ hK=>?_;rw[stepG_region_end];simp only[qr];refine⟨DO.none _,?_⟩);(refine qstp (fun _=>hK.rely) rfl fun w₁ hK=>?_;rw[stepG_ret'];simp only[qr];refine⟨DO.none _,?_⟩);refine Conc.Goes.step rfl (fun w₁ h₁=>?_);replace hK:=hK.rely h₁;clear h₁
  rw[stepG_leave rfl rfl Try.func5 (results_tmp Try.results5 _ _ _) (events_results_tmp Try.results5 _ _)];simp only[qr];refine⟨DO.none _,?_⟩;exact Conc.Goes.stop (fun w₁ h₁=>⟨rfl,hK.rely h₁⟩)
end
end Go.Proofs.Ytpkkfkebnhgaiaa
