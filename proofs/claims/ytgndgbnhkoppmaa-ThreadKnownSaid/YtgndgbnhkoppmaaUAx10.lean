/-
  The abstract machine, part 10: a region that draws its order, whole; THE SIMULATION.
  No condition: laws.
-/
import Derived.Test.YtgndgbnhkoppmaaUAx6
import Derived.Test.YtgndgbnhkoppmaaUAx1
import Derived.Laws.EntriesVeiled
import Derived.BigRegion
set_option maxHeartbeats 40000000
set_option linter.unusedVariables false
set_option linter.unusedSimpArgs false
namespace Go.Proofs.Ytgndgbnhkoppmaa
open Go Go.RowKit Go.Conc
section
variable {P:Program} {σ:Type} {X:Face P σ} {W:List Nat} {ops:Array Oper} {n0:Nat} {hf:AHeap} {rec:Nat->DRec σ} {F0:Emb} {w0:World} {M:Nat->Prop}
theorem znX (C:Chain X W ops n0 hf rec) (L:zkt W ops) {b:Frame} {rest:List Nat} {k:List Item} {cs:List Frame} (hkd:b.kind=.normal) {listed:Array Bool} {a:Act} {w:World} (hI:∃ F e c,DInv X W ops n0 rec F0 w0 M listed a w F e c) {i:Nat} (hi:i∈Region.ready .any ops listed) :
    ∃ a' w',(∃ F e c,DInv X W ops n0 rec F0 w0 M (listed.setIfInBounds i true) a' w' F e c)/\XSt P (G (b.at a (.inRegion ops (i::rest)::k)) cs) w (G (b.at a' (.inRegion ops rest::k)) cs) w':=by
  obtain⟨F,e,c,I⟩:=hI;obtain⟨o,R⟩:=zpA L I.size I.down hi;obtain⟨hexec,hwant⟩:=I.same_at C L R (Same.refl _ F);rcases C.sem i o R.at' with ⟨g1,g2,g3,g4⟩|⟨g1,g2,g3,g4⟩|⟨g1,g2,g3,hv,g4,g5⟩
  . obtain⟨e',c',h⟩:=I.still C R g3 g4 (by rw [g2];exact Stab.undef)
    rw [g2,zaS] at h;exact⟨_,w,⟨F,e',c',h⟩,.one (zgo R.at' (by rw [hwant];exact g1) w)⟩
  . obtain⟨v,w',hq,hst⟩:=OpWp.steps (rest:=rest) (k:=k) (cs:=cs) hkd R.at' (by rw [hwant];exact g1) (I.writes C L R g2 g3 g4)
    exact⟨_,w',hq,hst⟩
  . obtain⟨v,w',hq,hst⟩:=OpWp.steps (rest:=rest) (k:=k) (cs:=cs) hkd R.at' (by rw [hwant];exact g1) (I.quiet C L R g2 g3 g4 g5)
    exact⟨_,w',hq,hst⟩
theorem DInv.end' (C:Chain X W ops n0 hf rec) (hn0:n0<=VB) {listed:Array Bool} {a:Act} {w:World} (hall:∀ i,i<ops.size->listed.getD i false=true) (hI:∃ F e c,DInv X W ops n0 rec F0 w0 M listed a w F e c) :
    ∃ F',a=actF F' (rec ops.size).tmps/\AInv X F' w0 M (Kn (rec ops.size).h.next (X.cnt (rec ops.size).S)) (fun v=>v∈(rec ops.size).tmps) (rec ops.size).h (rec ops.size).S w/\Same (Kn n0 (X.cnt (rec 0).S)) F0 F'/\X.cnt (rec 0).S<=X.cnt (rec ops.size).S:=by
  obtain⟨F,e,c,I⟩:=hI;have hlt:∀ {i o},ops[i]?=some o->i<ops.size:=fun h=>(Array.getElem?_eq_some_iff.1 h).1;obtain rfl:e=ops.size:=by
    rcases I.eat with h|⟨o,h1,h2⟩
    . exact h
    . have:=I.eopen e o (Nat.le_refl _) h1 h2;rw [hall e (hlt h1)] at this;cases this
  have hS:(rec ops.size).S=(rec c).S:=C.states' I.cle (Nat.le_refl _) fun j o h1 h2 hj=>by
    cases h:zax o with
    | false=>rfl
    | true=>have:=I.copen j o h1 hj h;rw [hall j h2] at this;cases this
  have hbd:∀ n,n<(rec ops.size).h.next->n<n0\/zd6 rec ops listed n=true:=fun n hn=>by
    by_cases h:n<n0
    . exact .inl h
    . obtain⟨j,hj⟩:=C.all_born ops.size (Nat.le_refl _) n (Nat.le_of_not_lt h) hn;exact .inr (zbQ.2 ⟨j,hj,hall j (C.born ops.size (Nat.le_refl _) j n hj).1⟩)
  have hK:∀ n,KD X rec ops n0 listed c n->Kn (rec ops.size).h.next (X.cnt (rec ops.size).S) n:=fun n hn=>by
    rcases hn with hn|hn|hn
    . have:=C.next_le' (Nat.zero_le ops.size) (Nat.le_refl _);rw [C.next0] at this;exact .inl (by omega)
    . exact .inl (zfz C hn).1
    . rw [hS];exact .inr hn
  have hget:∀ n b,(rec ops.size).h.get n=some b->(hD rec ops n0 listed ops.size).get n=some b:=fun n b hb=>zof (hbd n (C.low ops.size (Nat.le_refl _) n b hb)) hb;obtain⟨hw1,_,hw3⟩:=zfD (dst:=dstD ops) (r:=fun p=>⟨true,(rec p).v,⟨(rec p).tmps.toArray,[]⟩⟩) (a0:=⟨(rec 0).tmps.toArray,[]⟩) (n:=ops.size) rfl (fun p hp=>C.rows p hp) ops.size (Nat.le_refl _);simp only [List.size_toArray] at hw1 hw3;have hslot:∀ t,t<(rec 0).tmps.length->(rec ops.size).tmps.getD t undef=ziE rec ops listed t:=fun t ht=>by
    have:=hw3 t ht;rw [show ((rec ops.size).tmps.toArray).getD t undef=(rec ops.size).tmps.getD t undef by simp [List.getD]] at this
    rw [this];unfold ziE;exact zcB _ fun j hj _=>⟨(hall j hj).symm,rfl⟩
  refine⟨F,?_,⟨I.holds.sub hget,by rw [hS];exact I.rep,?_,fun n b hb v hv=>(I.hst n b (hget n b hb) v hv).move (Same.refl _ _) hK,fun n b hb=>⟨hK n (hD_K n b (hget n b hb)),zrS C I.nVB (hget n b hb)⟩,fun n h1 h2=>.inr ⟨h1,h2⟩,fun n hn=>?_,I.kept,fun n b hb=>I.own n b (hget n b hb),by rw [hS];exact I.fown,fun n b hb=>by rw [hS];exact I.sep n b (hget n b hb)⟩,I.same,by rw [hS];exact I.cnt⟩
  . refine zra (by rw [I.tmps];simp [actF,hw1]) I.defers fun t ht=>?_
    have ht':t<(rec 0).tmps.length:=by rw [<-I.tmps];exact ht
    rw [I.slots t ht',<-hslot t ht'];exact (zbU F (rec ops.size).tmps (.tmp t) rfl).symm
  . intro v hv;obtain⟨t,ht⟩:=List.mem_iff_getElem?.1 hv;have h1:=(List.getElem?_eq_some_iff.1 ht).1;have h2:(rec ops.size).tmps.getD t undef=v:=by simp [List.getD,ht]
    rw [hslot t (by rw [<-hw1];exact h1)] at h2
    rw [<-h2];exact (I.slot_stab t).move (Same.refl _ _) hK
  . rcases hn with hn|hn
    . have:=C.lim hn0 ops.size (Nat.le_refl _);omega
    . exact hn.2
theorem zkb (L:zkt W ops) {listed:Array Bool} (hnil:Region.ready .any ops listed=[]):∀ i,i<ops.size->listed.getD i true=true:=by
  intro i
  induction i using Nat.strongRecOn with
  | _ i ih =>
    intro hlt;cases hb:listed.getD i true
    . exfalso;have:i∈Region.ready .any ops listed:=mem_ready.2 ⟨hb,_,Array.getElem?_eq_getElem hlt,fun e he hbd=>by
        have hd:=L.deps i _ (Array.getElem?_eq_getElem hlt) e.on (zpq he hbd);have:=ih e.on hd (by omega)
        cases hf:listed.getD e.on false
        . rcases Nat.lt_or_ge e.on listed.size with h|h
          . rw [zjZ h false true,this] at hf;exact Bool.noConfusion hf
          . have hli:listed.size<=i:=by omega
            simp [Array.getElem?_eq_none hli] at hb
        . rfl⟩
      rw [hnil] at this;cases this
    . rfl
theorem znN {id:Nat} {k:List Item} (hB:zlQ W ops=true) (hst:∀ n b,hf.get n=some b->n<(rec 0).h.next/\∃ b0,b={ b0 with ro:=true }/\∀ j,j<=ops.size->j<=farU W ops.size->(rec j).h.get n=some b0) (hgood:∀ i o,ops[i]?=some o->GoodK X W ops (rec 0).h.next hf i o (rec i) (rec (i+1))) (hb0:(rec 0).born=[])
    (hcs:∀ i wr f g c zs E Q hc h1 ex v0,i<ops.size->(rec i).kind=.call wr f g c zs E Q hc h1 ex v0->X.cnt (rec i).S<=X.cnt (rec (i+1)).S/\Simul X g (fun x=>x=.done v0 h1 (rec (i+1)).S) (.run (zag g c zs).1 (zag g c zs).2 hc (rec i).S))
    (hcsD:∀ i f g c args o,ops[i]?=some o->(rec i).kind=.callD f g c args->zg8 X o (evA (rec i).tmps) (rec i).h (rec i).S (rec i).v (rec (i+1)).h (rec (i+1)).S)
    (b:Frame) (cs:List Frame) (hkd:b.kind=.normal) (F:Emb) (w0 w:World) (M:Nat->Prop) (I:AInv X F w0 M (Kn (rec 0).h.next (X.cnt (rec 0).S)) (fun v=>v∈(rec 0).tmps) (rec 0).h (rec 0).S w) (hlim:(rec 0).h.next<=VB) :
    ∃ F' w' m',XSt P (G (b.at (actF F (rec 0).tmps) (.code (.region id ops true)::k)) cs) w m' w'/\zc5 P F' b cs (Conf.run k (rec ops.size).tmps (rec ops.size).h (rec ops.size).S) w' m'/\InvC X F' w0 M (.run k (rec ops.size).tmps (rec ops.size).h (rec ops.size).S) w' /\
      Same (Kn (rec 0).h.next (X.cnt (rec 0).S)) F F'/\X.cnt (rec 0).S<=X.cnt (rec ops.size).S/\(rec 0).h.next<=(rec ops.size).h.next:=by
  have L:=zmy hB;have hlow0:∀ n b,(rec 0).h.get n=some b->n<(rec 0).h.next:=fun n b hb=>by
    obtain⟨h1,h2⟩:=I.hk n b hb;rcases h1 with h1|h1
    . exact h1
    . omega
  have C:Chain X W ops (rec 0).h.next hf rec:=zpJ hst hgood hb0 rfl hlow0 hcs hcsD
  let Q:Exit->Act->World->Prop:=fun ex a w=>ex=.normal/\∃ F',a=actF F' (rec ops.size).tmps/\AInv X F' w0 M (Kn (rec ops.size).h.next (X.cnt (rec ops.size).S)) (fun v=>v∈(rec ops.size).tmps) (rec ops.size).h (rec ops.size).S w/\Same (Kn (rec 0).h.next (X.cnt (rec 0).S)) F F'/\X.cnt (rec 0).S<=X.cnt (rec ops.size).S
  have hend:∀ (listed:Array Bool) (a:Act) (w:World),(∀ i,i<ops.size->listed.getD i true=true)->(∃ F' e c,DInv X W ops (rec 0).h.next rec F w0 M listed a w F' e c)->Q .normal a w:=by
    intro listed a w hall hI;refine⟨rfl,DInv.end' C hlim (fun i hi=>?_) hI⟩;obtain⟨F',e,c,I'⟩:=hI;rw [zjZ (by rw [I'.size];exact hi) false true];exact hall i hi
  have hgo:∀ (fuel t:Nat) (listed:Array Bool) (a:Act) (w:World),zbS listed ops.size<=fuel->(∃ F' e c,DInv X W ops (rec 0).h.next rec F w0 M listed a w F' e c) ->
      ∃ a' w',Q .normal a' w'/\XSt P (G (b.at a (.inRegion ops (Region.linearise.go .any ops fuel t listed [])::k)) cs) w (G (b.at a' (.inRegion ops []::k)) cs) w':=by
    intro fuel
    induction fuel with
    | zero =>
      intro t listed a w hf hI;have hall:=zeU ops.size (Nat.le_zero.1 hf);exact⟨a,w,hend listed a w hall hI,.refl⟩
    | succ fuel ih =>
      intro t listed a w hf hI;simp only [Region.linearise.go];change ∃ a' w',Q .normal a' w'/\XSt P (G (b.at a (.inRegion ops (match (Region.ready .any ops listed)[t % (Region.ready .any ops listed).length]? with
        | some i=>Region.linearise.go .any ops fuel (t / (Region.ready .any ops listed).length) (listed.setIfInBounds i true) [i]
        | none=>[].reverse)::k)) cs) w (G (b.at a' (.inRegion ops []::k)) cs) w'
      cases hi:(Region.ready .any ops listed)[t % (Region.ready .any ops listed).length]? with
      | none =>
        have hnil:Region.ready .any ops listed=[]:=by
          cases hr:Region.ready .any ops listed with
          | nil=>rfl
          | cons x xs =>
            rw [hr] at hi;have hlt:t % (x::xs).length<(x::xs).length:=Nat.mod_lt _ (by simp)
            simp at hi;simp at hlt;omega
        exact⟨a,w,hend listed a w (zkb L hnil) hI,.refl⟩
      | some i =>
        simp only [];rw [linearise_go_acc,List.reverse_singleton,List.singleton_append];have hir:i∈Region.ready .any ops listed:=List.mem_of_getElem? hi;obtain⟨a1,w1,hI1,hs1⟩:=znX (rest:=Region.linearise.go .any ops fuel (t / (Region.ready .any ops listed).length) (listed.setIfInBounds i true) []) (k:=k) (cs:=cs) C L hkd hI hir;obtain⟨a2,w2,hQ,hs2⟩:=ih (t / (Region.ready .any ops listed).length) _ a1 w1 (by
          obtain⟨hun,o,ho,_⟩:=mem_ready.1 hir;have hlt:=(Array.getElem?_eq_some_iff.1 ho).1;obtain⟨F',e,c,I'⟩:=hI;have:=zdE hun ops.size hlt (by rw [I'.size];exact hlt)
          omega) hI1
        exact⟨a2,w2,hQ,hs1.trans hs2⟩
  have hno:∀ i,(Array.replicate ops.size false).getD i false=false:=fun i=>by
    rcases Nat.lt_or_ge i ops.size with h|h<;>simp [h]
  have hbn:∀ n,zd6 rec ops (Array.replicate ops.size false) n=false:=fun n=>by
    cases h:zd6 rec ops (Array.replicate ops.size false) n with
    | false=>rfl
    | true=>obtain⟨j,_,h2⟩:=zbQ.1 h;rw [hno] at h2;cases h2
  obtain⟨e,_,he2,he3,he4⟩:=zkp (wrB W) ops ops.size 0 (by omega)
  have hKn:∀ n,Kn (rec 0).h.next (X.cnt (rec 0).S) n->KD X rec ops (rec 0).h.next (Array.replicate ops.size false) 0 n:=fun n hn=>by
    rcases hn with hn|hn
    . exact .inl hn
    . exact .inr (.inr hn)
  have hget:∀ n b,(hD rec ops (rec 0).h.next (Array.replicate ops.size false) e).get n=some b->(rec 0).h.get n=some b:=fun n b hb=>by
    obtain⟨h1,h2⟩:=zjl hb;rw [hbn] at h1;have h1:n<(rec 0).h.next:=by rcases h1 with h|h;exact h;cases h
    rw [C.stays' (Nat.zero_le e) he2 (fun j o _ h hj=>he3 j o (Nat.zero_le _) h hj) h1] at h2;exact h2
  have hdr:Kept w0 M w.drew:=⟨I.kept.os,I.kept.tape,I.kept.output,I.kept.size,I.kept.block⟩;have hH:Holds F (rec 0).h w.drew:=⟨I.holds.row,I.holds.apart⟩;have hD0:DInv X W ops (rec 0).h.next rec F w0 M (Array.replicate ops.size false) (actF F (rec 0).tmps) w.drew F e 0:=by
    refine⟨by simp,fun i o _ hl=>(by rw [hno] at hl;cases hl),by simp [actF],rfl,fun t ht=>?_,fun j hj=>(by rw [hno] at hj;cases hj),fun v hv=>(I.vst v hv).move (Same.refl _ _) hKn,he2,fun i o h1 h2 h3=>(by rw [he3 i o (Nat.zero_le _) h1 h2] at h3;cases h3),fun i o _ _ _=>hno i,he4,
      Nat.zero_le _,fun i o h=>(by omega),fun i o _ _ _=>hno i,hH.sub hget,hlim,fun n b hb v hv=>(I.hst n b (hget n b hb) v hv).move (Same.refl _ _) hKn,X.rep_kept _ _ _ _ I.rep (Nat.le_refl _) (fun _ _=>rfl),hdr,fun n b hb=>I.own n b (hget n b hb),I.fown,fun n b hb=>I.sep n b (hget n b hb),Same.refl _ _,Nat.le_refl _⟩
    have:∀ n,zbz (dstD ops) (fun j=>(rec j).v) (fun j=>(Array.replicate ops.size false).getD j false) ⟨(rec 0).tmps.toArray,[]⟩ t n=(rec 0).tmps.getD t undef:=by
      intro n
      induction n with
      | zero=>simp [zbz,List.getD]
      | succ n ih=>rw [zbz,if_neg,ih];rintro ⟨h1,_⟩;rw [hno] at h1;cases h1
    unfold ziE;rw [this];exact zbU F (rec 0).tmps (.tmp t) rfl
  obtain⟨a',w',⟨_,F',rfl,I',hs,hc⟩,hst⟩:=hgo ops.size (w.tape w.drawn (.order b.fn id)) _ _ _ (zcF _ _) ⟨F,e,0,hD0⟩;have hdraw:=zrD (P:=P) (b:=b) (a:=actF F (rec 0).tmps) (k:=k) (cs:=cs) (ops:=ops) (id:=id) w;rw [show Region.schedule (P.follows .mixedOrders) ops (w.tape w.drawn (.order b.fn id))=Region.linearise.go .any ops ops.size (w.tape w.drawn (.order b.fn id)) (Array.replicate ops.size false) [] by
    simp only [Region.schedule,X.mix,Bool.true_or,if_true];rfl] at hdraw
  exact⟨F',w',_,.head hdraw (hst.trans (.one (zcj rfl (fun _ _=>stepG_region_end) w'))),rfl,⟨I',C.lim hlim ops.size (Nat.le_refl _)⟩,hs,hc,C.next_le' (Nat.zero_le _) (Nat.le_refl _)⟩
theorem zjL {o:Oper} {e:Operand->Value} {h h':AHeap} {S S':σ} {v:Value} (H:Op0 X o e h S v h' S'):X.cnt S<=X.cnt S':=(zgI H).2.1
theorem Goes.cnt' {fn:Func} {A:Conf σ->Prop} {c:Conf σ} (G:Goes X fn A c):∃ c',A c'/\X.cnt (st c)<=X.cnt (st c'):=by
  induction G with
  | here h=>exact⟨_,h,Nat.le_refl _⟩
  | ctl _ _ ih=>exact ih
  | ret _ _ _ ih=>exact ih
  | skip _ _ _ ih=>exact ih
  | op _ _ _ hop _ _ ih =>
    obtain⟨c',h1,h2⟩:=ih;exact⟨c',h1,Nat.le_trans (zjL hop) h2⟩
  | call _ _ _ _ _ _ _ _ _ _ _ _ _ _ _ _ _ ihc ih =>
    obtain⟨c',h1,h2⟩:=ih;obtain⟨c2,rfl,h4⟩:=ihc;exact⟨c',h1,Nat.le_trans h4 h2⟩
  | callD _ _ _ _ _ _ _ _ _ _ _ _ _ _ _ _ ihc ih =>
    obtain⟨c',h1,h2⟩:=ih;obtain⟨c2,rfl,h4⟩:=ihc;exact⟨c',h1,Nat.le_trans h4 h2⟩
  | @draw fn A id ops k tmps h S W rec hB h0 hf hstill hgood hcalls hcallsD hk ihc ihd ih =>
    obtain⟨c',h1,h2⟩:=ih;refine⟨c',h1,Nat.le_trans ?_ h2⟩;obtain⟨_,_,rfl,_⟩:=h0;have key:∀ i,i<=ops.size->X.cnt (rec 0).S<=X.cnt (rec i).S:=by
      intro i
      induction i with
      | zero=>exact fun _=>Nat.le_refl _
      | succ i ih' =>
        intro hi;refine Nat.le_trans (ih' (by omega)) ?_
        have ho:ops[i]?=some ops[i]:=Array.getElem?_eq_getElem (by omega)
        have hg:=(hgood i _ ho).2;split at hg
        . rw [hg.2.2.2.1];exact Nat.le_refl _
        . obtain⟨_,_,_,_,_,_,hg,_⟩:=hg;rw [hg];exact Nat.le_refl _
        . obtain⟨_,_,_,_,_,hg⟩:=hg;split at hg
          . exact zjL hg.2
          . obtain⟨_,hv,hg,_⟩:=hg;exact zjL hg
        . rename_i hkind;obtain⟨c2,rfl,h4⟩:=ihc i _ _ _ _ _ _ _ _ _ _ _ (by omega) hkind
          exact h4
        . rename_i hkind;obtain⟨c2,rfl,h4⟩:=ihd i _ _ _ _ (by omega) hkind
          exact h4
    exact key ops.size (Nat.le_refl _)
  | weak _ _ _ ih=>exact ih
  | raise _ _ _ _ ih=>exact ih
theorem Goes.cnt {fn:Func} {c:Conf σ} {v:Value} {h1:AHeap} {S':σ} (G:Goes X fn (fun x=>x=.done v h1 S') c):X.cnt (st c)<=X.cnt S':=by
  obtain⟨c',rfl,h⟩:=G.cnt';exact h
theorem zm9 {fn:Func} {ops:Array Oper} {i:Nat} {rest:List Nat} {k:List Item} {tmps:List Value} {h h':AHeap} {S S':σ} {o:Oper} {v:Value} (ho:ops[i]?=some o) (hw:Region.wanted o (zaj ops tmps)=true) (hb':o.op.operands.all zaN=true) (hl:h'.next=h.next\/h'.next<=VB) (hsem:OpSem X o (evA tmps) h S v h' S')
    (b:Frame) (cs:List Frame) (F:Emb) (w0 w:World) (M:Nat->Prop) (m:Goroutine) (_:P.funcs[b.fn]?=some fn) (hkd:b.kind=.normal) (hS:zc5 P F b cs (.run (.inRegion ops (i::rest)::k) tmps h S) w m) (hI:InvC X F w0 M (.run (.inRegion ops (i::rest)::k) tmps h S) w) :
    ∃ F' w' m',XSt P m w m' w'/\zc5 P F' b cs (.run (.inRegion ops rest::k) (putL o.dst v tmps) h' S') w' m'/\InvC X F' w0 M (.run (.inRegion ops rest::k) (putL o.dst v tmps) h' S') w'/\Same (Kn h.next (X.cnt S)) F F'/\X.cnt S<=X.cnt S'/\h.next<=h'.next:=by
  subst hS;obtain⟨I,hlim⟩:=hI;have I:AInv X F w0 M (Kn h.next (X.cnt S)) (fun v=>v∈tmps) h S w:=I;obtain⟨hn,hcn,_,hsem⟩:=hsem;have hlim:h.next<=VB:=hlim;have hl:h'.next<=VB:=by omega
  have hop:∀ x∈o.op.operands,zaN x=true:=fun x hx=>by simpa using (Array.all_eq_true_iff_forall_mem.1 hb') x hx
  have hmain:=hsem (Kn h.next (X.cnt S)) F w0 w M (actF F tmps).eval (fun x h1 h2=>⟨fun hk=>by
    rcases hk with hk|hk
    . omega
    . omega,by omega⟩) (fun x hx=>zbU F tmps x (hop x hx)) (I.vals' (by rintro _ ⟨x,hx,rfl⟩;exact zfw I.vst x (hop x hx)))
  obtain⟨u,w',⟨F',rfl,hs,J⟩,hst⟩:=OpWp.steps (b:=b) (rest:=rest) (k:=k) (cs:=cs) hkd ho (by rw [zc0];exact hw) hmain
  rw [<-zbo I.vst hs,zcI,zbo I.vst hs] at hst;have hKK:∀ x,KAdd (Kn h.next (X.cnt S)) h.next h'.next (X.cnt S) (X.cnt S') x->Kn h'.next (X.cnt S') x:=fun x hx=>by
    rcases hx with (hx|hx)|hx|hx
    . exact .inl (by omega)
    . exact .inr ⟨hx.1,by omega⟩
    . exact .inl hx.2
    . exact .inr ⟨by omega,hx.2⟩
  have J2:=J.kmono hKK (fun x hx=>by
    rcases hx with hx|hx
    . omega
    . exact hx.2)
  refine⟨F',w',_,hst,rfl,⟨J2.vals' (zb9 (fun u hu=>(I.vst u hu).move hs (fun x hx=>hKK x (.inl hx))) (J2.vst _ rfl) o.dst),hl⟩,hs,hcn,hn⟩
theorem Stab.func {K:Nat->Prop} {F:Emb} {fn:Fn} {xs ys:Array Value} (h:Stab K F (.func fn xs ys)):(∀ u∈xs,Stab K F u)/\∀ u∈ys,Stab K F u:=by
  have key:∀ F',Same K F F'->xs.map (ren F')=xs.map (ren F)/\ys.map (ren F')=ys.map (ren F):=fun F' hs=>by
    have:=h F' hs;simp only [zbx,Value.func.injEq,true_and] at this;exact this
  have one:∀ (zs:Array Value) (F':Emb),zs.map (ren F')=zs.map (ren F)->∀ u∈zs,ren F' u=ren F u:=fun zs F' he u hu=>by
    obtain⟨i,hi,rfl⟩:=Array.mem_iff_getElem.1 hu;have h1:=congrArg (fun a:Array Value=>a[i]?) he;simpa [hi] using h1
  exact⟨fun u hu F' hs=>one xs F' (key F' hs).1 u hu,fun u hu F' hs=>one ys F' (key F' hs).2 u hu⟩
theorem zfy {K:Nat->Prop} {F:Emb} {e:Operand->Value} {o:Op} {f:FuncId} {args:Array Value} (hs:∀ x∈o.operands,Stab K F (e x)) (hv:zaW P e o=some (f,args)):∀ u∈args,Stab K F u:=by
  unfold zaW at hv;split at hv
  . rename_i g zs ats;split at hv
    . rename_i k xs ys hg;cases hv;have h1:=hs g (by simp [Op.operands,Call.operands])
      rw [hg] at h1;intro u hu;rcases Array.mem_append.1 hu with hu|hu
      . rcases Array.mem_append.1 hu with hu|hu
        . exact (Stab.func h1).1 u hu
        . obtain⟨x,hx,rfl⟩:=Array.mem_map.1 hu;exact hs x (by simp [Op.operands,Call.operands,hx])
      . exact (Stab.func h1).2 u hu
    . rename_i name xs ys hg;split at hv
      . rename_i t p hx;split at hv
        . cases hv;have h1:=hs g (by simp [Op.operands,Call.operands])
          rw [hg] at h1;obtain rfl:xs=#[.iface t (.pointer p)]:=by rw [<-Array.toArray_toList (xs:=xs),hx]
          have h2:=(Stab.func h1).1 (.iface t (.pointer p)) (by simp)
          intro u hu;rcases Array.mem_append.1 hu with hu|hu
          . simp only [List.mem_toArray,List.mem_singleton] at hu;subst hu;intro F' hF;have:=h2 F' hF;simpa using this
          . obtain⟨x,hx,rfl⟩:=Array.mem_map.1 hu;exact hs x (by simp [Op.operands,Call.operands,hx])
        . cases hv
      . cases hv
    . cases hv
  . rename_i r name zs ats;split at hv
    . rename_i t p hr;split at hv
      . cases hv;have h1:=hs r (by simp [Op.operands,Call.operands])
        rw [hr] at h1;intro u hu;rcases Array.mem_append.1 hu with hu|hu
        . simp only [List.mem_toArray,List.mem_singleton] at hu;subst hu;intro F' hF;have:=h1 F' hF;simpa using this
        . obtain⟨x,hx,rfl⟩:=Array.mem_map.1 hu;exact hs x (by simp [Op.operands,Call.operands,hx])
      . cases hv
    . cases hv
  . cases hv
theorem zoP {o:Oper} {e:Operand->Value} {h h1:AHeap} {S S1:σ} {v:Value} {f:FuncId} {g:Func} {c:Code} {args:Array Value} (hop:∀ x∈o.op.operands,zaN x=true) (hca:zaW P e o.op=some (f,args)) (hf:P.funcs[f]?=some g) (hg:goB g=true) (hbd:g.body=some c)
    (hle:h.next<=h1.next) (hcn:X.cnt S<=X.cnt S1) (hrun:Simul X g (fun x=>x=.done v h1 S1) (.run (zag g c args).1 (zag g c args).2 h S)):zg8 X o e h S v h1 S1:=by
  refine⟨hle,hcn,fun F w0 w M ρ hlim hρ I=>?_⟩;have hst:∀ x∈o.op.operands,Stab (Kn h.next (X.cnt S)) F (e x):=fun x hx=>I.vst _ ⟨x,hx,rfl⟩;have hgo:=hg;unfold goB at hgo;rw [Bool.and_eq_true] at hgo;have hcall:=zd1 (P:=P) (ρ:=ρ) (F:=F) (w:=w) hρ hca hf hgo.1 (by simpa using hgo.2)
  have Ic:AInv X F w (fun b=>(∃ n bb,h.get n=some bb/\bb.ro=false/\F.blk n=b)\/X.fp F S b) (Kn h.next (X.cnt S)) (fun u=>u∈(zag g c args).2) h S w:=by
    refine⟨I.holds,I.rep,fun u hu=>?_,I.hst,I.hk,I.hand,I.klim,Kept.refl _ _,fun n b hb hro _=>.inl ⟨n,b,hb,hro,rfl⟩,fun b hb _=>.inr hb,I.sep⟩;simp only [zag,List.mem_append] at hu;rcases hu with hu|hu
    . exact zfy hst hca u (by simpa using hu)
    . rw [List.eq_of_mem_replicate hu];exact Stab.undef
  have hcalls:TCalls P f (args.map (ren F)) w fun e w'=>∃ u,e=.returned u/\∃ F',u=ren F' v/\AInv X F' w (fun b=>(∃ n bb,h.get n=some bb/\bb.ro=false/\F.blk n=b)\/X.fp F S b) (Kn h1.next (X.cnt S1)) (fun u=>u∈[v]) h1 S1 w'/\Same (Kn h.next (X.cnt S)) F F':=by
    intro cs
    let b:Frame:={ (default:Frame) with fn:=f,kind:=.normal }
    have henter:Frame.enter P f (args.map (ren F)) .normal=b.at (actF F (zag g c args).2) (zag g c args).1:=by
      simp [Frame.enter,Frame.at,hf,hbd,b,actF,zag,zaS]
    obtain⟨c',F',w',m',hA,hst,hS,hI,hs,hcn,hnx⟩:=hrun b cs F w w _ _ hf rfl rfl ⟨Ic,hlim⟩;subst hA;obtain⟨fr,rfl,hfn,hleave⟩:=hS;exact⟨.returned (ren F' v),w',fr,⟨_,rfl,F',rfl,hI.1,hs⟩,by rw [henter];exact hst,hfn,hleave⟩
  have hM:∀ b,b<w0.heap.size->((∃ n bb,h.get n=some bb/\bb.ro=false/\F.blk n=b)\/X.fp F S b)->M b:=fun b hb hm=>by
    rcases hm with ⟨n,bb,k1,k2,rfl⟩|hm
    . exact I.own n bb k1 k2 hb
    . exact I.fown b hm hb
  refine OpWp.mono ⟨zb8 (zdl hρ hca hf hgo.1 (by simpa using hgo.2)),.inr ⟨f,_,w,hcall,hcalls⟩⟩ fun u w' hu=>?_
  obtain⟨F',rfl,J,hs⟩:=hu;refine⟨F',rfl,hs,?_⟩;rw [zrA hle hcn];exact⟨J.holds,J.rep,fun u hu=>J.vst u (by rw [hu];simp),J.hst,J.hk,J.hand,J.klim,I.kept.trans J.kept hM,fun n b hb hro hlt=>hM _ hlt (J.own n b hb hro (Nat.lt_of_lt_of_le hlt I.kept.size)),fun b hb hlt=>hM b hlt (J.fown b hb (Nat.lt_of_lt_of_le hlt I.kept.size)),J.sep⟩
theorem zmm {fn:Func} {ops:Array Oper} {i:Nat} {rest:List Nat} {k:List Item} {tmps:List Value} {h h1:AHeap} {S S1:σ} {o:Oper} {v:Value} {f:FuncId} {g:Func} {c:Code} {args:Array Value} (ho:ops[i]?=some o) (hw:Region.wanted o (zaj ops tmps)=true) (hb':o.op.operands.all zaN=true) (hca:zaW P (evA tmps) o.op=some (f,args)) (hf:P.funcs[f]?=some g) (hg:goB g=true) (hbd:g.body=some c)
    (hrun:Simul X g (fun x=>x=.done v h1 S1) (.run (zag g c args).1 (zag g c args).2 h S))
    (b:Frame) (cs:List Frame) (F:Emb) (w0 w:World) (M:Nat->Prop) (m:Goroutine) (_:P.funcs[b.fn]?=some fn) (hkd:b.kind=.normal) (hS:zc5 P F b cs (.run (.inRegion ops (i::rest)::k) tmps h S) w m) (hI:InvC X F w0 M (.run (.inRegion ops (i::rest)::k) tmps h S) w) :
    ∃ F' w' m',XSt P m w m' w'/\zc5 P F' b cs (.run (.inRegion ops rest::k) (putL o.dst v tmps) h1 S1) w' m'/\InvC X F' w0 M (.run (.inRegion ops rest::k) (putL o.dst v tmps) h1 S1) w'/\Same (Kn h.next (X.cnt S)) F F'/\X.cnt S<=X.cnt S1/\h.next<=h1.next:=by
  subst hS;obtain⟨I,hlim⟩:=hI;have I:AInv X F w0 M (Kn h.next (X.cnt S)) (fun v=>v∈tmps) h S w:=I;have hlim:h.next<=VB:=hlim;have hop:∀ x∈o.op.operands,zaN x=true:=fun x hx=>by simpa using (Array.all_eq_true_iff_forall_mem.1 hb') x hx
  have hst:∀ x∈o.op.operands,Stab (Kn h.next (X.cnt S)) F (evA tmps x):=fun x hx=>zfw I.vst x (hop x hx);have hgo:=hg;unfold goB at hgo;rw [Bool.and_eq_true] at hgo;have hcall:=zd1 (P:=P) (ρ:=(actF F tmps).eval) (F:=F) (w:=w) (fun x hx=>zbU F tmps x (hop x hx)) hca hf hgo.1 (by simpa using hgo.2)
  have Ic:AInv X F w (fun b=>(∃ n bb,h.get n=some bb/\bb.ro=false/\F.blk n=b)\/X.fp F S b) (Kn h.next (X.cnt S)) (fun u=>u∈(zag g c args).2) h S w:=by
    refine⟨I.holds,I.rep,fun u hu=>?_,I.hst,I.hk,I.hand,I.klim,Kept.refl _ _,fun n b hb hro _=>.inl ⟨n,b,hb,hro,rfl⟩,fun b hb _=>.inr hb,I.sep⟩;simp only [zag,List.mem_append] at hu;rcases hu with hu|hu
    . exact zfy hst hca u (by simpa using hu)
    . rw [List.eq_of_mem_replicate hu];exact Stab.undef
  have hcalls:TCalls P f (args.map (ren F)) w fun e w'=>∃ u,e=.returned u/\∃ F',u=ren F' v/\AInv X F' w (fun b=>(∃ n bb,h.get n=some bb/\bb.ro=false/\F.blk n=b)\/X.fp F S b) (Kn h1.next (X.cnt S1)) (fun u=>u∈[v]) h1 S1 w'/\Same (Kn h.next (X.cnt S)) F F'/\X.cnt S<=X.cnt S1/\h.next<=h1.next/\h1.next<=VB:=by
    intro cs
    let b:Frame:={ (default:Frame) with fn:=f,kind:=.normal }
    have henter:Frame.enter P f (args.map (ren F)) .normal=b.at (actF F (zag g c args).2) (zag g c args).1:=by
      simp [Frame.enter,Frame.at,hf,hbd,b,actF,zag,zaS]
    obtain⟨c',F',w',m',hA,hst,hS,hI,hs,hcn,hnx⟩:=hrun b cs F w w _ _ hf rfl rfl ⟨Ic,hlim⟩;subst hA;obtain⟨fr,rfl,hfn,hleave⟩:=hS;exact⟨.returned (ren F' v),w',fr,⟨_,rfl,F',rfl,hI.1,hs,hcn,hnx,hI.2⟩,by rw [henter];exact hst,hfn,hleave⟩
  obtain⟨u,w',⟨F',rfl,J,hs,hcn,hnx,hl1⟩,hst2⟩:=OpWp.steps (b:=b) (rest:=rest) (k:=k) (cs:=cs) (a:=actF F tmps) (w:=w) hkd ho (by rw [zc0];exact hw) ⟨zb8 (zdl (F:=F) (fun x hx=>zbU F tmps x (hop x hx)) hca hf hgo.1 (by simpa using hgo.2)),.inr ⟨f,_,w,hcall,hcalls⟩⟩
  rw [<-zbo I.vst hs,zcI,zbo I.vst hs] at hst2;have hKK:∀ x,Kn h.next (X.cnt S) x->Kn h1.next (X.cnt S1) x:=fun x hx=>by
    rcases hx with hx|hx
    . exact .inl (by omega)
    . exact .inr ⟨hx.1,by omega⟩
  have hM:∀ b,b<w0.heap.size->((∃ n bb,h.get n=some bb/\bb.ro=false/\F.blk n=b)\/X.fp F S b)->M b:=fun b hb hm=>by
    rcases hm with ⟨n,bb,k1,k2,rfl⟩|hm
    . exact I.own n bb k1 k2 hb
    . exact I.fown b hm hb
  refine⟨F',w',_,hst2,rfl,⟨⟨J.holds,J.rep,zb9 (fun u hu=>(I.vst u hu).move hs hKK) (J.vst v (by simp)) o.dst,J.hst,J.hk,J.hand,J.klim,I.kept.trans J.kept hM,fun n b hb hro hlt=>hM _ hlt (J.own n b hb hro (Nat.lt_of_lt_of_le hlt I.kept.size)),fun b hb hlt=>hM b hlt (J.fown b hb (Nat.lt_of_lt_of_le hlt I.kept.size)),J.sep⟩,hl1⟩,hs,hcn,hnx⟩
theorem Goes.simul {fn:Func} {A:Conf σ->Prop} {c:Conf σ} (G:Goes X fn A c):Simul X fn A c:=by
  induction G with
  | here h=>exact fun b cs F w0 w M m hb hkd hS hI=>⟨_,F,w,m,h,.refl,hS,hI,.refl _ _,Nat.le_refl _,Nat.le_refl _⟩
  | ctl hc hk ih =>
    refine ih.step fun b cs F w0 w M m hb hkd hS hI=>?_;subst hS;exact⟨F,w,_,.one (zpd F hc b cs w),rfl,hI,.refl _ _,Nat.le_refl _,Nat.le_refl _⟩
  | @ret fn A todo tmps h S v ht hv hk ih =>
    refine ih.step fun b cs F w0 w M m hb hkd hS hI=>?_;subst hS;obtain⟨I,hlim⟩:=hI;have I:AInv X F w0 M (Kn h.next (X.cnt S)) (fun v=>v∈tmps) h S w:=I;have hres:=zk9 I.holds hv;have hstab:Stab (Kn h.next (X.cnt S)) F v:=by
      intro F' hs;have h2:=zk9 (I.holds.same (fun n b hb=>(I.hk n b hb).1) I.hst hs) hv;rw [zbo I.vst hs,hres] at h2;simpa using h2.symm
    have hI2:InvC X F w0 M (.done v h S) w:=⟨I.vals' (fun u hu=>by rw [List.mem_singleton.1 hu];exact hstab),hlim⟩
    have hlv:∀ todo,zc5 P F b cs (.done v h S) w (G { b.at (actF F tmps) todo with mode:=.returning } cs) :=
      fun todo=>⟨_,rfl,rfl,rfl,rfl,hkd,fn,hb,hres⟩
    unfold retB at ht;split at ht
    . exact⟨F,w,_,.one (zcj rfl (fun _ _=>stepG_end) w),hlv _,hI2,.refl _ _,Nat.le_refl _,Nat.le_refl _⟩
    . exact⟨F,w,_,.one (zcj rfl (fun _ _=>stepG_ret') w),hlv _,hI2,.refl _ _,Nat.le_refl _,Nat.le_refl _⟩
    . cases ht
  | @skip fn A ops i rest k tmps h S o ho hw hk ih =>
    refine ih.step fun b cs F w0 w M m hb hkd hS hI=>?_;subst hS;obtain⟨I,hlim⟩:=hI;have I:AInv X F w0 M (Kn h.next (X.cnt S)) (fun v=>v∈tmps) h S w:=I;have hst:=zgo (P:=P) (b:=b) (a:=actF F tmps) (k:=k) (cs:=cs) (ops:=ops) (i:=i) (rest:=rest) ho (by rw [zc0];exact hw) w
    rw [zlX] at hst;exact⟨F,w,_,.one hst,rfl,⟨I.vals' (zb9 I.vst Stab.undef o.dst),hlim⟩,.refl _ _,Nat.le_refl _,Nat.le_refl _⟩
  | op ho hw hb' hop hl hk ih =>
    exact ih.step (zm9 ho hw hb' hl (zgI hop))
  | call f g c zs E Q hc h1 ex v0 ho hw hb' hok hl hrun0 hk ihc ih =>
    exact ih.step (zm9 ho hw hb' hl (zgi hok hrun0.cnt ihc))
  | callD f g c args v h1 S1 ho hw hb' hca hf hg hbd hrun hk ihc ih =>
    exact ih.step (zmm ho hw hb' hca hf hg hbd ihc)
  | @draw fn A id ops k tmps h S W rec hB h0 hf hstill hgood hcalls hcallsD hk ihc ihd ih =>
    obtain⟨rfl,rfl,rfl,hb0⟩:=h0;refine ih.step fun b cs F w0 w M m hb hkd hS hI=>?_;subst hS;refine znN hB hstill hgood hb0 (fun i wr f g c zs E Q hc h1 ex v0 hi hk=>⟨(hcalls i wr f g c zs E Q hc h1 ex v0 hi hk).cnt,ihc i wr f g c zs E Q hc h1 ex v0 hi hk⟩) (fun i f g c args o ho hk=>?_) b cs hkd F w0 w M hI.1 hI.2;have hi:=(Array.getElem?_eq_some_iff.1 ho).1;have hg:=(hgood i o ho).2;rw [hk] at hg;obtain⟨_,_,g3,_,_,_,g7,_,g9,g10,g11,g12⟩:=hg;exact zoP (fun x hx=>by simpa using (Array.all_eq_true_iff_forall_mem.1 g3) x hx) g9 g10 g11 g12 g7 (hcallsD i f g c args hi hk).cnt (ihd i f g c args hi hk)
  | @raise fn A todo tmps h h0 S hg hn hl hk ih =>
    refine ih.step fun b cs F w0 w M m hb hkd hS hI=>?_;subst hS;obtain⟨I,hlim⟩:=hI;have I:AInv X F w0 M (Kn h.next (X.cnt S)) (fun v=>v∈tmps) h S w:=I;have hlim:h.next<=VB:=hlim;have I2:=I.kmono (K':=Kn h0.next (X.cnt S)) (fun x hx=>by
      rcases hx with hx|hx
      . exact .inl (by omega)
      . exact .inr hx) (fun x hx=>by
      rcases hx with hx|hx
      . omega
      . exact hx.2)
    have J:AInv X F w0 M (Kn h0.next (X.cnt S)) (fun v=>v∈tmps) h0 S w:=by
      obtain⟨g,n⟩:=h;obtain⟨g0,n0⟩:=h0;obtain rfl:g0=g:=hg;exact⟨⟨I2.holds.row,I2.holds.apart⟩,I2.rep,I2.vst,I2.hst,I2.hk,I2.hand,I2.klim,I2.kept,I2.own,I2.fown,I2.sep⟩
    exact⟨F,w,_,.refl,rfl,⟨J,hl⟩,.refl _ _,Nat.le_refl _,hn⟩
  | @weak fn A todo tmps h h0 S hs hn hk ih =>
    refine ih.step fun b cs F w0 w M m hb hkd hS hI=>?_;subst hS;obtain⟨I,hlim⟩:=hI;have I:AInv X F w0 M (Kn h.next (X.cnt S)) (fun v=>v∈tmps) h S w:=I;have hlim:h.next<=VB:=hlim;have J:AInv X F w0 M (Kn h0.next (X.cnt S)) (fun v=>v∈tmps) h0 S w:=by
      rw [hn];refine⟨⟨fun n b hb=>?_,fun n m b c hb hc hne hro=>?_⟩,I.rep,I.vst,fun n b hb v hv=>?_,fun n b hb=>?_,I.hand,I.klim,I.kept,fun n b hb hro hlt=>?_,I.fown,fun n b hb=>?_⟩
      . obtain⟨b',k1,k2,k3,k4,k5⟩:=hs n b hb;obtain⟨pre,post,fr,g1,g2,g3,g4,g5⟩:=I.holds.row n b' k1;rw [k2,k3] at g1;refine⟨pre,post,fr,g1,g2,fun h=>g3 (k4 h),fun h=>g4 ?_,fun s h=>g5 s ?_⟩
        . rcases k5 with k5|k5
          . rw [<-k5];exact h
          . rw [h] at k5;cases k5
        . rcases k5 with k5|k5
          . rw [<-k5];exact h
          . rw [h] at k5;cases k5
      . obtain⟨b',k1,_,_,k4,_⟩:=hs n b hb;obtain⟨c',k1',_⟩:=hs m c hc;exact I.holds.apart n m b' c' k1 k1' hne (k4 hro)
      . obtain⟨b',k1,k2,_⟩:=hs n b hb;exact I.hst n b' k1 v (by rw [k2];exact hv)
      . obtain⟨b',k1,_⟩:=hs n b hb;exact I.hk n b' k1
      . obtain⟨b',k1,_,_,k4,_⟩:=hs n b hb;exact I.own n b' k1 (k4 hro) hlt
      . obtain⟨b',k1,_⟩:=hs n b hb;exact I.sep n b' k1
    exact⟨F,w,_,.refl,rfl,⟨J,by show h0.next<=VB;omega⟩,.refl _ _,Nat.le_refl _,Nat.le_of_eq hn.symm⟩
end
end Go.Proofs.Ytgndgbnhkoppmaa
namespace Go.Proofs.Ytgndgbnhkoppmaa
open Go Go.RowKit
def zar (l:List (Option Blk)):AHeap:=⟨fun n=>(l[n]?).join,l.length⟩
theorem zlu (l:List (Option Blk)) (b:Option Blk):(zar l).addO b=zar (l++[b]):=by
  unfold zar AHeap.addO;simp only [List.length_append,List.length_singleton];congr 1;funext n;split
  . rename_i h;subst h;simp
  . rename_i h;by_cases hn:n<l.length
    . rw [List.getElem?_append_left hn]
    . rw [List.getElem?_eq_none (by omega),List.getElem?_eq_none (by simp;omega)]
theorem zhD (l:List (Option Blk)) (n:Nat) (b:Option Blk) (h:n<l.length):(zar l).putO n b=zar (l.set n b):=by
  unfold zar AHeap.putO;simp only [List.length_set];congr 1;funext m;rw [List.getElem?_set];by_cases hm:m=n
  . subst hm;simp [h]
  . rw [if_neg hm,if_neg (Ne.symm hm)]
theorem zgh (h:AHeap) (n:Nat) (b:Blk):h.put n b=h.putO n (some b):=rfl
theorem zoy (l:List (Option Blk)) (n:Nat) (b:Blk) (h:n<l.length):(zar l).put n b=zar (l.set n (some b)):=by
  rw [zgh,zhD l n _ h]
theorem zaJ (l:List (Option Blk)) (n:Nat):(zar l).get n=(l[n]?).join:=rfl
theorem zaa (l:List (Option Blk)):(zar l).next=l.length:=rfl
theorem ziS {l:List (Option Blk)} (h:decide (l.length<1000000)=true):(zar l).next<VB:=by
  have:=of_decide_eq_true h;unfold zar VB;simp only;omega
def AHeap.Low (h:AHeap):Prop:=∀ n b,h.get n=some b->n<h.next
theorem zbu (l:List (Option Blk)):(zar l).Low:=by
  intro n b hb;rw [zaJ] at hb;rw [zaa];rcases Nat.lt_or_ge n l.length with h|h
  . exact h
  . rw [List.getElem?_eq_none h] at hb;cases hb
theorem zdN:∀ v:Value,ren (zc1 id) v=v
  | .pointer (some a)=>by simp [adr,zc1]
  | .pointer none=>by simp
  | .slice (some a) n c=>by simp [adr,zc1]
  | .slice none n c=>by simp
  | .iface t v=>by simp [zdN v]
  | .agg cs=>by
    simp only [zco];congr 1;exact (Array.map_congr_left fun x hx=>zdN x).trans (by simp)
  | .tuple cs=>by
    simp only [zcQ];congr 1;exact (Array.map_congr_left fun x hx=>zdN x).trans (by simp)
  | .func fn xs ys=>by
    simp only [zbx];congr 1
    . exact (Array.map_congr_left fun x hx=>zdN x).trans (by simp)
    . exact (Array.map_congr_left fun x hx=>zdN x).trans (by simp)
  | .bool b=>by simp
  | .int k n=>by simp
  | .float k n=>by simp [ren]
  | .complex k n m=>by simp [ren]
  | .string s=>by simp
  | .map r=>by simp [ren]
  | .chan r=>by simp [ren]
  | .nilFunc=>by simp
  | .nilIface=>by simp
termination_by v=>SizeOf.sizeOf v
decreasing_by all_goals (simp_wf;first|omega|(have:=Array.sizeOf_lt_of_mem hx;omega))
section
variable {P:Program} {σ:Type} {X:Face P σ}
def idE:Emb:=zc1 id
def Does (X:Face P σ) (f:FuncId) (args:Array Value) (l:List Blk) (S:σ) (v:Value) (S':σ):Prop :=
  ∃ g c h1,P.funcs[f]?=some g/\goB g=true/\g.body=some c/\(∀ u∈args.toList,Clo (Kn l.length (X.cnt S)) u)/\Hand (X.cnt S') v /\
    Goes X g (fun x=>x=.done v h1 S') (.run (zag g c args).1 (zag g c args).2 (zar (l.map some)) S)
theorem map_id (args:Array Value):args=args.map (ren idE):=by
  conv=>lhs;rw [<-Array.map_id args]
  exact Array.map_congr_left fun x _=>(zdN x).symm
theorem zjC {o:Oper} {e:Operand->Value} {h:AHeap} {S S':σ} {f:FuncId} {g:Func} {c:Code} {args:Array Value} {v:Value} (h1:AHeap) (hca:zaW P e o.op=some (f,args)) (hf:P.funcs[f]?=some g) (hg:goB g=true) (hb:g.body=some c)
    (hclo:∀ u∈args.toList,Clo (Kn 0 (X.cnt S)) u) (hv:Hand (X.cnt S') v):CallOK X o e h S v h S' f g c args idE idE (zar []) h1 [] v:=by
  refine⟨by rw [<-map_id];exact hca,hf,hg,hb,⟨fun n b hb=>by simp [zaJ] at hb,fun n b hb=>by simp [zaJ] at hb,fun n b hb=>by simp [zaJ] at hb,fun n m b c hb=>by simp [zaJ] at hb,by simp [zaa,VB],fun n _=>⟨rfl,rfl,rfl⟩⟩,hclo,
    ⟨rfl,fun n hn=>⟨rfl,rfl,rfl⟩,fun j n hj=>by simp at hj,fun n _=>⟨rfl,rfl,rfl⟩,(zdN v).symm,?_,?_,fun j n hj=>by simp at hj,fun m _=>.inl ⟨rfl,fun n b hb=>by simp [zaJ] at hb⟩,?_,List.nodup_nil⟩⟩
  . exact fun F F' hs=>hv F F' (hs.mono fun n hn=>.inr (.inr hn))
  . rintro n b _ (⟨b0,hb0,_⟩|hn)
    . simp [zaJ] at hb0
    . cases hn
  . rintro n b _ (⟨b0,hb0,_⟩|hn)
    . simp [zaJ] at hb0
    . cases hn
def OpK (K:List Value->AHeap->Prop) (o:Oper) (tmps:List Value) (h:AHeap):Option Value->Prop
  | some v=>K (putL o.dst v tmps) h
  | none=>False
def NewK (K:List Value->AHeap->Prop) (o:Oper) (tmps:List Value) (h:AHeap):Option (Value × Option Blk)->Prop
  | some (v,b)=>K (putL o.dst v tmps) (h.addO b)
  | none=>False
def WrK (K:List Value->AHeap->Prop) (o:Oper) (tmps:List Value):Option (Value × AHeap)->Prop
  | some (v,h')=>K (putL o.dst v tmps) h'
  | none=>False
def zfY (K:List Value->AHeap->Prop) (o:Oper) (tmps:List Value):Option AHeap->Prop
  | some h'=>K (putL o.dst undef tmps) h'
  | none=>False
def zd3 (K:FuncId->Array Value->Prop):Option (FuncId × Array Value)->Prop
  | some (f,args)=>K f args
  | none=>False
def zce (P:Program) (e:Operand->Value) (h:AHeap):Op->Option AHeap
  | .store t x y=>(match e x with|.pointer (some a)=>zdV P h t a (e y)|_=>none)
  | _=>none
theorem zhK {e:Operand->Value} {h h':AHeap} {o:Op} (hs:zce P e h o=some h'):wrA P e h o=some (undef,h'):=by
  unfold zce at hs;split at hs
  . split at hs
    . rename_i a ha;unfold wrA;simp only [ha,hs,Option.map_some]
    . cases hs
  . cases hs
theorem zi0 {e:Operand->Value} {h h':AHeap} {o:Op} {v:Value} (hv:wrA P e h o=some (v,h')):h'.next=h.next\/h'.next=h.next+1:=by
  unfold wrA at hv
  repeat' split at hv
  all_goals first
    | (cases hv;done)
    | (cases hv;exact .inl rfl)
    | (cases hv;exact .inr rfl)
    | (rename_i a _;cases hs:zdV P h _ a _ with
        | none=>rw [hs] at hv;cases hv
        | some h1 =>
          rw [hs] at hv;cases hv;obtain⟨b,s,_,_,_,_,_,_,_,rfl⟩:=zb0 hs;exact .inl rfl)
theorem zf3 {e:Operand->Value} {h h':AHeap} {o:Op} (hs:zce P e h o=some h'):∃ t x y a,o=.store t x y/\e x=.pointer (some a)/\zdV P h t a (e y)=some h':=by
  unfold zce at hs;split at hs
  . rename_i t x y;split at hs
    . rename_i a ha;exact⟨t,x,y,a,rfl,ha,hs⟩
    . cases hs
  . cases hs
variable (X) in
def At (fn:Func) (A:Conf σ->Prop) (ops:Array Oper) (k:List Item) (i:Nat) (tmps:List Value) (h:AHeap) (S:σ):Prop :=
  Goes X fn A (.run (.inRegion ops (List.range' i (ops.size - i))::k) tmps h S)
variable {fn:Func} {A:Conf σ->Prop} {ops:Array Oper} {k:List Item} {i:Nat} {tmps:List Value} {h:AHeap} {S:σ} {o:Oper} {todo:List Item}
theorem Goes.reg {id:Nat} (hk:At X fn A ops k 0 tmps h S):Goes X fn A (.run (.code (.region id ops false)::k) tmps h S):=by
  refine .ctl (todo':=.inRegion ops (List.range ops.size)::k) rfl ?_;rw [List.range_eq_range'];exact hk
theorem zev (ho:ops[i]?=some o):List.range' i (ops.size - i)=i::List.range' (i+1) (ops.size - (i+1)):=by
  have:=(Array.getElem?_eq_some_iff.1 ho).1;rw [show ops.size - i=(ops.size - (i+1))+1 by omega,List.range'_succ]
theorem At.nil (hn:decide (ops.size<=i)=true) (hk:Goes X fn A (.run k tmps h S)):At X fn A ops k i tmps h S:=by
  unfold At;rw [show ops.size - i=0 by have:=of_decide_eq_true hn;omega]
  exact .ctl rfl hk
theorem At.skip (ho:ops[i]?=some o) (hw:Region.wanted o (zaj ops tmps)=false) (hk:At X fn A ops k (i+1) (putL o.dst undef tmps) h S):At X fn A ops k i tmps h S:=by
  unfold At;rw [zev ho];exact .skip ho hw hk
theorem At.op {v:Value} {h':AHeap} {S':σ} (ho:ops[i]?=some o) (hw:Region.wanted o (zaj ops tmps)=true) (hb:o.op.operands.all zaN=true) (hop:Op0 X o (evA tmps) h S v h' S') (hl:h'.next=h.next\/h'.next<=VB)
    (hk:At X fn A ops k (i+1) (putL o.dst v tmps) h' S'):At X fn A ops k i tmps h S:=by
  unfold At;rw [zev ho];exact .op ho hw hb hop hl hk
theorem At.val (ho:ops[i]?=some o) (hw:Region.wanted o (zaj ops tmps)=true) (hb:o.op.operands.all zaN=true)
    (hk:∀ K:List Value->AHeap->Prop,(∀ t h,At X fn A ops k (i+1) t h S->K t h)->OpK K o tmps h (valA P (evA tmps) h o.op)):At X fn A ops k i tmps h S:=by
  have:=hk _ (fun _ _ h=>h);cases hv:valA P (evA tmps) h o.op with
  | none=>rw [hv] at this;exact this.elim
  | some v=>rw [hv] at this;exact .op ho hw hb (.inl ⟨hv,rfl,rfl⟩) (.inl rfl) this
theorem At.new (ho:ops[i]?=some o) (hw:Region.wanted o (zaj ops tmps)=true) (hb:o.op.operands.all zaN=true) (hl:h.next<VB)
    (hk:∀ K:List Value->AHeap->Prop,(∀ t h,At X fn A ops k (i+1) t h S->K t h)->NewK K o tmps h (newA P (evA tmps) h h.next o.op)):At X fn A ops k i tmps h S:=by
  have:=hk _ (fun _ _ h=>h);cases hv:newA P (evA tmps) h h.next o.op with
  | none=>rw [hv] at this;exact this.elim
  | some v =>
    obtain⟨v,ob⟩:=v;rw [hv] at this;exact .op ho hw hb (.inr (.inl ⟨ob,hv,rfl,rfl⟩)) (.inr hl) this
theorem At.wr (ho:ops[i]?=some o) (hw:Region.wanted o (zaj ops tmps)=true) (hb:o.op.operands.all zaN=true) (hl:h.next<VB)
    (hk:∀ K:List Value->AHeap->Prop,(∀ t h,At X fn A ops k (i+1) t h S->K t h)->WrK K o tmps (wrA P (evA tmps) h o.op)):At X fn A ops k i tmps h S:=by
  have:=hk _ (fun _ _ h=>h);cases hv:wrA P (evA tmps) h o.op with
  | none=>rw [hv] at this;exact this.elim
  | some v =>
    obtain⟨v,h'⟩:=v;rw [hv] at this;exact .op ho hw hb (.inr (.inr (.inl ⟨hv,rfl⟩))) (by rcases zi0 hv with h|h<;>omega) this
theorem At.store (ho:ops[i]?=some o) (hw:Region.wanted o (zaj ops tmps)=true) (hb:o.op.operands.all zaN=true)
    (hk:∀ K:List Value->AHeap->Prop,(∀ t h,At X fn A ops k (i+1) t h S->K t h)->zfY K o tmps (zce P (evA tmps) h o.op)):At X fn A ops k i tmps h S:=by
  have:=hk _ (fun _ _ h=>h);cases hv:zce P (evA tmps) h o.op with
  | none=>rw [hv] at this;exact this.elim
  | some h' =>
    rw [hv] at this;obtain⟨t,x,y,a,h1,h2,h3⟩:=zf3 hv;obtain⟨b,s,_,_,_,_,_,_,_,rfl⟩:=zb0 h3;exact .op ho hw hb (.inr (.inr (.inl ⟨zhK hv,rfl⟩))) (.inl rfl) this
theorem At.prim {g:Func} (ho:ops[i]?=some o) (hw:Region.wanted o (zaj ops tmps)=true) (hb:o.op.operands.all zaN=true)
    (hk:zd3 (fun f args=>P.funcs[f]?=some g/\goB g=true/\∃ v S',X.prim f args S v S'/\At X fn A ops k (i+1) (putL o.dst v tmps) h S') (zaW P (evA tmps) o.op)):At X fn A ops k i tmps h S:=by
  cases hv:zaW P (evA tmps) o.op with
  | none=>rw [hv] at hk;exact hk.elim
  | some x =>
    obtain⟨f,args⟩:=x;rw [hv] at hk;obtain⟨h1,h2,v,S',h3,h4⟩:=hk;exact .op ho hw hb (.inr (.inr (.inr ⟨f,g,args,hv,h1,h2,h3,rfl⟩))) (.inl rfl) h4
theorem At.call (ho:ops[i]?=some o) (hw:Region.wanted o (zaj ops tmps)=true) (hb:o.op.operands.all zaN=true)
    (hk:zd3 (fun f args=>∃ v S',Does X f args [] S v S'/\At X fn A ops k (i+1) (putL o.dst v tmps) h S') (zaW P (evA tmps) o.op)):At X fn A ops k i tmps h S:=by
  unfold At;rw [zev ho];cases hv:zaW P (evA tmps) o.op with
  | none=>rw [hv] at hk;exact hk.elim
  | some x =>
    obtain⟨f,args⟩:=x;rw [hv] at hk;obtain⟨v,S',⟨g,c,h1,d1,d2,d3,d4,d5,d6⟩,h4⟩:=hk;exact .call f g c args idE idE (zar []) h1 [] v ho hw hb (zjC h1 hv d1 d2 d3 d4 d5) (.inl rfl) d6 h4
inductive RGF (X:Face P σ) (W:List Nat) (ops:Array Oper) (n0:Nat) (hf:AHeap) (K:List Value->AHeap->σ->Prop):Nat->List Value->AHeap->σ->List (Nat × Nat)->Prop
  | nil' {i tmps h S born} (hn:ops.size=i) (hk:K tmps h S):RGF X W ops n0 hf K i tmps h S born
  | skip' {i tmps h S born o} (ho:ops[i]?=some o) (hw:Region.wanted o (zaj ops tmps)=false) (hk:RGF X W ops n0 hf K (i+1) (putL o.dst undef tmps) h S born):RGF X W ops n0 hf K i tmps h S born
  | far' {i tmps h S born o v} (ho:ops[i]?=some o) (hw:Region.wanted o (zaj ops tmps)=true) (hb:o.op.operands.all zaN=true) (hq:wrB W i o=false) (hfar:farB W i=true) (hv:valA P (evA tmps) hf o.op=some v)
      (hk:RGF X W ops n0 hf K (i+1) (putL o.dst v tmps) h S born):RGF X W ops n0 hf K i tmps h S born
  | op' {i tmps h S born o v h' S'} (wr:Bool) (hnf:farB W i=false) (ho:ops[i]?=some o) (hw:Region.wanted o (zaj ops tmps)=true) (hb:o.op.operands.all zaN=true) (hl:h'.next=h.next\/h'.next<=VB)
      (hop:if wr then wrB W i o=true/\Op0 X o (evA tmps) h S v h' S' else wrB W i o=false/\∃ hv,Op0 X o (evA tmps) (visH n0 born ((zas ops.toList []).getD i 0) h) S v hv S'/\h'=zdC h hv)
      (hst:∀ n b,hf.get n=some b->n<n0->n0<=h.next->h'.get n=h.get n)
      (hk:RGF X W ops n0 hf K (i+1) (putL o.dst v tmps) h' S' (zex i h.next h'.next++born)):RGF X W ops n0 hf K i tmps h S born
  | call' {i tmps h S born o v h' S'} (wr:Bool) (f:FuncId) (g:Func) (c:Code) (zs:Array Value) (E Q:Emb) (hc h1:AHeap) (ex:List Nat) (v0:Value) (hnf:farB W i=false) (ho:ops[i]?=some o) (hw:Region.wanted o (zaj ops tmps)=true) (hb:o.op.operands.all zaN=true) (hl:h'.next=h.next\/h'.next<=VB)
      (hok:if wr then wrB W i o=true/\CallOK X o (evA tmps) h S v h' S' f g c zs E Q hc h1 ex v0 else wrB W i o=false/\∃ hv,CallOK X o (evA tmps) (visH n0 born ((zas ops.toList []).getD i 0) h) S v hv S' f g c zs E Q hc h1 ex v0/\h'=zdC h hv)
      (hrun:Goes X g (fun x=>x=.done v0 h1 S') (.run (zag g c zs).1 (zag g c zs).2 hc S))
      (hst:∀ n b,hf.get n=some b->n<n0->n0<=h.next->h'.get n=h.get n)
      (hk:RGF X W ops n0 hf K (i+1) (putL o.dst v tmps) h' S' (zex i h.next h'.next++born)):RGF X W ops n0 hf K i tmps h S born
  | callD' {i tmps h S born o v h1 S1} (f:FuncId) (g:Func) (c:Code) (args:Array Value) (hnf:farB W i=false) (ho:ops[i]?=some o) (hw:Region.wanted o (zaj ops tmps)=true) (hb:o.op.operands.all zaN=true) (hl:h1.next=h.next\/h1.next<=VB) (hq:wrB W i o=true) (hle:h.next<=h1.next) (hlow:∀ n b,h1.get n=some b->n<h1.next)
      (hca:zaW P (evA tmps) o.op=some (f,args)) (hfn:P.funcs[f]?=some g) (hg:goB g=true) (hbd:g.body=some c) (hrun:Goes X g (fun x=>x=.done v h1 S1) (.run (zag g c args).1 (zag g c args).2 h S))
      (hst:i<farU W ops.size->∀ n b,hf.get n=some b->n<n0->n0<=h.next->h1.get n=h.get n)
      (hk:RGF X W ops n0 hf K (i+1) (putL o.dst v tmps) h1 S1 (zex i h.next h1.next++born)):RGF X W ops n0 hf K i tmps h S born
  | opU' {i tmps h S born o v h' S'} (hnf:farB W i=false) (ho:ops[i]?=some o) (hw:Region.wanted o (zaj ops tmps)=true) (hb:o.op.operands.all zaN=true) (hl:h'.next=h.next\/h'.next<=VB)
      (hop:wrB W i o=true/\Op0 X o (evA tmps) h S v h' S') (hst:i<farU W ops.size->∀ n b,hf.get n=some b->n<n0->n0<=h.next->h'.get n=h.get n)
      (hk:RGF X W ops n0 hf K (i+1) (putL o.dst v tmps) h' S' (zex i h.next h'.next++born)):RGF X W ops n0 hf K i tmps h S born
def zq7 (X:Face P σ) (W:List Nat) (ops:Array Oper) (n0:Nat) (hf:AHeap) (i:Nat) (rec:Nat->DRec σ):Prop :=
  (∀ j o,i<=j->ops[j]?=some o->GoodK X W ops n0 hf j o (rec j) (rec (j+1))) /\
  (∀ j wr f g c zs E Q hc h1 ex v0,i<=j->j<ops.size->(rec j).kind=.call wr f g c zs E Q hc h1 ex v0->Goes X g (fun x=>x=.done v0 h1 (rec (j+1)).S) (.run (zag g c zs).1 (zag g c zs).2 hc (rec j).S)) /\
  (∀ j,i<=j->j<=ops.size->j<=farU W ops.size->∀ n b,hf.get n=some b->n<n0->n0<=(rec i).h.next->n0<=(rec j).h.next/\(rec j).h.get n=(rec i).h.get n) /\
  (∀ j f g c args,i<=j->j<ops.size->(rec j).kind=.callD f g c args->Goes X g (fun x=>x=.done (rec j).v (rec (j+1)).h (rec (j+1)).S) (.run (zag g c args).1 (zag g c args).2 (rec j).h (rec j).S))
theorem zh9 {o:Oper} {e:Operand->Value} {h h':AHeap} {S S':σ} {v:Value} (H:Op0 X o e h S v h' S'):h.next<=h'.next:=(zeb H).1
theorem RGF.recs {W:List Nat} {n0:Nat} {hf:AHeap} {K:List Value->AHeap->σ->Prop} {i:Nat} {tmps:List Value} {h:AHeap} {S:σ} {born:List (Nat × Nat)} (R:RGF X W ops n0 hf K i tmps h S born) :
    ∃ rec:Nat->DRec σ,(rec i).tmps=tmps/\(rec i).h=h/\(rec i).S=S/\(rec i).born=born/\zq7 X W ops n0 hf i rec/\K (rec ops.size).tmps (rec ops.size).h (rec ops.size).S:=by
  have ext:∀ {i:Nat} {tmps:List Value} {h:AHeap} {S:σ} {born:List (Nat × Nat)} {o:Oper} {h':AHeap} {S':σ} {born':List (Nat × Nat)} (v:Value) (kd:Kind),ops[i]?=some o ->
      (∃ rec:Nat->DRec σ,(rec (i+1)).tmps=putL o.dst v tmps/\(rec (i+1)).h=h'/\(rec (i+1)).S=S'/\(rec (i+1)).born=born'/\zq7 X W ops n0 hf (i+1) rec/\K (rec ops.size).tmps (rec ops.size).h (rec ops.size).S) ->
      (∀ q:DRec σ,q.tmps=putL o.dst v tmps->q.h=h'->q.S=S'->q.born=born'->GoodK X W ops n0 hf i o ⟨tmps,h,S,v,born,kd⟩ q)->(∀ wr f g c zs E Q hc h1 ex v0,kd=.call wr f g c zs E Q hc h1 ex v0->Goes X g (fun x=>x=.done v0 h1 S') (.run (zag g c zs).1 (zag g c zs).2 hc S)) ->
      (∀ f g c args,kd=.callD f g c args->Goes X g (fun x=>x=.done v h' S') (.run (zag g c args).1 (zag g c args).2 h S)) ->
      (h.next<=h'.next/\(i<farU W ops.size->∀ n b,hf.get n=some b->n<n0->n0<=h.next->h'.get n=h.get n)) ->
      ∃ rec:Nat->DRec σ,(rec i).tmps=tmps/\(rec i).h=h/\(rec i).S=S/\(rec i).born=born/\zq7 X W ops n0 hf i rec/\K (rec ops.size).tmps (rec ops.size).h (rec ops.size).S:=by
    intro i tmps h S born o h' S' born' v kd ho ⟨rec,k1,k2,k3,k4,⟨k5,k6,k8,k9⟩,k7⟩ hq hcl hcd hst;have hlt:=(Array.getElem?_eq_some_iff.1 ho).1;refine⟨fun j=>if j=i then ⟨tmps,h,S,v,born,kd⟩ else rec j,by simp,by simp,by simp,by simp,⟨?_,?_,?_,?_⟩,?_⟩
    . intro j oj hj hoj;by_cases hji:j=i
      . subst hji;rw [ho] at hoj;cases hoj;have:¬ j+1=j:=by omega
        simp only [if_true,this,if_false];exact hq _ k1 k2 k3 k4
      . have:¬ j+1=i:=by omega
        simp only [hji,this,if_false];exact k5 j oj (by omega) hoj
    . intro j wr f g c zs E Q hc h1 ex v0 hj hjl hk;by_cases hji:j=i
      . subst hji;have h2:¬ j+1=j:=by omega
        simp only [if_true,h2,if_false] at hk ⊢;rw [k3];exact hcl wr f g c zs E Q hc h1 ex v0 hk
      . have h2:¬ j+1=i:=by omega
        simp only [hji,h2,if_false] at hk ⊢;exact k6 j wr f g c zs E Q hc h1 ex v0 (by omega) hjl hk
    . intro j hj hjl hju n b hb hn hnx;simp only [if_true] at hnx ⊢;by_cases hji:j=i
      . subst hji;exact⟨by simpa using hnx,by simp⟩
      . simp only [hji,if_false];have e1:=hst.2 (by omega) n b hb hn hnx
        obtain⟨q1,q2⟩:=k8 j (by omega) hjl hju n b hb hn (by rw [k2];have:=hst.1;omega)
        exact⟨q1,by rw [q2,k2,e1]⟩
    . intro j f g c args hj hjl hk;by_cases hji:j=i
      . subst hji;have h2:¬ j+1=j:=by omega
        simp only [if_true,h2,if_false] at hk ⊢;rw [k2,k3];exact hcd f g c args hk
      . have h2:¬ j+1=i:=by omega
        simp only [hji,h2,if_false] at hk ⊢;exact k9 j f g c args (by omega) hjl hk
    . have:¬ ops.size=i:=by omega
      simp only [this,if_false];exact k7
  induction R with
  | @nil' i tmps h S born hn hk =>
    refine⟨fun _=>⟨tmps,h,S,undef,born,.skip⟩,rfl,rfl,rfl,rfl,⟨fun j o hj hoj=>?_,fun j wr f g c zs E Q hc h1 ex v0 _ _ hk'=>(by cases hk'),fun j _ _ _ n b _ _ h=>⟨h,rfl⟩,fun j f g c args _ _ hk'=>(by cases hk')⟩,hk⟩
    have:=(Array.getElem?_eq_some_iff.1 hoj).1;omega
  | skip' ho hw hk ih=>exact ext undef .skip ho ih (fun q h1 h2 h3 h4=>⟨h1,hw,rfl,h2,h3,h4⟩) (fun wr f g c zs E Q hc h1 ex v0 hk'=>by cases hk') (fun f g c args hk'=>by cases hk') ⟨Nat.le_refl _,fun _ _ _ _ _ _=>rfl⟩
  | @far' i tmps h S born o v ho hw hb hq hfar hv hk ih=>exact ext v .far ho ih (fun q h1 h2 h3 h4=>⟨h1,hw,hb,hq,hfar,hv,h2,h3,h4⟩) (fun wr f g c zs E Q hc h1 ex v0 hk'=>by cases hk') (fun f g c args hk'=>by cases hk') ⟨Nat.le_refl _,fun _ _ _ _ _ _=>rfl⟩
  | @op' i tmps h S born o v h' S' wr hnf ho hw hb hl hop hst hk ih =>
    refine ext v (.op wr) ho ih (fun q h1 h2 h3 h4=>⟨h1,hnf,hw,hb,by rw [h2];exact hl,by rw [h2];exact h4,by rw [h2,h3];exact hop⟩) (fun wr f g c zs E Q hc h1 ex v0 hk'=>by cases hk') (fun f g c args hk'=>by cases hk') ⟨?_,fun _=>hst⟩
    cases wr with
    | true=>exact zh9 hop.2
    | false =>
      obtain⟨_,hv,h1,rfl⟩:=hop;have h2:=zh9 h1;exact h2
  | @call' i tmps h S born o v h' S' wr f g c zs E Q hc h1 ex v0 hnf ho hw hb hl hok hrun hst hk ih =>
    refine ext v (.call wr f g c zs E Q hc h1 ex v0) ho ih (fun q k1 k2 k3 k4=>⟨k1,hnf,hw,hb,by rw [k2];exact hl,by rw [k2];exact k4,by rw [k2,k3];exact hok⟩) (fun wr f' g' c' zs' E' Q' hc' h1' ex' v0' hk'=>by cases hk';exact hrun) (fun f g c args hk'=>by cases hk') ⟨?_,fun _=>hst⟩
    cases wr with
    | true=>have:=hok.2.back.next;omega
    | false =>
      obtain⟨_,hv,k1,rfl⟩:=hok;have:=k1.back.next;show h.next<=hv.next;rw [this];show h.next<=h.next+_;omega
  | @opU' i tmps h S born o v h' S' hnf ho hw hb hl hop hst hk ih =>
    exact ext v (.op true) ho ih (fun q h1 h2 h3 h4=>⟨h1,hnf,hw,hb,by rw [h2];exact hl,by rw [h2];exact h4,by rw [h2,h3];exact hop⟩) (fun wr f g c zs E Q hc h1 ex v0 hk'=>by cases hk') (fun f g c args hk'=>by cases hk') ⟨zh9 hop.2,hst⟩
  | @callD' i tmps h S born o v h1 S1 f g c args hnf ho hw hb hl hq hle hlow hca hfn hg hbd hrun hst hk ih =>
    exact ext v (.callD f g c args) ho ih (fun q k1 k2 k3 k4=>⟨k1,hnf,hw,hb,by rw [k2];exact hl,by rw [k2];exact k4,hq,by rw [k2];exact hle,by rw [k2];exact hlow,hca,hfn,hg,hbd⟩) (fun wr f g c zs E Q hc h1 ex v0 hk'=>by cases hk') (fun f' g' c' args' hk'=>by cases hk';exact hrun) ⟨hle,hst⟩
theorem Goes.drawF {id:Nat} (W:List Nat) (hB:zlQ W ops=true) (hf:AHeap) (hst:∀ n b,hf.get n=some b->n<h.next/\∃ b0,b={ b0 with ro:=true }/\h.get n=some b0) (hk:RGF X W ops h.next hf (fun t h S=>Goes X fn A (.run k t h S)) 0 tmps h S []):Goes X fn A (.run (.code (.region id ops true)::k) tmps h S):=by
  obtain⟨rec,h1,h2,h3,h4,⟨h5,h6,h8,h9⟩,h7⟩:=hk.recs;refine .draw W rec hB ⟨h1,h2,h3,h4⟩ hf (fun n b hb=>?_) (fun j o ho=>h5 j o (Nat.zero_le _) ho) (fun j wr f g c zs E Q hc h1 ex v0 hj hkd=>h6 j wr f g c zs E Q hc h1 ex v0 (Nat.zero_le _) hj hkd) (fun j f g c args hj hkd=>h9 j f g c args (Nat.zero_le _) hj hkd) h7;obtain⟨k1,b0,k2,k3⟩:=hst n b hb;refine⟨k1,b0,k2,fun j hj hju=>?_⟩;rw [(h8 j (Nat.zero_le _) hj hju n b hb k1 (by rw [h2];exact Nat.le_refl _)).2,h2]
  exact k3
abbrev RG (X:Face P σ) (W:List Nat) (ops:Array Oper) (n0:Nat) (K:List Value->AHeap->σ->Prop):Nat->List Value->AHeap->σ->List (Nat × Nat)->Prop:=RGF X W ops n0 AHeap.none K
theorem Goes.drawR {id:Nat} (W:List Nat) (hB:zlQ W ops=true) (hk:RG X W ops h.next (fun t h S=>Goes X fn A (.run k t h S)) 0 tmps h S []):Goes X fn A (.run (.code (.region id ops true)::k) tmps h S) :=
  .drawF W hB AHeap.none (fun n b hb=>by cases hb) hk
section
variable {W:List Nat} {n0:Nat} {hf:AHeap} {K:List Value->AHeap->σ->Prop} {born:List (Nat × Nat)}
theorem RG.nil' (hn:ops.size=i) (hk:K tmps h S):RGF X W ops n0 hf K i tmps h S born:=RGF.nil' hn hk
theorem RG.skip' (ho:ops[i]?=some o) (hw:Region.wanted o (zaj ops tmps)=false) (hk:RGF X W ops n0 hf K (i+1) (putL o.dst undef tmps) h S born):RGF X W ops n0 hf K i tmps h S born:=RGF.skip' ho hw hk
end
section
variable {n0:Nat} {K:List Value->AHeap->σ->Prop} {born:List (Nat × Nat)} {v:Value} {h':AHeap} {S':σ}
end
variable {W:List Nat} {n0:Nat} {Kf:List Value->AHeap->σ->Prop} {born:List (Nat × Nat)}
theorem zk1 (hl:h.Low) {n0 mask:Nat}:zdC h (visH n0 born mask h)=h:=by
  unfold zdC visH;cases h with
  | mk get next =>
    congr 1;funext n;simp only;split
    . rw [if_neg (by omega)]
      cases hg:get n with
      | none=>rfl
      | some b=>have:=hl n b hg;simp only at this;omega
    . rfl
theorem zjD (hl:h.Low) {n0 mask:Nat} (ob:Option Blk):zdC h ((visH n0 born mask h).addO ob)=h.addO ob:=by
  unfold zdC visH AHeap.addO;congr 1;funext n;simp only;by_cases h1:n=h.next
  . rw [if_pos (by omega),if_pos (by omega),if_pos h1,if_pos h1]
  . rw [if_neg h1];by_cases h2:h.next<=n
    . rw [if_pos h2,if_neg (by omega),if_neg h1]
      cases hg:h.get n with
      | none=>rfl
      | some b=>have:=hl n b hg;omega
    . rw [if_neg h2,if_neg h1]
theorem znP (i n:Nat):zex i n (n+1)=[(i,n)]:=by
  unfold zex;rw [show n+1 - n=1 by omega]
  rfl
variable {hf:AHeap}
theorem RG.nil (hn:(ops.size==i)=true) (hk:Kf tmps h S):RGF X W ops n0 hf Kf i tmps h S born:=.nil' (by simpa using hn) hk
theorem RG.still {v:Value} {S':σ} (hl:h.Low) (ho:ops[i]?=some o) (hw:Region.wanted o (zaj ops tmps)=true) (hb:o.op.operands.all zaN=true) (hq:wrB W i o=false) (hop:Op0 X o (evA tmps) (visH n0 born ((zas ops.toList []).getD i 0) h) S v (visH n0 born ((zas ops.toList []).getD i 0) h) S')
    (hk:RGF X W ops n0 hf Kf (i+1) (putL o.dst v tmps) h S' born) (hnf:farB W i=false:=by rfl):RGF X W ops n0 hf Kf i tmps h S born :=
  .op' (h':=h) false hnf ho hw hb (.inl rfl) ⟨hq,_,hop,(zk1 hl).symm⟩ (fun _ _ _ _ _=>rfl) (by rw [zej];exact hk)
theorem RG.skip (ho:ops[i]?=some o) (hw:Region.wanted o (zaj ops tmps)=false) (hk:RGF X W ops n0 hf Kf (i+1) (putL o.dst undef tmps) h S born):RGF X W ops n0 hf Kf i tmps h S born:=.skip' ho hw hk
def lowH (n0:Nat) (h:AHeap):AHeap:=⟨fun n=>if n<n0 then h.get n else none,h.next⟩
theorem zgH {n0 mask:Nat} {n:Nat} {b:Blk} (hb:(lowH n0 h).get n=some b):(visH n0 born mask h).get n=some { b with ro:=true }:=by
  unfold lowH at hb;simp only at hb;split at hb
  . rename_i hn;unfold visH;simp only [hn,true_or,if_true,hb,Option.map_some]
  . cases hb
theorem znn {n0 mask:Nat} {t:TypeId} {a:Addr} {v:Value} (hv:zf4 P (lowH n0 h) t a=some v):zf4 P (visH n0 born mask h) t a=some v:=by
  unfold zf4 at hv ⊢;cases hg:(lowH n0 h).get a.block with
  | none=>rw [hg] at hv;simp at hv
  | some b =>
    rw [hg] at hv;rw [zgH hg];revert hv;generalize zaP P t=q1;generalize zal P t=q2;intro hv;rcases q1 with _|q1|q1<;>rcases q2 with _|q2<;>exact hv
theorem zlY {n0 mask:Nat} {t:TypeId} {x v:Value} {lo hi mx:Option Value} (hv:zeC P (lowH n0 h) t x lo hi mx=some v):zeC P (visH n0 born mask h) t x lo hi mx=some v:=by
  unfold zeC at hv ⊢;split at hv
  . rename_i a len cap _;cases hg:(lowH n0 h).get a.block with
    | none =>
      rw [hg] at hv;split at hv
      . split at hv
        . split at hv
          . rename_i h1 h2;simp_all
          . cases hv
        . cases hv
      . cases hv
    | some b=>rw [hg] at hv;rw [zgH hg];exact hv
  . exact hv
  . rename_i n el a _ _;cases hg:(lowH n0 h).get a.block with
    | none=>rw [hg] at hv;simp at hv
    | some b =>
      rw [hg] at hv;rw [zgH hg];revert hv;generalize zbL lo 0=q1;generalize zbL hi n=q2;generalize zal P el=q3;intro hv;rcases q1 with _|q1<;>rcases q2 with _|q2<;>rcases q3 with _|q3<;>exact hv
  . cases hv
theorem zpS {n0 mask:Nat} {e:Operand->Value} {v:Value} (hv:valA P e (lowH n0 h) o.op=some v):valA P e (visH n0 born mask h) o.op=some v:=by
  cases hl:zea o with
  | false=>rw [zju (h':=lowH n0 h) hl];exact hv
  | true =>
    unfold zea at hl;split at hl
    . rename_i t x hop;rw [hop] at hv ⊢;simp only [valA] at hv ⊢;split at hv
      . exact znn hv
      . cases hv
    . rename_i t x lo hi mx hop;rw [hop] at hv ⊢;exact zlY hv
    . cases hl
theorem Goes.cond {c:Operand} {x y:Code} {b:Bool} (hc:evA tmps c=.bool b) (h1:b=true->Goes X fn A (.run (.code x::k) tmps h S)) (h2:b=false->Goes X fn A (.run (.code y::k) tmps h S)):Goes X fn A (.run (.code (.cond c x y)::k) tmps h S):=by
  refine .ctl (todo':=.code (if b then x else y)::k) (by simp only [Go.Proofs.Ytgndgbnhkoppmaa.ctl,hc]) ?_
  cases b with
  | true=>exact h1 rfl
  | false=>exact h2 rfl
theorem Goes.fin {v:Value} {S':σ} (ht:retB todo=true) (hv:resA P fn tmps h=some v) (hS:S=S'):Goes X fn (fun x=>∃ h1,x=.done v h1 S') (.run todo tmps h S) :=
  .ret ht hv (.here ⟨h,by rw [hS]⟩)
def opOK:Op->Bool
  | .alloc _|.ready _|.waits _=>true
  | .move x|.assign x|.box _ x|.load _ x|.nilCheck x|.unOp _ _ x|.convert _ _ x|.makeInterface _ x|.makeChan _ x|.fieldAddr _ x _|.field _ x _|.extract x _|.panic x=>zaN x
  | .pick c a b=>zaN c && zaN a && zaN b
  | .store _ a v|.binOp _ _ a v _|.makeSlice _ a v|.indexAddr _ a v|.index _ a v=>zaN a && zaN v
  | .makeFunc _ xs ys=>xs.toList.all zaN && ys.toList.all zaN
  | .build _ ps|.buildSlice _ _ ps=>ps.toList.all fun p=>zaN p.2
  | .slice _ x l h m=>zaN x && l.all zaN && h.all zaN && m.all zaN
  | .call c=>(match c.callee with|.value f=>zaN f|.invoke r _=>zaN r|.builtin _=>true) && c.args.toList.all zaN
  | _=>false
theorem zjT {l:Array Operand} (h:l.toList.all zaN=true):∀ x∈l,zaN x=true:=fun x hx=>List.all_eq_true.1 h x (by simpa using hx)
theorem zjA {l:Array (Nat × Operand)} (h:(l.toList.all fun p=>zaN p.2)=true):∀ x∈(l.toList.map (·.2)).toArray,zaN x=true:=fun x hx=>by
  obtain⟨p,hp,rfl⟩:=List.mem_map.1 (by simpa using hx:x∈l.toList.map (·.2))
  exact List.all_eq_true.1 h p hp
theorem zbn {o:Op} (h:opOK o=true):o.operands.all zaN=true:=by
  rw [Array.all_eq_true_iff_forall_mem];intro x hx;cases o with
  | makeFunc fn xs ys =>
    simp only [opOK,Bool.and_eq_true] at h;rcases Array.mem_append.1 hx with hx|hx
    . exact zjT h.1 x hx
    . exact zjT h.2 x hx
  | build t ps=>exact zjA h x hx
  | buildSlice t n ps=>exact zjA h x hx
  | call c =>
    simp only [opOK,Bool.and_eq_true] at h;unfold Op.operands Call.operands at hx;rcases Array.mem_append.1 hx with hx|hx
    . have h1:=h.1;cases hc:c.callee<;>simp_all
    . exact zjT h.2 x hx
  | slice t x' l hh m =>
    simp only [opOK,Bool.and_eq_true] at h;obtain⟨⟨⟨h1,h2⟩,h3⟩,h4⟩:=h;unfold Op.operands at hx;cases l<;>cases hh<;>cases m<;>simp_all<;>rcases hx with rfl|rfl|rfl|rfl<;>simp_all
  | _=>simp_all [opOK,Op.operands]<;>(try (rcases hx with rfl|rfl|rfl<;>simp_all))<;>(try (rcases hx with rfl|rfl<;>simp_all))
theorem zbl (ho:ops.toList[i]?=some o):ops[i]?=some o:=by rw [<-ho];simp
theorem AtL.skip (ho:ops.toList[i]?=some o) (hw:Region.wanted o (zaj ops tmps)=false) (hk:At X fn A ops k (i+1) (putL o.dst undef tmps) h S):At X fn A ops k i tmps h S:=At.skip (zbl ho) hw hk
theorem AtL.val (ho:ops.toList[i]?=some o) (hw:Region.wanted o (zaj ops tmps)=true) (hb:opOK o.op=true)
    (hk:∀ K:List Value->AHeap->Prop,(∀ t h,At X fn A ops k (i+1) t h S->K t h)->OpK K o tmps h (valA P (evA tmps) h o.op)):At X fn A ops k i tmps h S:=At.val (zbl ho) hw (zbn hb) hk
theorem AtL.new (ho:ops.toList[i]?=some o) (hw:Region.wanted o (zaj ops tmps)=true) (hb:opOK o.op=true) (hl:h.next<VB)
    (hk:∀ K:List Value->AHeap->Prop,(∀ t h,At X fn A ops k (i+1) t h S->K t h)->NewK K o tmps h (newA P (evA tmps) h h.next o.op)):At X fn A ops k i tmps h S:=At.new (zbl ho) hw (zbn hb) hl hk
theorem AtL.wr (ho:ops.toList[i]?=some o) (hw:Region.wanted o (zaj ops tmps)=true) (hb:opOK o.op=true) (hl:h.next<VB)
    (hk:∀ K:List Value->AHeap->Prop,(∀ t h,At X fn A ops k (i+1) t h S->K t h)->WrK K o tmps (wrA P (evA tmps) h o.op)):At X fn A ops k i tmps h S:=At.wr (zbl ho) hw (zbn hb) hl hk
theorem AtL.store (ho:ops.toList[i]?=some o) (hw:Region.wanted o (zaj ops tmps)=true) (hb:opOK o.op=true)
    (hk:∀ K:List Value->AHeap->Prop,(∀ t h,At X fn A ops k (i+1) t h S->K t h)->zfY K o tmps (zce P (evA tmps) h o.op)):At X fn A ops k i tmps h S:=At.store (zbl ho) hw (zbn hb) hk
theorem zhS {n0 mask s:Nat} {v:Value} {cs:List Value} (hv:zcx (lowH n0 h) s v=some cs):zcx (visH n0 born mask h) s v=some cs:=by
  unfold zcx at hv ⊢;split at hv
  . exact hv
  . rename_i a n c;cases hg:(lowH n0 h).get a.block with
    | none =>
      rw [hg] at hv;split at hv
      . rename_i h0;simp only [h0,if_true];exact hv
      . split at hv
        . cases hv
        . cases hv
    | some b=>rw [hg] at hv;rw [zgH hg];exact hv
  . cases hv
theorem zkj {n0 mask:Nat} {t:TypeId} {x y:Value} {r:List Value × TypeId × Nat} (hv:zde P (lowH n0 h) t x y=some (r.1,r.2.1,r.2.2,true)):zde P (visH n0 born mask h) t x y=some (r.1,r.2.1,r.2.2,true):=by
  unfold zde at hv ⊢;cases hsl:za8 P t with
  | none=>rw [hsl] at hv;cases hv
  | some el =>
    rw [hsl] at hv;simp only at hv ⊢;cases h1:zcx (lowH n0 h) ((zal P el).getD 0) x with
    | none=>rw [h1] at hv;simp at hv
    | some olds =>
      cases h2:zcx (lowH n0 h) ((zal P el).getD 0) y with
      | none=>rw [h1,h2] at hv;simp at hv
      | some news =>
        rw [h1,h2] at hv;rw [zhS h1,zhS h2];split at hv
        . rename_i s bs z olds' news' a sl sc b n c hs hbs hz ho hn;cases ho;cases hn;split at hv
          . rename_i hc;rw [if_pos hc];split at hv
            . exact hv
            . rename_i ad;cases hg:(lowH n0 h).get ad.block with
              | none=>rw [hg] at hv;cases hv
              | some bk =>
                rw [hg] at hv;simp only [zgH hg] at hv ⊢;split at hv
                . rename_i hgr;rw [if_pos hgr];exact hv
                . split at hv
                  . simp at hv
                  . cases hv
          . cases hv
        . cases hv
theorem zpI {n0 mask n:Nat} {e:Operand->Value} {v:Value × Option Blk} (hv:newA P e (lowH n0 h) n o.op=some v) (hne:∀ t x lo hi mx,o.op≠.slice t x lo hi mx):newA P e (visH n0 born mask h) n o.op=some v:=by
  revert hv;generalize o.op=op at hne;intro hv;unfold newA at hv ⊢;split at hv
  . exact hv
  . exact hv
  . exact hv
  . exact hv
  . split at hv
    . rename_i x y t t' hx ht;split at hv
      . rename_i htt;split at hv
        . rename_i news el need hap;have:=zkj (mask:=mask) (born:=born) (r:=(news,el,need)) hap;simp only [if_pos htt,this];exact hv
        . cases hv
      . cases hv
    . cases hv
  . exact absurd rfl (hne _ _ _ _ _)
  . cases hv
def zq3:Op->Bool
  | .slice ..=>false
  | _=>true
theorem RGL.skip (ho:ops.toList[i]?=some o) (hw:Region.wanted o (zaj ops tmps)=false) (hk:RGF X W ops n0 hf Kf (i+1) (putL o.dst undef tmps) h S born):RGF X W ops n0 hf Kf i tmps h S born:=RG.skip (zbl ho) hw hk
theorem RGL.val (hl:h.Low) (ho:ops.toList[i]?=some o) (hw:Region.wanted o (zaj ops tmps)=true) (hb:opOK o.op=true) (hq:wrB W i o=false)
    (hk:∀ K:List Value->AHeap->Prop,(∀ t h,RGF X W ops n0 hf Kf (i+1) t h S born->K t h)->OpK K o tmps h (valA P (evA tmps) (lowH n0 h) o.op)) (hnf:farB W i=false:=by rfl):RGF X W ops n0 hf Kf i tmps h S born:=by
  have:=hk _ (fun _ _ h=>h);cases hv:valA P (evA tmps) (lowH n0 h) o.op with
  | none=>rw [hv] at this;exact this.elim
  | some v=>rw [hv] at this;exact RG.still hl (zbl ho) hw (zbn hb) hq (.inl ⟨zpS hv,rfl,rfl⟩) this hnf
theorem RGL.new (hl:h.Low) (ho:ops.toList[i]?=some o) (hw:Region.wanted o (zaj ops tmps)=true) (hb:opOK o.op=true) (hq:wrB W i o=false) (hn:h.next<VB) (hne:zq3 o.op=true)
    (hk:∀ K:List Value->AHeap->Prop,(∀ t h',RGF X W ops n0 hf Kf (i+1) t h' S ((i,h.next)::born)->K t h')->NewK K o tmps h (newA P (evA tmps) (lowH n0 h) h.next o.op)) (hnf:farB W i=false:=by rfl):RGF X W ops n0 hf Kf i tmps h S born:=by
  have:=hk _ (fun _ _ h=>h);cases hv:newA P (evA tmps) (lowH n0 h) h.next o.op with
  | none=>rw [hv] at this;exact this.elim
  | some v =>
    obtain⟨v,ob⟩:=v;rw [hv] at this;refine .op' (h':=h.addO ob) (v:=v) (S':=S) false hnf (zbl ho) hw (zbn hb) (.inr hn) ⟨hq,_,.inr (.inl ⟨ob,zpI hv (fun t x lo hi mx he=>by rw [he] at hne;cases hne),rfl,rfl⟩),(zjD hl ob).symm⟩ (fun n b _ h1 h2=>by rw [AHeap.addO_get,if_neg (by omega)]) ?_
    rw [show (h.addO ob).next=h.next+1 from rfl,znP]
    exact this
theorem RGL.store (ho:ops.toList[i]?=some o) (hw:Region.wanted o (zaj ops tmps)=true) (hb:opOK o.op=true)
    (hk:∀ K:List Value->AHeap->Prop,(∀ t h,RG X W ops n0 Kf (i+1) t h S born->K t h)->zfY K o tmps (zce P (evA tmps) h o.op)) (hnf:farB W i=false:=by rfl):RG X W ops n0 Kf i tmps h S born:=by
  have:=hk _ (fun _ _ h=>h);cases hv:zce P (evA tmps) h o.op with
  | none=>rw [hv] at this;exact this.elim
  | some h' =>
    rw [hv] at this;obtain⟨t,x,y,a,h1,h2,h3⟩:=zf3 hv;obtain⟨b,s,_,_,_,_,_,_,_,rfl⟩:=zb0 h3;have hop:Op0 X o (evA tmps) h S undef (h.put a.block { b with cells:=zaQ b.cells a.off (evA tmps y).cells.toList }) S:=.inr (.inr (.inl ⟨zhK hv,rfl⟩))
    refine RGF.op' (h':=h.put a.block { b with cells:=zaQ b.cells a.off (evA tmps y).cells.toList }) true hnf (zbl ho) hw (zbn hb) (.inl rfl) ⟨by unfold wrB zc8;rw [h1];rfl,hop⟩ (fun n b hb=>by cases hb) ?_
    rw [AHeap.put_next,zej];exact this
theorem RGL.wr (ho:ops.toList[i]?=some o) (hw:Region.wanted o (zaj ops tmps)=true) (hb:opOK o.op=true) (hn:h.next<VB) (hq:wrB W i o=true)
    (hk:∀ K:List Value->AHeap->Prop,(∀ t h',RG X W ops n0 Kf (i+1) t h' S (zex i h.next h'.next++born)->K t h')->WrK K o tmps (wrA P (evA tmps) h o.op)) (hnf:farB W i=false:=by rfl):RG X W ops n0 Kf i tmps h S born:=by
  have:=hk _ (fun _ _ h=>h);cases hv:wrA P (evA tmps) h o.op with
  | none=>rw [hv] at this;exact this.elim
  | some v =>
    obtain⟨v,h'⟩:=v;rw [hv] at this;exact RGF.op' true hnf (zbl ho) hw (zbn hb) (by rcases zi0 hv with h|h<;>omega) ⟨hq,.inr (.inr (.inl ⟨hv,rfl⟩))⟩ (fun n b hb=>by cases hb) this
theorem RG.prim {g:Func} (hl:h.Low) (ho:ops[i]?=some o) (hw:Region.wanted o (zaj ops tmps)=true) (hb:o.op.operands.all zaN=true) (hq:wrB W i o=false)
    (hk:zd3 (fun f args=>P.funcs[f]?=some g/\goB g=true/\∃ v S',X.prim f args S v S'/\RGF X W ops n0 hf Kf (i+1) (putL o.dst v tmps) h S' born) (zaW P (evA tmps) o.op)) (hnf:farB W i=false:=by rfl):RGF X W ops n0 hf Kf i tmps h S born:=by
  cases hv:zaW P (evA tmps) o.op with
  | none=>rw [hv] at hk;exact hk.elim
  | some x =>
    obtain⟨f,args⟩:=x;rw [hv] at hk;obtain⟨h1,h2,v,S',h3,h4⟩:=hk;exact RG.still hl ho hw hb hq (.inr (.inr (.inr ⟨f,g,args,hv,h1,h2,h3,rfl⟩))) h4 hnf
theorem RG.call (hl:h.Low) (ho:ops[i]?=some o) (hw:Region.wanted o (zaj ops tmps)=true) (hb:o.op.operands.all zaN=true) (hq:wrB W i o=false)
    (hk:zd3 (fun f args=>∃ v S',Does X f args [] S v S'/\RGF X W ops n0 hf Kf (i+1) (putL o.dst v tmps) h S' born) (zaW P (evA tmps) o.op)) (hnf:farB W i=false:=by rfl):RGF X W ops n0 hf Kf i tmps h S born:=by
  cases hv:zaW P (evA tmps) o.op with
  | none=>rw [hv] at hk;exact hk.elim
  | some x =>
    obtain⟨f,args⟩:=x;rw [hv] at hk;obtain⟨v,S',⟨g,c,h1,d1,d2,d3,d4,d5,d6⟩,h4⟩:=hk;refine .call' (h':=h) false f g c args idE idE (zar []) h1 [] v hnf ho hw hb (.inl rfl) ⟨hq,_,zjC h1 hv d1 d2 d3 d4 d5,(zk1 hl).symm⟩ d6 (fun _ _ _ _ _=>rfl) ?_;rw [zej];exact h4
theorem Goes.trans {B:Conf σ->Prop} {c:Conf σ} (G:Goes X fn A c) (hAB:∀ x,A x->Goes X fn B x):Goes X fn B c:=by
  induction G with
  | here h=>exact hAB _ h
  | ctl hc _ ih=>exact .ctl hc (ih hAB)
  | ret ht hv _ ih=>exact .ret ht hv (ih hAB)
  | skip ho hw _ ih=>exact .skip ho hw (ih hAB)
  | op ho hw hb hop hl _ ih=>exact .op ho hw hb hop hl (ih hAB)
  | call f g c zs E Q hc h1 ex v0 ho hw hb hok hl hrun _ _ ih=>exact .call f g c zs E Q hc h1 ex v0 ho hw hb hok hl hrun (ih hAB)
  | callD f g c args v h1 S1 ho hw hb hca hf hg hbd hrun _ _ ih=>exact .callD f g c args v h1 S1 ho hw hb hca hf hg hbd hrun (ih hAB)
  | draw W rec hB h0 hf hst hgood hcalls hcallsD _ _ _ ih=>exact .draw W rec hB h0 hf hst hgood hcalls hcallsD (ih hAB)
  | weak hs hn _ ih=>exact .weak hs hn (ih hAB)
  | raise hg hn hl _ ih=>exact .raise hg hn hl (ih hAB)
theorem Goes.mono {B:Conf σ->Prop} {c:Conf σ} (G:Goes X fn A c) (hAB:∀ x,A x->B x):Goes X fn B c:=G.trans fun x h=>.here (hAB x h)
theorem Goes.out {c:Conf σ} (G:Goes X fn A c):∃ c',A c'/\Goes X fn (fun x=>x=c') c:=by
  induction G with
  | here h=>exact⟨_,h,.here rfl⟩
  | ctl hc _ ih=>obtain⟨c',h,G⟩:=ih;exact⟨c',h,.ctl hc G⟩
  | ret ht hv _ ih=>obtain⟨c',h,G⟩:=ih;exact⟨c',h,.ret ht hv G⟩
  | skip ho hw _ ih=>obtain⟨c',h,G⟩:=ih;exact⟨c',h,.skip ho hw G⟩
  | op ho hw hb hop hl _ ih=>obtain⟨c',h,G⟩:=ih;exact⟨c',h,.op ho hw hb hop hl G⟩
  | call f g c zs E Q hc h1 ex v0 ho hw hb hok hl hrun _ _ ih=>obtain⟨c',h,G⟩:=ih;exact⟨c',h,.call f g c zs E Q hc h1 ex v0 ho hw hb hok hl hrun G⟩
  | callD f g c args v h1 S1 ho hw hb hca hf hg hbd hrun _ _ ih=>obtain⟨c',h,G⟩:=ih;exact⟨c',h,.callD f g c args v h1 S1 ho hw hb hca hf hg hbd hrun G⟩
  | draw W rec hB h0 hf hst hgood hcalls hcallsD _ _ _ ih=>obtain⟨c',h,G⟩:=ih;exact⟨c',h,.draw W rec hB h0 hf hst hgood hcalls hcallsD G⟩
  | weak hs hn _ ih=>obtain⟨c',h,G⟩:=ih;exact⟨c',h,.weak hs hn G⟩
  | raise hg hn hl _ ih=>obtain⟨c',h,G⟩:=ih;exact⟨c',h,.raise hg hn hl G⟩
theorem Does.mk {f:FuncId} {g:Func} {c:Code} {args:Array Value} {l:List Blk} {S S':σ} {v:Value} (hf:P.funcs[f]?=some g) (hg:goB g=true) (hb:g.body=some c) (hclo:∀ u∈args.toList,Clo (Kn l.length (X.cnt S)) u) (hv:Hand (X.cnt S') v)
    (hrun:Goes X g (fun x=>∃ h1,x=.done v h1 S') (.run [.code c] (args.toList++List.replicate (g.ntmps - args.size) undef) (zar (l.map some)) S)):Does X f args l S v S':=by
  obtain⟨c',⟨h1,rfl⟩,G⟩:=hrun.out;exact⟨g,c,h1,hf,hg,hb,hclo,hv,G⟩
end
theorem Try.mix:Try.prog.follows .mixedOrders=true:=by kernel_rfl
def gM (N T:Nat):Nat:=T * 4 * (N+1)+T * (2 * T+3)
def gsz (N T:Nat):Nat->Nat
  | 0=>1|1=>1|2=>5|3=>9|4=>1|5=>4|6=>T|7=>N|8=>N|9=>N|10=>N * 8|11=>N * 8
  | 12=>T * 4 * 2|13=>T * 4|14=>T * 2|15=>T|16=>T * (2 * T+2)|17=>gM N T|18=>gM N T * 8|_=>0
def gsum (N T:Nat):Nat->Nat
  | 0=>0
  | i+1=>gsum N T i+gsz N T i
def gb (N T i:Nat):Nat:=if N=0 then 0 else gsum N T i
def geoC (N T:Nat):Array Value:=#[.int .i64 N,.int .i64 T]++((List.range 20).map fun i=>Value.int .i64 (gb N T i)).toArray
def zkQ (ws:List UInt64):Array Value:=(ws.map fun x=>Value.int .u64 (x.toNat:Int)).toArray
def zkT (bs:List UInt8):Array Value:=(bs.map fun x=>Value.int .u8 (x.toNat:Int)).toArray
structure zfO where
  m:Nat
  bw:Nat
  bb:Nat
  pw:Array Value:=#[]
  pb:Array Value:=#[]
def memC (M:zfO) (ws:List UInt64) (bs:List UInt8):Array Value :=
  #[.slice (some ⟨M.bw,0,none⟩) ws.length (ws.length+M.pw.size),.slice (some ⟨M.bb,0,none⟩) bs.length (bs.length+M.pb.size)]
structure MemAt (w:World) (M:zfO) (ws:List UInt64) (bs:List UInt8):Prop where
  hm:blk w M.m=some (.cells (memC M ws bs) 94 (0,0))
  hw:blk w M.bw=some (.cells (zkQ ws++M.pw) 29 (0,0))
  hb:blk w M.bb=some (.cells (zkT bs++M.pb) 5 (0,0))
  wl:ws.length<=2097152
  bl:bs.length<=1048576
theorem za6 {w:World} {a b:Nat} {c d:Array Value} {s t:TypeId} {f g:Nat × Nat} (h:blk w a=some (.cells c s f)) (k:blk w b=some (.cells d t g)) (hne:s≠t):a≠b:=by
  rintro rfl;rw [h] at k;injection k with k
  injection k with _ k _
  exact hne k
theorem MemAt.ext {w w':World} {M:zfO} {ws:List UInt64} {bs:List UInt8} {X:List Nat} (h:MemAt w M ws bs) (k:Ext X w w') (h1:M.m ∉ X) (h2:M.bw ∉ X) (h3:M.bb ∉ X):MemAt w' M ws bs :=
  ⟨k.blk h.hm h1,k.blk h.hw h2,k.blk h.hb h3,h.wl,h.bl⟩
theorem MemAt.ext0 {w w':World} {M:zfO} {ws:List UInt64} {bs:List UInt8} (h:MemAt w M ws bs) (k:Ext [] w w'):MemAt w' M ws bs:=h.ext k (by simp) (by simp) (by simp)
theorem MemAt.c0 {w:World} {M:zfO} {ws:List UInt64} {bs:List UInt8} (h:MemAt w M ws bs):w.cell? ⟨M.m,0,none⟩=some (.slice (some ⟨M.bw,0,none⟩) ws.length (ws.length+M.pw.size)):=zdJ h.hm 0
theorem MemAt.c1 {w:World} {M:zfO} {ws:List UInt64} {bs:List UInt8} (h:MemAt w M ws bs):w.cell? ⟨M.m,1,none⟩=some (.slice (some ⟨M.bb,0,none⟩) bs.length (bs.length+M.pb.size)):=zdJ h.hm 1
theorem MemAt.drew {w:World} {M:zfO} {ws:List UInt64} {bs:List UInt8} (h:MemAt w M ws bs):MemAt w.drew M ws bs:=⟨h.hm,h.hw,h.hb,h.wl,h.bl⟩
theorem MemAt.alloc {w:World} {M:zfO} {ws:List UInt64} {bs:List UInt8} (h:MemAt w M ws bs) (o:Obj):MemAt (w.alloc o) M ws bs:=h.ext0 ((Ext.refl [] w).alloc o)
def accV (k at':Int) (A B:UInt64):Value:=.agg #[.int .u8 k,.int .i64 at',.int .u64 (A.toNat:Int),.int .u64 (B.toNat:Int)]
theorem zri (a b:UInt64):IntKind.u64.wrap ((a.toNat:Int)+(b.toNat:Int))=((a+b).toNat:Int):=by
  have h:=UInt64.toNat_add a b;rw [IntKind.wrap_u64];omega
theorem ziC (w:World):(Instr.index 91 (.agg #[.nilFunc,.func (.func 44) #[] #[],.func (.func 45) #[] #[],.func (.func 46) #[] #[],.func (.func 47) #[] #[]]) (.int .u8 1)).run Try.prog w=.ok (.func (.func 44) #[] #[]) w:=by kernel_rfl
theorem zh2 (w:World):(Instr.index 91 (.agg #[.nilFunc,.func (.func 44) #[] #[],.func (.func 45) #[] #[],.func (.func 46) #[] #[],.func (.func 47) #[] #[]]) (.int .u8 2)).run Try.prog w=.ok (.func (.func 45) #[] #[]) w:=by kernel_rfl
theorem zig (w:World):(Instr.index 91 (.agg #[.nilFunc,.func (.func 44) #[] #[],.func (.func 45) #[] #[],.func (.func 46) #[] #[],.func (.func 47) #[] #[]]) (.int .u8 3)).run Try.prog w=.ok (.func (.func 46) #[] #[]) w:=by kernel_rfl
theorem zif (w:World):(Instr.index 91 (.agg #[.nilFunc,.func (.func 44) #[] #[],.func (.func 45) #[] #[],.func (.func 46) #[] #[],.func (.func 47) #[] #[]]) (.int .u8 4)).run Try.prog w=.ok (.func (.func 47) #[] #[]) w:=by kernel_rfl
attribute [local go_sem] ziC zh2 zig zif
attribute [local go_sem] ziC zh2 zig zif
attribute [local go_sem] ziC zh2 zig zif
def wAt (ws:List UInt64) (n:Int):Option UInt64:=if n<0 then none else ws[n.toNat]?
def kNow (k:Nat) (x A B:UInt64):UInt64:=match k with
  | 1=>x|2=>A|3=>if x=A then B else x|_=>x+A
def zm5 (k:Nat) (x A:UInt64):UInt64:=match k with
  | 1=>x|2=>0|3=>if x=A then 1 else 0|_=>x
def wT (k:Nat) (n:Int) (A:UInt64) (ws:List UInt64):UInt64:=match wAt ws n with
  | none=>0|some x=>zm5 k x A
def wS (k:Nat) (n:Int) (A B:UInt64) (ws:List UInt64):List UInt64:=match wAt ws n with
  | none=>ws|some x=>ws.set n.toNat (kNow k x A B)
theorem zsk {ws:List UInt64} {n:Nat} (h:n<ws.length):wAt ws n=some ws[n]:=by unfold wAt;rw [if_neg (by omega)];simp [h]
theorem zrF {ws:List UInt64} {n:Int} (h:n<0):wAt ws n=none:=if_pos h
theorem zqL {ws:List UInt64} {n:Int} (h:(ws.length:Int)<=n):wAt ws n=none:=by unfold wAt;rw [if_neg (by omega)];simp;omega
theorem zee (k:Nat) (n:Int) (A B:UInt64) (ws:List UInt64):(wS k n A B ws).length=ws.length:=by unfold wS;split<;>simp
theorem set_same {ws:List UInt64} {n:Nat} (h:n<ws.length):ws.set n ws[n]=ws:=by
  apply List.ext_getElem?;intro j;rw [List.getElem?_set];split
  . rename_i e;subst e;simp [h]
  . rfl
structure zjF where
  d:Nat
  v:Nat
structure DirAt (w:World) (D:zjF) (m:Nat) (me:Int) (told:Value) (steps:Nat):Prop where
  hd:blk w D.d=some (.cells #[.pointer (some ⟨D.v,0,none⟩),.int .i64 me,told] 99 (0,0))
  hv:blk w D.v=some (.cells #[.pointer (some ⟨m,0,none⟩),.int .i64 (steps:Int)] 97 (0,0))
section
variable {w w':World} {D:zjF} {m:Nat} {me:Int} {told:Value} {steps:Nat} {M:zfO} {ws:List UInt64} {bs:List UInt8}
theorem DirAt.ext {X:List Nat} (h:DirAt w D m me told steps) (k:Ext X w w') (h1:D.d ∉ X) (h2:D.v ∉ X):DirAt w' D m me told steps:=⟨k.blk h.hd h1,k.blk h.hv h2⟩
theorem DirAt.ext0 (h:DirAt w D m me told steps) (k:Ext [] w w'):DirAt w' D m me told steps:=h.ext k (by simp) (by simp)
theorem DirAt.ne_dv (h:DirAt w D m me told steps):D.d≠D.v:=za6 h.hd h.hv (by decide)
theorem DirAt.c0 (h:DirAt w D m me told steps):w.cell? ⟨D.d,0,none⟩=some (.pointer (some ⟨D.v,0,none⟩)):=zdJ h.hd 0
theorem DirAt.c1 (h:DirAt w D m me told steps):w.cell? ⟨D.d,1,none⟩=some (.int .i64 me):=zdJ h.hd 1
theorem DirAt.v0 (h:DirAt w D m me told steps):w.cell? ⟨D.v,0,none⟩=some (.pointer (some ⟨m,0,none⟩)):=zdJ h.hv 0
theorem DirAt.v1 (h:DirAt w D m me told steps):w.cell? ⟨D.v,1,none⟩=some (.int .i64 (steps:Int)):=zdJ h.hv 1
theorem DirAt.step (h:DirAt w D m me told steps) (n:Nat):DirAt (w.setCell ⟨D.v,1,none⟩ (.int .i64 (n:Int))) D m me told n :=
  ⟨by rw [zrV _ _ _ _ h.ne_dv,h.hd],by rw [zjR h.hv];rfl⟩
end
def PS (D:zjF) (M:zfO) (me:Int) (told:Value) (steps:Nat) (ws:List UInt64) (bs:List UInt8) (w:World) (w':World):Prop :=
  DirAt w' D M.m me told steps/\MemAt w' M ws bs/\Ext [D.v,M.bw] w w'
theorem PS.trans {D:zjF} {M:zfO} {me:Int} {told:Value} {s s':Nat} {ws ws':List UInt64} {bs bs':List UInt8} {a b c:World} (h:PS D M me told s ws bs a b) (k:PS D M me told s' ws' bs' b c):PS D M me told s' ws' bs' a c :=
  ⟨k.1,k.2.1,h.2.2.trans' k.2.2⟩
theorem PS.ext0 {D:zjF} {M:zfO} {me:Int} {told:Value} {s:Nat} {ws:List UInt64} {bs:List UInt8} {a b c:World} (h:PS D M me told s ws bs a b) (k:Ext [] b c):PS D M me told s ws bs a c :=
  ⟨h.1.ext0 k,h.2.1.ext0 k,h.2.2.trans0 k⟩
theorem PS.refl {D:zjF} {M:zfO} {me:Int} {told:Value} {s:Nat} {ws:List UInt64} {bs:List UInt8} {a:World} (h:DirAt a D M.m me told s) (k:MemAt a M ws bs):PS D M me told s ws bs a a:=⟨h,k,Ext.refl _ _⟩
theorem znu (n : Nat) (a : Addr) (w : World) : (method (n + 1) 62 (.pointer (some a)) "Load").run Try.prog w = .ok (67, .pointer (some a)) w := by kernel_rfl
theorem zmQ (n : Nat) (a : Addr) (w : World) : (nilAhead (n + 1) 62 (.pointer (some a)) "Load").run Try.prog w = .ok (some false) w := by kernel_rfl
attribute [go_sem] znu zmQ
theorem zl4 (n : Nat) (a : Addr) (w : World) : (method (n + 1) 62 (.pointer (some a)) "Store").run Try.prog w = .ok (70, .pointer (some a)) w := by kernel_rfl
theorem zmi (n : Nat) (a : Addr) (w : World) : (nilAhead (n + 1) 62 (.pointer (some a)) "Store").run Try.prog w = .ok (some false) w := by kernel_rfl
attribute [go_sem] zl4 zmi
theorem zqd (n : Nat) (a : Addr) (w : World) : (method (n + 1) 62 (.pointer (some a)) "CAS").run Try.prog w = .ok (64, .pointer (some a)) w := by kernel_rfl
theorem zqb (n : Nat) (a : Addr) (w : World) : (nilAhead (n + 1) 62 (.pointer (some a)) "CAS").run Try.prog w = .ok (some false) w := by kernel_rfl
attribute [go_sem] zqd zqb
theorem zpO (n : Nat) (a : Addr) (w : World) : (method (n + 1) 62 (.pointer (some a)) "Add").run Try.prog w = .ok (63, .pointer (some a)) w := by kernel_rfl
theorem zqg (n : Nat) (a : Addr) (w : World) : (nilAhead (n + 1) 62 (.pointer (some a)) "Add").run Try.prog w = .ok (some false) w := by kernel_rfl
attribute [go_sem] zpO zqg
theorem zpm (n : Nat) (a : Addr) (w : World) : (method (n + 1) 62 (.pointer (some a)) "Get").run Try.prog w = .ok (66, .pointer (some a)) w := by kernel_rfl
theorem zpY (n : Nat) (a : Addr) (w : World) : (nilAhead (n + 1) 62 (.pointer (some a)) "Get").run Try.prog w = .ok (some false) w := by kernel_rfl
attribute [go_sem] zpm zpY
theorem zqc (n : Nat) (a : Addr) (w : World) : (method (n + 1) 62 (.pointer (some a)) "Put").run Try.prog w = .ok (68, .pointer (some a)) w := by kernel_rfl
theorem zo7 (n : Nat) (a : Addr) (w : World) : (nilAhead (n + 1) 62 (.pointer (some a)) "Put").run Try.prog w = .ok (some false) w := by kernel_rfl
attribute [go_sem] zqc zo7
theorem zot (n : Nat) (a : Addr) (w : World) : (method (n + 1) 62 (.pointer (some a)) "Self").run Try.prog w = .ok (69, .pointer (some a)) w := by kernel_rfl
theorem zoh (n : Nat) (a : Addr) (w : World) : (nilAhead (n + 1) 62 (.pointer (some a)) "Self").run Try.prog w = .ok (some false) w := by kernel_rfl
attribute [go_sem] zot zoh
theorem zmb (n : Nat) (a : Addr) (w : World) : (method (n + 1) 62 (.pointer (some a)) "Steps").run Try.prog w = .ok (29, .pointer (some a)) w := by kernel_rfl
theorem zl0 (n : Nat) (a : Addr) (w : World) : (nilAhead (n + 1) 62 (.pointer (some a)) "Steps").run Try.prog w = .ok (some false) w := by kernel_rfl
attribute [go_sem] zmb zl0
theorem zod (n : Nat) (a : Addr) (w : World) : (method (n + 1) 62 (.pointer (some a)) "Tell").run Try.prog w = .ok (71, .pointer (some a)) w := by kernel_rfl
theorem zoN (n : Nat) (a : Addr) (w : World) : (nilAhead (n + 1) 62 (.pointer (some a)) "Tell").run Try.prog w = .ok (some false) w := by kernel_rfl
attribute [go_sem] zod zoN
theorem zie (fn:Fn) (first cap:Array Value) (w:World):(Instr.makeFunc fn first cap).run Try.prog w=.ok (.func fn first cap) w:=rfl
attribute [go_sem] zie
def bAt (bs:List UInt8) (n:Int):Option UInt8:=if n<0 then none else bs[n.toNat]?
def bT (n:Int) (bs:List UInt8):UInt8:=match bAt bs n with|none=>0|some x=>x
def bS (n:Int) (b:UInt8) (bs:List UInt8):List UInt8:=match bAt bs n with|none=>bs|some _=>bs.set n.toNat b
theorem zqC {bs:List UInt8} {n:Nat} (h:n<bs.length):bAt bs n=some bs[n]:=by unfold bAt;rw [if_neg (by omega)];simp [h]
theorem zou {bs:List UInt8} {n:Int} (h:n<0):bAt bs n=none:=if_pos h
theorem zoo {bs:List UInt8} {n:Int} (h:(bs.length:Int)<=n):bAt bs n=none:=by unfold bAt;rw [if_neg (by omega)];simp;omega
theorem zgx (n:Int) (b:UInt8) (bs:List UInt8):(bS n b bs).length=bs.length:=by unfold bS;split<;>simp
theorem zrU (A:UInt64):IntKind.u8.wrap (A.toNat:Int)=(A.toUInt8.toNat:Int):=by
  rw [IntKind.wrap_u8];simp
theorem zsD (b:UInt8):IntKind.u64.wrap (b.toNat:Int)=((b.toUInt64).toNat:Int):=by
  have:=b.toNat_lt;rw [IntKind.wrap_u64];simp;omega
theorem DirAt.c2 {w:World} {D:zjF} {m:Nat} {me:Int} {told:Value} {steps:Nat} (h:DirAt w D m me told steps):w.cell? ⟨D.d,2,none⟩=some told:=zdJ h.hd 2
section
theorem zmH (v:Value):Instr.loadAt 40 v=zol 40 v:=rfl
theorem zkA (v u:Value):Instr.storeAt 40 v u=zlU 40 v u:=rfl
attribute [local go_sem ↓] zmH zkA
end
end Go.Proofs.Ytgndgbnhkoppmaa
