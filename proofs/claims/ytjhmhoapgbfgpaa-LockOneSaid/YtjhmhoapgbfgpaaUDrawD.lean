/-
  A region that draws its order and holds one call that hands over: whatever order is drawn, it comes to what the text's order comes to.
  No condition: laws.
-/
import Derived.Test.YtjhmhoapgbfgpaaUPlay2
import Derived.Test.YtjhmhoapgbfgpaaUCo21
import Derived.Below
import Derived.Test.YtjhmhoapgbfgpaaUThr54
set_option maxHeartbeats 40000000
set_option linter.unusedVariables false
set_option linter.unusedSimpArgs false
namespace Go.Proofs.Ytjhmhoapgbfgpaa
open Go Go.Conc
open Go.RowKit
section
variable {Γ:Type} {X:Face Try.prog St} {Sp:SpT Γ} {fn:Func} {A:Conf St->Γ × St->Prop} {ops:Array Oper} {k:List Item} {c:Nat}
theorem zbL {l:Array Bool} {i:Nat} (hi:i<l.size) (j:Nat) (b:Bool):(l.setIfInBounds i true).getD j b=if j=i then true else l.getD j b:=by
  by_cases e:j=i
  . subst e;rw [if_pos rfl];simp [hi]
  . rw [if_neg e,getD_set_ne b fun h=>e h.symm]
theorem zjs {l:Array Bool}:∀ n,zby l n<=n
  | 0=>Nat.le_refl _
  | n+1=>by rw [zby];have:=zjs (l:=l) n;split<;>omega
theorem zow {a b:Option Nat} {u v:Value} {t:List Value} (h:∀ x,a=some x->b=some x->False):putL a u (putL b v t)=putL b v (putL a u t):=by
  cases a with
  | none=>rfl
  | some x=>cases b with
    | none=>rfl
    | some y=>exact List.set_comm _ _ fun e=>h x rfl (by rw [e])
def ClosedD (ops:Array Oper) (l:Array Bool):Prop:=∀ i o,ops[i]?=some o->l.getD i false=true->∀ d∈zb0 o,l.getD d false=true
theorem ClosedD.add {l:Array Bool} {i:Nat} {o:Oper} (H:ClosedD ops l) (hi:i<l.size) (ho:ops[i]?=some o) (hd:∀ d∈zb0 o,l.getD d false=true):ClosedD ops (l.setIfInBounds i true):=fun j o' hj hl d hdm=>by
  rw [zbL hi] at hl ⊢;split
  . rfl
  . by_cases e:j=i
    . subst e;rw [ho] at hj;cases hj;exact hd d hdm
    . rw [if_neg e] at hl;exact H j o' hj hl d hdm
theorem ziN (L:zjn ops c) {l:Array Bool} (hl:l.size=ops.size) (fuel t:Nat):(zdj ops (fuel+1) t l=[]/\∀ i,i<ops.size->l.getD i true=true)\/∃ i o t',i<ops.size/\ops[i]?=some o/\l.getD i true=false/\(∀ d∈zb0 o,l.getD d false=true)/\zdj ops (fuel+1) t l=i::zdj ops fuel t' (l.setIfInBounds i true):=by
  unfold zdj;simp only [Region.linearise.go];change ((match (Region.ready .any ops l)[t % (Region.ready .any ops l).length]? with
        | some i=>Region.linearise.go .any ops fuel (t / (Region.ready .any ops l).length) (l.setIfInBounds i true) [i]
        | none=>[].reverse)=[]/\_)\/∃ i o t',_/\_/\_/\_/\(match (Region.ready .any ops l)[t % (Region.ready .any ops l).length]? with
        | some i=>Region.linearise.go .any ops fuel (t / (Region.ready .any ops l).length) (l.setIfInBounds i true) [i]
        | none=>[].reverse)=_
  cases hi:(Region.ready .any ops l)[t % (Region.ready .any ops l).length]? with
  | none =>
    have hnil:Region.ready .any ops l=[]:=by
      cases hr:Region.ready .any ops l with
      | nil=>rfl
      | cons x xs =>
        rw [hr] at hi;have hlt:t % (x::xs).length<(x::xs).length:=Nat.mod_lt _ (by simp)
        simp at hi;simp at hlt;omega
    exact .inl ⟨rfl,zjP L.back hnil⟩
  | some i =>
    obtain⟨hun,o,ho,hdep⟩:=mem_ready.1 (List.mem_of_getElem? hi);refine .inr ⟨i,o,t / (Region.ready .any ops l).length,(Array.getElem?_eq_some_iff.1 ho).1,ho,hun,fun d hd=>?_,?_⟩
    . obtain⟨e,he,hb,rfl⟩:=zlj hd;exact hdep e he hb
    . simp only [];rw [linearise_go_acc,List.reverse_singleton,List.singleton_append]
theorem zfY (L:zjn ops c):∀ (fuel t j:Nat) (l:Array Bool),l.size=ops.size->zby l ops.size<=fuel->c<j->j<=ops.size->(∀ i,i<ops.size->l.getD i true=decide (i<j))->zdj ops fuel t l=List.range' j (ops.size - j)
  | 0,t,j,l,hl,hu,hc,hj,hd=>by
    have:j=ops.size:=by
      apply Nat.le_antisymm hj;apply Nat.le_of_not_lt;intro h;have h1:=zcJ ops.size (Nat.le_zero.1 hu) j h;rw [hd j h] at h1;simp at h1
    rw [this,Nat.sub_self];rfl
  | fuel+1,t,j,l,hl,hu,hc,hj,hd=>by
    have hff:∀ i,i<ops.size->l.getD i false=decide (i<j):=fun i hi=>by rw [zc7 (by rw [hl];exact hi) false true];exact hd i hi
    have hdn:∀ i o,ops[i]?=some o->l.getD i false=true->∀ d∈zb0 o,l.getD d false=true:=fun i o ho hi d hdm=>by
      have hi2:=(Array.getElem?_eq_some_iff.1 ho).1;rw [hff i hi2] at hi;have:=L.dep i o ho d hdm;rw [hff d (by omega)]
      simp at hi ⊢;omega
    rcases ziN L hl fuel t with ⟨h1,h2⟩|⟨i,o,t',hi,ho,hun,hdep,heq⟩
    . have:j=ops.size:=by
        apply Nat.le_antisymm hj;apply Nat.le_of_not_lt;intro h;have h3:=h2 j h;rw [hd j h] at h3;simp at h3
      rw [h1,this,Nat.sub_self];rfl
    . have hij:j<=i:=by
        rw [hd i hi] at hun;simpa using hun
      have e:i=j:=by
        apply Nat.le_antisymm _ hij;apply Nat.le_of_not_lt;intro h;have h3:=zcW (D:=fun x=>l.getD x false=true) hdn i o ho hdep j (L.post i o ho (by omega) j h)
        rw [hff j (by omega)] at h3
        simp at h3
      subst e;have hund:=zbV hun ops.size hi (by rw [hl];exact hi)
      rw [heq,zfY L fuel t' (i+1) _ (by simpa using hl) (by omega) (by omega) (by omega) fun x hx=>?_]
      . rw [show ops.size - i=(ops.size - (i+1))+1 from by omega,List.range'_succ]
      . rw [zbL (by rw [hl];exact hi),hd x hx]
        by_cases e:x=i
        . subst e;simp
        . rw [if_neg e];simp;omega
def zrW (X:Face Try.prog St) (Sp:SpT Γ) (fn:Func) (A:Conf St->Γ × St->Prop) (ops:Array Oper) (k:List Item) (c:Nat) (h:AHeap) (S:St) (γ:Γ × St) (t:List Value):Prop :=
  ∃ (o:Oper) (f:FuncId) (args:Array Value) (Q:Value->AHeap->St->Γ × St->Prop),ops[c]?=some o/\o.guard=none/\o.op.operands.all zaN=true/\zaL Try.prog (evA t) o.op=some (f,args)/\(Runs X Sp f args h S γ Q\/Sp f args h S γ Q) /\
    ∀ v h1 S1 γ',Q v h1 S1 γ'->At X fn (fun cf=>GE X Sp fn A cf γ') ops k (c+1) (putL o.dst v t) h1 S1
variable {h:AHeap} {S:St} {γ:Γ × St} {vs:Nat->Value} {T:Nat->List Value}
theorem WalkT.ag (L:zjn ops c) (W:WalkT X ops h S c 0 vs T):∀ i,i<=c->Ag ops c vs (T 0) (fun j=>decide (j<i)) (T i)
  | 0,_=>⟨rfl,fun j x _ hj=>by simp at hj,fun _ _=>rfl⟩
  | i+1,hi=>by
    obtain⟨o,a1,a2,a3,a4,a5⟩:=W.step i (by omega) (by omega)
    have:=(W.ag L i (by omega)).put L (i:=i) (by omega) (by simp)
    rw [a5,show o.dst=zbX ops i from by simp [zbX,a1]]
    have e:(fun j=>decide (j<i) || j==i)=fun j=>decide (j<i+1):=by
      funext j;by_cases h1:j<i
      . have h3:j<i+1:=by omega
        simp [h1,h3]
      . by_cases h2:j=i
        . subst h2;simp
        . have h3:¬ j<i+1:=by omega
          simp [h1,h2,h3]
    rw [<-e];exact this
theorem zto (L:zjn ops c) (W:WalkT X ops h S c 0 vs T) {v:Value} {h1:AHeap} {S1:St} {γ1:Γ × St} (hpost:At X fn (fun cf=>GE X Sp fn A cf γ1) ops k (c+1) (putL (zbX ops c) v (T c)) h1 S1) :
    ∀ (fuel t:Nat) (l:Array Bool) (tm:List Value),l.size=ops.size->zby l ops.size<=fuel->ClosedD ops l->l.getD c false=true->(∀ i,c<i->i<ops.size->l.getD i true=false)->Ag ops c vs (T 0) (fun j=>l.getD j false) tm->GE X Sp fn A (.run (.inRegion ops (zdj ops fuel t l)::k) (putL (zbX ops c) v tm) h1 S1) γ1:=by
  intro fuel
  induction fuel with
  | zero =>
    intro t l tm hl hu hcl hc hnp hag;refine GE.go ?_;have hall:=zcJ ops.size (Nat.le_zero.1 hu);have e:tm=T c:=hag.ext (W.ag L c (Nat.le_refl _)) fun j hj=>by
      have:=hall j (by have:=L.lt;omega)
      rw [zc7 (by rw [hl];have:=L.lt;omega) true false] at this
      simp [this,hj]
    rw [e,zfY L 0 t (c+1) l hl hu (by omega) (by have:=L.lt;omega) fun i hi=>?_]
    . exact hpost
    . rw [hall i hi];by_cases hic:c<i
      . have:=hnp i hic hi;rw [hall i hi] at this;cases this
      . simp;omega
  | succ fuel ih =>
    intro t l tm hl hu hcl hc hnp hag;have hlt:=L.lt;by_cases hall:∀ j,j<c->l.getD j false=true
    . refine GE.go ?_;have e:tm=T c:=hag.ext (W.ag L c (Nat.le_refl _)) fun j hj=>by simp [hall j hj,hj]
      rw [e,zfY L (fuel+1) t (c+1) l hl hu (by omega) (by omega) fun i hi=>?_]
      . exact hpost
      . by_cases hic:c<i
        . rw [hnp i hic hi];simp;omega
        . have:l.getD i true=true:=by
            rw [zc7 (by rw [hl];exact hi) true false]
            by_cases e:i=c
            . rw [e];exact hc
            . exact hall i (by omega)
          rw [this];simp;omega
    . rcases ziN L hl fuel t with ⟨_,h2⟩|⟨i,o,t',hi,ho,hun,hdep,heq⟩
      . exact absurd (fun j hj=>by rw [zc7 (by rw [hl];omega) false true];exact h2 j (by omega)) hall
      . have hunf:l.getD i false=false:=by rw [zc7 (by rw [hl];exact hi) false true];exact hun
        have hic:i<c:=by
          apply Nat.lt_of_not_le;intro hle;rcases Nat.eq_or_lt_of_le hle with e|hlt2
          . rw [<-e,hc] at hunf;cases hunf
          . refine hall fun j hj=>zcW (D:=fun x=>l.getD x false=true) hcl i o ho hdep j (L.post i o ho hlt2 j (by omega))
        have hmove:zpm o.op=true:=by
          rcases L.anc i o ho hic with hb|hb
          . obtain⟨oc,hoc⟩:∃ oc,ops[c]?=some oc:=⟨_,Array.getElem?_eq_getElem hlt⟩;have:=zcW (D:=fun x=>l.getD x false=true) hcl c oc hoc (hcl c oc hoc hc) i hb;rw [hunf] at this;cases this
          . exact hb
        obtain⟨o',a1,a2,a3,a4,a5⟩:=W.step i (Nat.zero_le _) hic;rw [ho] at a1;cases a1;have hd:o.dst=zbX ops i:=by simp [zbX,ho]
        have hev:∀ x∈o.op.operands,evA tm x=evA (T i) x:=hag.ev L (W.ag L i (by omega)) ho (by omega) (fun j hj=>zcW (D:=fun x=>l.getD x false=true) hcl i o ho hdep j hj) fun j hj _=>by simp [hj]
        have hev2:∀ x∈o.op.operands,evA (T i) x=evA (putL (zbX ops c) v tm) x:=fun x hx=>by
          rw [<-hev x hx];cases x with
          | tmp tt =>
            simp only [evA];rw [zpj fun e=>?_];have:=(L.tmp i o tt ho (by omega) hx c (Nat.le_refl _) e).2
            omega
          | _=>rfl
        have hval:valA Try.prog (evA (T i)) h o.op=some (vs i):=by
          cases a4 with
          | val hv=>exact hv
          | prim f g args hca=>cases ho':o.op<;>rw [ho'] at hca hmove<;>first|(cases hmove;done)|(simp [zaL] at hca)
          | call f args hca=>cases ho':o.op<;>rw [ho'] at hca hmove<;>first|(cases hmove;done)|(simp [zaL] at hca)
        have hval1:valA Try.prog (evA (putL (zbX ops c) v tm)) h1 o.op=some (vs i):=by
          rw [<-zh5 (h0:=h1) hev2];cases ho':o.op<;>rw [ho'] at hval hmove<;>first|(cases hmove;done)|exact hval
        rw [heq];refine .plain (fun c'=>c'=.run (.inRegion ops (zdj ops fuel t' (l.setIfInBounds i true))::k) (putL o.dst (vs i) (putL (zbX ops c) v tm)) h1 S1) (Quiet.go (.val hval1) ho a2 a3 (.here rfl)) fun c' hc'=>?_;subst hc';rw [hd,zow fun x e1 e2=>by have:=L.dst i c x (by omega) (Nat.le_refl _) e1 e2;omega]
        have hsz:i<l.size:=by rw [hl];exact hi
        have hund:=zbV hun ops.size hi hsz;refine ih t' _ _ (by simpa using hl) (by omega) (hcl.add hsz ho hdep) ?_ (fun j hj hj2=>?_) ?_
        . rw [zbL hsz,hc];split<;>rfl
        . rw [zbL hsz,if_neg (by omega)];exact hnp j hj hj2
        . have:=hag.put L hic hunf;refine⟨this.len,fun j x hj hlj=>this.set j x hj ?_,fun x hx=>this.old x fun j hj hdj=>?_⟩
          . rw [zbL hsz] at hlj;by_cases e:j=i
            . simp [e]
            . rw [if_neg e] at hlj;simp [hlj]
          . have h3:=hx j hj hdj;rw [zbL hsz] at h3;by_cases e:j=i
            . rw [if_pos e] at h3;cases h3
            . rw [if_neg e] at h3;simp [h3,e]
theorem ztu (L:zjn ops c) (W:WalkT X ops h S c 0 vs T) (HC:zrW X Sp fn A ops k c h S γ (T c)) :
    ∀ (fuel t:Nat) (l:Array Bool) (tm:List Value),l.size=ops.size->zby l ops.size<=fuel->ClosedD ops l->l.getD c false=false->(∀ i,c<i->i<ops.size->l.getD i true=false)->Ag ops c vs (T 0) (fun j=>l.getD j false) tm->GE X Sp fn A (.run (.inRegion ops (zdj ops fuel t l)::k) tm h S) γ:=by
  intro fuel;have hlt:=L.lt
  induction fuel with
  | zero =>
    intro t l tm hl hu hcl hc hnp hag;have hall:=zcJ ops.size (Nat.le_zero.1 hu) c hlt;rw [zc7 (by rw [hl];exact hlt) true false,hc] at hall
    cases hall
  | succ fuel ih =>
    intro t l tm hl hu hcl hc hnp hag;rcases ziN L hl fuel t with ⟨_,h2⟩|⟨i,o,t',hi,ho,hun,hdep,heq⟩
    . have:=h2 c hlt;rw [zc7 (by rw [hl];exact hlt) true false,hc] at this
      cases this
    . have hunf:l.getD i false=false:=by rw [zc7 (by rw [hl];exact hi) false true];exact hun
      have hmask:=zcW (D:=fun x=>l.getD x false=true) hcl i o ho hdep;have hic:i<=c:=by
        apply Nat.le_of_not_lt;intro hlt2;have:=hmask c (L.post i o ho hlt2 c hlt2);rw [hc] at this;cases this
      have hd:o.dst=zbX ops i:=by simp [zbX,ho]
      have hsz:i<l.size:=by rw [hl];exact hi
      have hund:=zbV hun ops.size hi hsz;have hev:∀ x∈o.op.operands,evA (T i) x=evA tm x:=fun x hx=>(hag.ev L (W.ag L i (by omega)) ho hic hmask (fun j hj _=>by simp [hj]) x hx).symm
      rw [heq];rcases Nat.eq_or_lt_of_le hic with e|hic
      . subst e;obtain⟨o',f,args,Q,b1,b2,b3,b4,b5,b6⟩:=HC;rw [ho] at b1;cases b1;have hca:zaL Try.prog (evA tm) o.op=some (f,args):=(zeW hev).symm.trans b4;have hk:∀ v h1 S1 γ',Q v h1 S1 γ'->GE X Sp fn A (.run (.inRegion ops (zdj ops fuel t' (l.setIfInBounds i true))::k) (putL o.dst v tm) h1 S1) γ':=fun v h1 S1 γ' hq=>by
          rw [hd];refine zto L W (by rw [<-hd];exact b6 v h1 S1 γ' hq) fuel t' _ tm (by simpa using hl) (by omega) (hcl.add hsz ho hdep) ?_ (fun j hj hj2=>?_) ⟨hag.len,fun j x hj hlj=>hag.set j x hj ?_,fun x hx=>hag.old x fun j hj hdj=>?_⟩
          . rw [zbL hsz,if_pos rfl]
          . rw [zbL hsz,if_neg (by omega)];exact hnp j hj hj2
          . rw [zbL hsz,if_neg (by omega)] at hlj;exact hlj
          . have h3:=hx j hj hdj;rw [zbL hsz,if_neg (by omega)] at h3;exact h3
        rcases b5 with ⟨g,cd,c1,c2,c3,c4⟩|b5
        . exact .call f g cd args Q ho (zbU b2) b3 hca c1 c2 c3 c4 hk
        . exact .spec f args Q ho (zbU b2) b3 hca b5 hk
      . obtain⟨o',a1,a2,a3,a4,a5⟩:=W.step i (Nat.zero_le _) hic;rw [ho] at a1;cases a1;refine .plain (fun c'=>c'=.run (.inRegion ops (zdj ops fuel t' (l.setIfInBounds i true))::k) (putL o.dst (vs i) tm) h S) (Quiet.go (a4.congr hev) ho a2 a3 (.here rfl)) fun c' hc'=>?_;subst hc';rw [hd];refine ih t' _ _ (by simpa using hl) (by omega) (hcl.add hsz ho hdep) ?_ (fun j hj hj2=>?_) ?_
        . rw [zbL hsz,if_neg (by omega)];exact hc
        . rw [zbL hsz,if_neg (by omega)];exact hnp j hj hj2
        . have:=hag.put L hic hunf;refine⟨this.len,fun j x hj hlj=>this.set j x hj ?_,fun x hx=>this.old x fun j hj hdj=>?_⟩
          . rw [zbL hsz] at hlj;by_cases e:j=i
            . simp [e]
            . rw [if_neg e] at hlj;simp [hlj]
          . have h3:=hx j hj hdj;rw [zbL hsz] at h3;by_cases e:j=i
            . rw [if_pos e] at h3;cases h3
            . rw [if_neg e] at h3;simp [h3,e]
theorem Goes.drawC {id:Nat} {tmps:List Value} (c:Nat) (hB:zop ops c=true) (hk:PreW X ops h S (zrW X Sp fn A ops k c h S γ) c 0 tmps):Goes X fn (fun cf=>GE X Sp fn A cf γ) (.run (.code (.region id ops true)::k) tmps h S):=by
  have L:=zqX hB;obtain⟨_,vs,T,h0,W,HC⟩:=hk.rows;refine .here (GE.draws fun t=>?_);have e:Region.schedule (Try.prog.follows .mixedOrders) ops t=zdj ops ops.size t (Array.replicate ops.size false):=by
    simp only [Region.schedule,Try.mix,Bool.true_or,if_true];rfl
  have hrep:∀ i b,i<ops.size->(Array.replicate ops.size false).getD i b=false:=fun i b hi=>by simp [hi]
  have hrf:∀ i,(Array.replicate ops.size false).getD i false=false:=fun i=>by
    by_cases hi:i<ops.size
    . exact hrep i false hi
    . simp [hi]
  rw [e];refine ztu L W HC ops.size t _ tmps (by simp) (zjs _) (fun i o ho hi=>by (rw [hrf i] at hi;cases hi)) (hrf c) (fun i _ hi=>hrep i true hi) ?_
  rw [<-h0];exact⟨rfl,fun j x _ hj=>by (rw [hrf j] at hj;cases hj),fun _ _=>rfl⟩
variable {i:Nat} {tmps:List Value} {o:Oper} {Kf:List Value->Prop}
theorem qw1 (ho:ops.toList[i]?=some o) (hg:o.guard=none) (_:vB o.op=true) (hk:∀ K:List Value->AHeap->Prop,(∀ t h',PreW X ops h S Kf c (i+1) t->K t h')->OpK K o tmps h (valA Try.prog (evA tmps) h o.op)) (hb:opOK o.op=true:=by rfl) (hi:i<c:=by decide):PreW X ops h S Kf c i tmps:=by
  have:=hk (fun t _=>PreW X ops h S Kf c (i+1) t) fun _ _ h=>h;cases hv:valA Try.prog (evA tmps) h o.op with
  | none=>rw [hv] at this;exact this.elim
  | some v=>rw [hv] at this;exact .op hi (zaZ ho) hg (zaX hb) (.val hv) this
theorem qwp (ho:ops.toList[i]?=some o) (hg:o.guard=none)
    (hk:∀ K:List Value->St->Prop,(∀ t,PreW X ops h S Kf c (i+1) t->K t S)->zdL (fun f args=>fnOK Try.prog f=true/\∃ v S',X.prim f args S v S'/\K (putL o.dst v tmps) S') (zaL Try.prog (evA tmps) o.op)) (hb:opOK o.op=true:=by rfl) (hi:i<c:=by decide):PreW X ops h S Kf c i tmps:=by
  have:=hk (fun t S'=>S'=S/\PreW X ops h S Kf c (i+1) t) fun _ h=>⟨rfl,h⟩;cases hv:zaL Try.prog (evA tmps) o.op with
  | none=>rw [hv] at this;exact this.elim
  | some x =>
    obtain⟨f,args⟩:=x;rw [hv] at this;obtain⟨hf,v,S',h1,rfl,h3⟩:=this;obtain⟨g,g1,g2⟩:=zhz hf;exact .op hi (zaZ ho) hg (zaX hb) (.prim f g args hv g1 g2 h1) h3
theorem qwc (ho:ops.toList[i]?=some o) (hg:o.guard=none)
    (hk:∀ K:List Value->St->Prop,(∀ t,PreW X ops h S Kf c (i+1) t->K t S)->zdL (fun f args=>∃ v S',Does X f args [] S v S'/\K (putL o.dst v tmps) S') (zaL Try.prog (evA tmps) o.op)) (hb:opOK o.op=true:=by rfl) (hi:i<c:=by decide):PreW X ops h S Kf c i tmps:=by
  have:=hk (fun t S'=>S'=S/\PreW X ops h S Kf c (i+1) t) fun _ h=>⟨rfl,h⟩;cases hv:zaL Try.prog (evA tmps) o.op with
  | none=>rw [hv] at this;exact this.elim
  | some x =>
    obtain⟨f,args⟩:=x;rw [hv] at this;obtain⟨v,S',h1,rfl,h3⟩:=this;exact .op hi (zaZ ho) hg (zaX hb) (.call f args hv h1) h3
theorem qg2 (ho:ops.toList[c]?=some o) (hg:o.guard=none)
    (hk:∀ K:List Value->AHeap->St->Γ × St->Prop,(∀ t h1 S1 γ',At X fn (fun cf=>GE X Sp fn A cf γ') ops k (c+1) t h1 S1->K t h1 S1 γ')->zdL (fun f args=>Runs X Sp f args h S γ (fun v h1 S1 γ'=>K (putL o.dst v tmps) h1 S1 γ')) (zaL Try.prog (evA tmps) o.op)) (hb:opOK o.op=true:=by rfl) :
    PreW X ops h S (zrW X Sp fn A ops k c h S γ) c c tmps:=by
  refine .nil ?_;have:=hk _ fun _ _ _ _ h=>h;cases hv:zaL Try.prog (evA tmps) o.op with
  | none=>rw [hv] at this;exact this.elim
  | some x =>
    obtain⟨f,args⟩:=x;rw [hv] at this;exact⟨o,f,args,_,zaZ ho,hg,zaX hb,hv,.inl this,fun _ _ _ _ hq=>hq⟩
end
def LS.w:LS->Nat
  | .tri j=>5+(2 - j)
  | .addc=>4
  | .loade=>3
  | .subc=>2
  | _=>1
def zbE (k:Nat) (p:LP):Nat:=8 * (k - 1 - p.x)+p.s.w
def zk2 (n:Nat) (p:LP):Acc4:=match p.s with
  | .tri _=>(3,gat 1 n 0 0,0,zaS p.i)
  | .addc=>(4,gat 1 n 2 0,1,0)
  | .loade=>(1,gat 1 n 1 0,0,0)
  | .subc=>(4,gat 1 n 2 0,18446744073709551615,0)
  | .drop=>(3,gat 1 n 0 0,zaS p.i,0)
  | .fin=>(1,0,0,0)
def zrt (n k a b c d i:Nat) (p:LP) (v:UInt64) (W:Nat->Nat->UInt64) (got:Nat) (ps:List (Option LP)) (l:List (Option Blk)):Prop:=match p.s with
  | .tri j=>(v=1/\LkI n k a b c d W got (ps.set i (some { p with s:=.addc })) l)\/(v=0/\LkI n k a b c d W got (ps.set i (some { p with s:=.tri (j+1) })) l)
  | .addc=>v=0/\LkI n k a b c d W got (ps.set i (some { p with s:=.loade })) l
  | .loade=>LkI n k a b c d W got (ps.set i (some { p with s:=.subc })) l
  | .subc=>LkI n k a b c d W got (ps.set i (some { p with s:=.drop })) l
  | .drop=>v=1/\LkI n k a b c d W got (ps.set i (some { p with s:=.fin })) l
  | .fin=>True
def zeN (n k a b c d:Nat):Sys Unit LP where
  acc:=zk2 n
  most:=8 * k
  rank _ p:=zbE k p
  hot x:=x.elem==3 && !x.ro
  inv _ ws _ ps l:=∃ W got,Wd 1 n ws W/\LkI n k a b c d W got ps l
  born i _ ws _ ps l:=∃ ps0 W got,ps=ps0++[none]/\ps0.length=i/\Wd 1 n ws W/\LkI n k a b c d W got ps0 l
  run i p v R _ ws _ ps l:=R=zbE k p/\∃ W got,Wd 1 n ws W/\zrt n k a b c d i p v W got ps l
theorem gsz0 (n:Nat):0<gsz 1 n 0:=by simp [gsz]
theorem gsz1 (n:Nat):0<gsz 1 n 1:=by simp [gsz]
theorem gsz2 (n:Nat):0<gsz 1 n 2:=by simp [gsz]
theorem zjy {n:Int} {A B:UInt64} {ws:List UInt64} {bs:List UInt8}:zg6 (1,n,A,B) ws bs=wT 1 n A ws:=rfl
theorem zmS {n:Int} {A B:UInt64} {ws:List UInt64}:wdsQ (1,n,A,B) ws=wS 1 n A B ws:=rfl
theorem zjw {n:Int} {A B:UInt64} {ws:List UInt64} {bs:List UInt8}:zg6 (3,n,A,B) ws bs=wT 3 n A ws:=rfl
theorem zom {n:Int} {A B:UInt64} {ws:List UInt64}:wdsQ (3,n,A,B) ws=wS 3 n A B ws:=rfl
theorem zja {n:Int} {A B:UInt64} {ws:List UInt64} {bs:List UInt8}:zg6 (4,n,A,B) ws bs=wT 4 n A ws:=rfl
theorem znx {n:Int} {A B:UInt64} {ws:List UInt64}:wdsQ (4,n,A,B) ws=wS 4 n A B ws:=rfl
theorem zr6 {c:Nat} {n:Int} {A x:UInt64} {ws:List UInt64} (h:wAt ws n=some x):wT c n A ws=zgo c x A:=by unfold wT;rw [h]
theorem lkOk {n k a b c d:Nat} (hn:n<=100) (hk:0<k):(zeN n k a b c d).Ok where
  acc p:=by
    show 1<=(zk2 n p).1/\(zk2 n p).1<=6;unfold zk2;cases p.s<;>simp
  hot x hx:=by
    have hx:(x.elem==3 && !x.ro)=true:=hx;rw [Bool.and_eq_true] at hx;unfold zei;rw [eq_of_beq hx.1];rfl
  rank {g ws bs ps l i p} H hi:=by
    obtain⟨W,got,_,H⟩:=H;have hx:=(H.idx i p hi).2;show 1<=zbE k p/\zbE k p<=8 * k;unfold zbE LS.w;cases p.s<;>simp only []<;>omega
  rows {g ws bs ps l l'} H h:=by
    obtain⟨W,got,hW,H⟩:=H;exact⟨W,got,hW,H.rows h⟩
  birth {g ws bs ps l} H:=by
    obtain⟨W,got,hW,H⟩:=H;exact⟨(),ps,W,got,rfl,rfl,hW,H⟩
  grant {g ws bs ps l i p} H hi:=by
    obtain⟨W,got,hW,H⟩:=H;obtain⟨hpi,hpx⟩:=H.idx i p hi;have hil:=(List.getElem?_eq_some_iff.1 hi).1;have hlen:=H.len;refine⟨(),rfl,?_⟩;have w0:wAt ws (gat 1 n 0 0)=some (W 0 0):=hW 0 0 (by decide) (gsz0 n)
    have w2:wAt ws (gat 1 n 2 0)=some (W 2 0):=hW 2 0 (by decide) (gsz2 n)
    have hcnt:p.s.hold=true->W 0 0=zaS i/\W 2 0=p.s.cnt:=fun hh=>by
      rcases H.lk with ⟨l1,l2,l3⟩|⟨i',p',l1,l2,l3,l4,l5⟩
      . rw [l3 i p hi] at hh;cases hh
      . obtain rfl:=l5 i p hi hh;rw [hi] at l1;cases l1;exact⟨l3,l4⟩
    show ∃ W got,Wd 1 n (wdsQ (zk2 n p) ws) W/\zrt n k a b c d i p (zg6 (zk2 n p) ws bs) W got ps l;unfold zk2 zrt;cases hs:p.s with
    | tri j =>
      (try simp only [])
      simp only [zjy,zmS,zjw,zom,zja,znx];refine⟨_,got,hW.put (Nat.le_refl 1) (by decide) (gsz0 n) 3 0 (zaS p.i),?_⟩
      simp only [zr6 w0];by_cases h0:W 0 0=0
      . exact .inl ⟨by simp [zgo,h0],H.hit hi hs h0 (by rw [zhY];simp [kNow,h0,hpi]) (zla (by decide)) hn⟩
      . have hother:∃ (i':Nat) (p':LP),ps[i']?=some (some p')/\i'≠i/\p'.s.hold=true:=by
          rcases H.lk with ⟨l1,_⟩|⟨i',p',l1,l2,l3,l4,l5⟩
          . exact absurd l1 h0
          . refine⟨i',p',l1,fun e=>?_,l2⟩;subst e;rw [hi] at l1;cases l1;rw [hs] at l2;cases l2
        refine .inr ⟨by simp [zgo,h0],H.move hi (by rw [hs];rfl) (by rw [zhY];simp [kNow,h0]) (fun h=>by rw [hs] at h;cases h) (fun _=>zla (by decide)) (by rw [hs];rfl) (fun h1=>?_) (fun _=>?_)⟩
        . obtain⟨i',p',g1,g2,_⟩:=hother;have:=(List.getElem?_eq_some_iff.1 g1).1;omega
        . obtain⟨i',p',g1,g2,g3⟩:=hother;exact .inr ⟨i',p',g1,g2,.inl g3⟩
    | addc =>
      (try simp only [])
      simp only [zjy,zmS,zjw,zom,zja,znx];have h2:=(hcnt (by rw [hs];rfl)).2
      rw [hs] at h2;have h2:W 2 0=0:=h2;refine⟨_,got,hW.put (Nat.le_refl 1) (by decide) (gsz2 n) 4 1 0,?_⟩
      simp only [zr6 w2];exact⟨by simp [zgo,h2],H.move hi (by rw [hs];rfl) (zla (by decide)) (fun _=>by rw [zhY];simp [kNow,h2,LS.cnt]) (fun h=>by rw [hs] at h;cases h) (by rw [hs];rfl) (fun _ j h=>by cases h) (fun h=>by rw [hs] at h;cases h)⟩
    | loade =>
      (try simp only [])
      simp only [zjy,zmS,zjw,zom,zja,znx];refine⟨_,got,hW.put (Nat.le_refl 1) (by decide) (gsz1 n) 1 0 0,?_⟩
      have h2:=(hcnt (by rw [hs];rfl)).2
      rw [hs] at h2;exact H.move hi (by rw [hs];rfl) (zla (by decide)) (fun _=>(zla (by decide)).trans h2) (fun h=>by rw [hs] at h;cases h) (by rw [hs];rfl) (fun _ j h=>by cases h) (fun h=>by rw [hs] at h;cases h)
    | subc =>
      (try simp only [])
      simp only [zjy,zmS,zjw,zom,zja,znx];have h2:=(hcnt (by rw [hs];rfl)).2
      rw [hs] at h2;have h2:W 2 0=1:=h2;refine⟨_,got,hW.put (Nat.le_refl 1) (by decide) (gsz2 n) 4 18446744073709551615 0,?_⟩
      exact H.move hi (by rw [hs];rfl) (zla (by decide)) (fun _=>by rw [zhY,h2];rfl) (fun h=>by rw [hs] at h;cases h) (by rw [hs];rfl) (fun _ j h=>by cases h) (fun h=>by rw [hs] at h;cases h)
    | drop =>
      (try simp only [])
      simp only [zjy,zmS,zjw,zom,zja,znx];have h0:=(hcnt (by rw [hs];rfl)).1
      refine⟨_,got,hW.put (Nat.le_refl 1) (by decide) (gsz0 n) 3 (zaS p.i) 0,?_⟩
      simp only [zr6 w0];exact⟨by simp [zgo,h0,hpi],H.leave hi hs (by rw [zhY];simp [kNow,h0,hpi]) (zla (by decide))⟩
    | fin =>
      (try simp only [])
      simp only [zmS];refine⟨W,got,?_,trivial⟩;rw [zf2];exact hW
theorem wclo {n k:Nat} {S:St} (h:k<S.length):Clo (Kn n (OF.cnt S)) (.iface 73 (hndV k)):=by
  intro F F' hs;have:=hs (VB+k) (.inr ⟨by omega,by show VB+k<VB+S.length;omega⟩)
  simp [hndV,adr,this.1,this.2.1]
theorem zlh (S:St) (hp:Nat) (me st:Nat) (ask gr qt:Nat) (h:S[hp]?=some (.wp (me:Int) st ask gr qt)) :
    Does OF 20 #[.iface 73 (hndV hp)] [] S (.int .u64 ((zaS me).toNat:Int)) S:=by
  rw [<-zhX];refine Does.mk Try.func20 rfl rfl ?clo ?hand ?_
  case clo=>exact clo1 (wclo (zjN h))
  case hand=>exact Hand.plain rfl
  rw [Try.ntmps20];simp only [List.size_toArray,List.length_cons,List.length_nil,List.replicate,List.cons_append,List.nil_append];refine via ?_;((first|refine qp1 rfl rfl fun K hK=>?_|refine qp3 rfl rfl fun K hK=>?_);simp (disch:=(first|omega|(simp only [sz]<;>omega)|fail)) only [go_sem];(first|refine⟨_,_,.wself h,?_⟩|refine⟨_,_,.com (.wself h),?_⟩);(try simp only [go_sem]);with_reducible refine hK _ _ ?_;clear hK K)
  refine via ?_;exact Goes.fin rfl rfl rfl
section
variable {n k a b c d:Nat}
set_option maxRecDepth 10000 in
theorem zmc (hn:n<=64) {i kk hp st R:Nat} {γ:PG Unit LP × St} {l:List (Option Blk)} {q bb:Nat} {S:St} {ws:List UInt64} {bs:List UInt8} (H:BH (zeN n k a b c d) 0 i kk hp (i:Int) st R γ l q bb S ws bs) (hb:10<=bb) {x:Nat} {W:Nat->Nat->UInt64} {got:Nat} (hW:Wd 1 n ws W) (hL:LkI n k a b c d W got (γ.1.ps.set i (some ⟨i,x,.tri 0⟩)) l) (hR:zbE k ⟨i,x,.tri 0⟩<R) {Q:Value->AHeap->St->PG Unit LP × St->Prop}
    (hQ:∀ (ok:Bool) (st' R':Nat) (γ':PG Unit LP × St) (l':List (Option Blk)) (q':Nat) (S':St) (ws':List UInt64) (bs':List UInt8) (W':Nat->Nat->UInt64) (got':Nat),BH (zeN n k a b c d) 0 i kk hp (i:Int) st' R' γ' l' q' 1000 S' ws' bs'->Wd 1 n ws' W'->LkI n k a b c d W' got' (γ'.1.ps.set i (some ⟨i,x,if ok then .addc else .tri 3⟩)) l'->zbE k ⟨i,x,.tri 2⟩<=R'->Q (.bool ok) (zaH l' q' []) S' γ') :
    Runs OF (SpB ((zeN n k a b c d).pr 0) kk hp) 7 #[.iface 73 (hndV hp),.agg (geoC 1 n)] (zaH l q []) S γ Q:=by
  have hq:=H.qle;refine Runs.mk Try.func7 rfl rfl ?_;rw [Try.ntmps7];simp only [List.size_toArray,List.length_cons,List.length_nil,List.replicate,List.cons_append,List.nil_append];refine via ?_;refine Goes.folds H.ll fun lf hlen hge hrow=>?_;have hrow0:lf[q]?=some (some (lkG n)):=hrow 0;simp only [List.length_cons,List.length_nil,Nat.zero_add] at hlen ⊢;refine GE.wh (fun z tmps h S γ=>∃ (j st R:Nat) (l:List (Option Blk)) (q2:Nat) (ws:List UInt64) (bs:List UInt8) (W:Nat->Nat->UInt64) (got:Nat),z=3 - j/\j<=3/\h=zaH l q2 []/\BH (zeN n k a b c d) 0 i kk hp (i:Int) st R γ l q2 (if j=0 then bb - 1 else 1000) S ws bs/\Wd 1 n ws W/\LkI n k a b c d W got (γ.1.ps.set i (some ⟨i,x,.tri j⟩)) l/\(j<3->zbE k ⟨i,x,.tri j⟩<R)/\(j=3->zbE k ⟨i,x,.tri 2⟩<=R)/\l[q]?=some (some (lkG n))/\tmps.length=17 /\
      tmps.getD 0 undef=.iface 73 (hndV hp)/\tmps.getD 3 undef=.pointer (some ⟨q,0,none⟩)/\tmps.getD 5 undef=.int .i64 (j:Int)) (m:=3)
    ⟨0,st,R,lf,q+1,ws,bs,W,got,rfl,by decide,rfl,H.ge hge (Nat.le_of_eq hlen) (d:=1) (Nat.le_refl _) (by omega),hW,hL.rows fun y z h _=>hge y z h,fun _=>hR,fun h=>(by cases h),hrow0,rfl,rfl,rfl,rfl⟩ ?_
  rintro z tmps h S γ ih ⟨j,st,R,l,q2,ws,bs,W,got,rfl,hj,rfl,H,hW,hL,hR,hR3,hg,hl,f0,f3,f5⟩;have hq2:q2<=500000000:=by have:=H.qle;omega
  have hql:q<q2:=Nat.lt_of_lt_of_le (List.getElem?_eq_some_iff.1 hg).1 H.ll;obtain⟨V,hV,hT⟩:=zcV hl;replace hT:_=([V 0,V 1,V 2,V 3,V 4,V 5,V 6,V 7,V 8,V 9,V 10,V 11,V 12,V 13,V 14,V 15,V 16]:List Value):=hT;rw [hV] at f0 f3 f5;subst hT;simp only [f0,f3,f5];clear hV hl;have hlt:=H.hk;by_cases hj3:j<3
  case neg =>
    obtain rfl:j=3:=by omega
    refine viaD ?_;refine Goes.retG rfl (by simp (disch:=(first|omega|(simp only [zaa,List.length_cons,List.length_nil,List.size_toArray,zae]<;>omega)|fail)) only [go_sem,resA,zaJ,Try.results7]<;>rfl) ?_
    exact hQ false st R γ l q2 S ws bs W got H hW hL (hR3 rfl)
  refine viaD ?_;refine Goes.drawC 8 (by kernel_rfl) ?_
  repeat (refine qw1 rfl rfl rfl fun K hK=>?_;simp (disch:=(first|omega|(simp only [sz]<;>omega)|fail)) only [go_sem,hg];with_reducible refine hK _ _ ?_;clear hK K)
  (refine qwp rfl rfl fun K hK=>?_;simp (disch:=(first|omega|(simp only [sz]<;>omega)|fail)) only [go_sem];(first|refine⟨_,_,(qpd fun w=>zak 1 n w (by decide) hn),?_⟩|refine⟨_,_,(qpu fun w=>zak 1 n w (by decide) hn),?_⟩|refine⟨_,_,.com (qpd fun w=>zak 1 n w (by decide) hn),?_⟩|refine⟨_,_,.com (qpu fun w=>zak 1 n w (by decide) hn),?_⟩);(try simp only [go_sem]);with_reducible refine hK _ ?_;clear hK K)
  repeat (refine qw1 rfl rfl rfl fun K hK=>?_;simp (disch:=(first|omega|(simp only [sz]<;>omega)|fail)) only [go_sem,hg];with_reducible refine hK _ _ ?_;clear hK K)
  obtain⟨ask,gr,qt,hwp⟩:=H.hwp;(refine qwc rfl rfl fun K hK=>?_;simp (disch:=(first|omega|(simp only [sz]<;>omega)|fail)) only [go_sem];(first|refine⟨_,_,zlh _ hp i st ask gr qt hwp,?_⟩|refine⟨_,_,Does.com (zlh _ hp i st ask gr qt hwp),?_⟩);(try simp only [go_sem]);with_reducible refine hK _ ?_;clear hK K)
  repeat (refine qw1 rfl rfl rfl fun K hK=>?_;simp (disch:=(first|omega|(simp only [sz]<;>omega)|fail)) only [go_sem];with_reducible refine hK _ _ ?_;clear hK K)
  (refine qg2 rfl rfl fun K hK=>?_;simp (disch:=(first|omega|(simp only [sz]<;>omega)|fail)) only [go_sem]);refine zrd (H.ask ⟨i,x,.tri j⟩ [(q,lkG n)] () rfl (Fr.cons hg Fr.nil) (fun y hy=>by simp at hy;subst hy;exact⟨rfl,rfl⟩) ⟨W,got,hW,hL⟩ (hR hj3) fun v γ2 l2 q3 S2 ws2 bs2 R2 H2 hfr hps hqq hrun=>?_);obtain⟨rfl,W2,got2,hW2,hrun⟩:=hrun
  have hg2:l2[q]?=some (some (lkG n)):=hfr (q,lkG n) (by simp)
  have hrun:(v=1/\LkI n k a b c d W2 got2 (γ2.1.ps.set i (some ⟨i,x,.addc⟩)) l2)\/(v=0/\LkI n k a b c d W2 got2 (γ2.1.ps.set i (some ⟨i,x,.tri (j+1)⟩)) l2):=hrun;have hle:zbE k ⟨i,x,.tri 2⟩<=zbE k ⟨i,x,.tri j⟩:=by unfold zbE LS.w;simp only [];omega
  rcases hrun with ⟨rfl,hL2⟩|⟨rfl,hL2⟩
  . have e1:((1:UInt64) != 0)=true:=rfl;simp only [e1]
    ((try simp only [go_sem]);with_reducible refine hK _ _ _ _ ?_;clear hK K)
    refine viaD ?_;refine Goes.retG rfl (by simp (disch:=(first|omega|(simp only [zaa,List.length_cons,List.length_nil,List.size_toArray,zae]<;>omega)|fail)) only [go_sem,resA,zaJ,Try.results7]<;>rfl) ?_
    exact hQ true _ _ γ2 l2 q3 S2 ws2 bs2 W2 got2 H2 hW2 hL2 hle
  . have e1:((0:UInt64) != 0)=false:=rfl;simp only [e1]
    ((try simp only [go_sem]);with_reducible refine hK _ _ _ _ ?_;clear hK K)
    refine viaD ?_;refine Goes.again (ih (3 - (j+1)) _ _ _ _ (by omega) ⟨j+1,st+1,_,l2,q3,ws2,bs2,W2,got2,rfl,by omega,rfl,by rw [if_neg (by omega)];exact H2,hW2,hL2,fun h=>by unfold zbE LS.w;simp only [];omega,fun _=>hle,hg2,rfl,rfl,rfl,by push_cast;rfl⟩)
set_option maxRecDepth 10000 in
theorem zkf (hn:n<=64) {i kk hp st R:Nat} {γ:PG Unit LP × St} {l:List (Option Blk)} {q bb:Nat} {S:St} {ws:List UInt64} {bs:List UInt8} (H:BH (zeN n k a b c d) 0 i kk hp (i:Int) st R γ l q bb S ws bs) (hb:10<=bb) {x:Nat} {W:Nat->Nat->UInt64} {got:Nat} (hW:Wd 1 n ws W) (hL:LkI n k a b c d W got (γ.1.ps.set i (some ⟨i,x,.drop⟩)) l) (hR:zbE k ⟨i,x,.drop⟩<R) {Q:Value->AHeap->St->PG Unit LP × St->Prop}
    (hQ:∀ (st':Nat) (γ':PG Unit LP × St) (l':List (Option Blk)) (q':Nat) (S':St) (ws':List UInt64) (bs':List UInt8) (W':Nat->Nat->UInt64) (got':Nat),BH (zeN n k a b c d) 0 i kk hp (i:Int) st' (zbE k ⟨i,x,.drop⟩) γ' l' q' 1000 S' ws' bs'->Wd 1 n ws' W'->LkI n k a b c d W' got' (γ'.1.ps.set i (some ⟨i,x,.fin⟩)) l'->Q (.bool true) (zaH l' q' []) S' γ') :
    Runs OF (SpB ((zeN n k a b c d).pr 0) kk hp) 10 #[.iface 73 (hndV hp),.agg (geoC 1 n)] (zaH l q []) S γ Q:=by
  have hq:=H.qle;refine Runs.mk Try.func10 rfl rfl ?_;rw [Try.ntmps10];simp only [List.size_toArray,List.length_cons,List.length_nil,List.replicate,List.cons_append,List.nil_append];refine viaD ?_;refine Goes.folds H.ll fun lf hlen hge hrow=>?_;have hg:lf[q]?=some (some (lkG n)):=hrow 0;simp only [List.length_cons,List.length_nil,Nat.zero_add] at hlen ⊢;replace H:=H.ge hge (Nat.le_of_eq hlen) (d:=1) (Nat.le_refl _) (by omega)
  replace hL:=hL.rows fun y z h _=>hge y z h;refine Goes.drawC 8 (by kernel_rfl) ?_
  repeat (refine qw1 rfl rfl rfl fun K hK=>?_;simp (disch:=(first|omega|(simp only [sz]<;>omega)|fail)) only [go_sem,hg];with_reducible refine hK _ _ ?_;clear hK K)
  (refine qwp rfl rfl fun K hK=>?_;simp (disch:=(first|omega|(simp only [sz]<;>omega)|fail)) only [go_sem];(first|refine⟨_,_,(qpd fun w=>zak 1 n w (by decide) hn),?_⟩|refine⟨_,_,(qpu fun w=>zak 1 n w (by decide) hn),?_⟩|refine⟨_,_,.com (qpd fun w=>zak 1 n w (by decide) hn),?_⟩|refine⟨_,_,.com (qpu fun w=>zak 1 n w (by decide) hn),?_⟩);(try simp only [go_sem]);with_reducible refine hK _ ?_;clear hK K)
  repeat (refine qw1 rfl rfl rfl fun K hK=>?_;simp (disch:=(first|omega|(simp only [sz]<;>omega)|fail)) only [go_sem,hg];with_reducible refine hK _ _ ?_;clear hK K)
  obtain⟨ask,gr,qt,hwp⟩:=H.hwp;(refine qwc rfl rfl fun K hK=>?_;simp (disch:=(first|omega|(simp only [sz]<;>omega)|fail)) only [go_sem];(first|refine⟨_,_,zlh _ hp i st ask gr qt hwp,?_⟩|refine⟨_,_,Does.com (zlh _ hp i st ask gr qt hwp),?_⟩);(try simp only [go_sem]);with_reducible refine hK _ ?_;clear hK K)
  repeat (refine qw1 rfl rfl rfl fun K hK=>?_;simp (disch:=(first|omega|(simp only [sz]<;>omega)|fail)) only [go_sem];with_reducible refine hK _ _ ?_;clear hK K)
  (refine qg2 rfl rfl fun K hK=>?_;simp (disch:=(first|omega|(simp only [sz]<;>omega)|fail)) only [go_sem]);refine zrd (H.ask ⟨i,x,.drop⟩ [] () rfl Fr.nil (fun y hy=>by cases hy) ⟨W,got,hW,hL⟩ hR fun v γ2 l2 q3 S2 ws2 bs2 R2 H2 hfr hps hqq hrun=>?_);obtain⟨rfl,W2,got2,hW2,hrun⟩:=hrun
  obtain⟨rfl,hL2⟩:v=1/\LkI n k a b c d W2 got2 (γ2.1.ps.set i (some ⟨i,x,.fin⟩)) l2:=hrun;have e1:((1:UInt64) != 0)=true:=rfl;simp only [e1]
  ((try simp only [go_sem]);with_reducible refine hK _ _ _ _ ?_;clear hK K)
  refine viaD ?_;refine Goes.retG rfl (by simp (disch:=(first|omega|(simp only [zaa,List.length_cons,List.length_nil,List.size_toArray,zae]<;>omega)|fail)) only [go_sem,resA,zaJ,Try.results10]<;>rfl) ?_
  exact hQ _ γ2 l2 q3 S2 ws2 bs2 W2 got2 H2 hW2 hL2
end
section
variable {n k a b c d:Nat}
theorem zr4 {k:Nat} {p p':LP} (hx:p.x=p'.x) (h:p.s.w<p'.s.w):zbE k p<zbE k p':=by unfold zbE;rw [hx];omega
def lkNx (i k x:Nat):Option LP:=if x<k then some ⟨i,x,.tri 0⟩ else none
theorem zjB {i k x:Nat} (h:x<k):(x+1<k/\lkNx i k (x+1)=some ⟨i,x+1,.tri 0⟩)\/(x+1=k/\lkNx i k (x+1)=none):=by
  unfold lkNx;by_cases e:x+1<k
  . exact .inl ⟨e,if_pos e⟩
  . exact .inr ⟨by omega,if_neg e⟩
set_option maxRecDepth 20000 in
theorem ztp (hn:n<=64) (hk:0<k) (hk3:k<=3) {i kk hp:Nat} {γ:PG Unit LP × St} {l:List (Option Blk)} {q:Nat} {S:St} {ws:List UInt64} {bs:List UInt8} (hin:i<n) (H:BH (zeN n k a b c d) 0 i kk hp (i:Int) 0 ((zeN n k a b c d).most+1) γ l q 1000 S ws bs) (hlen:γ.1.ps.length=i+1) (hnone:γ.1.ps[i]?=some none) (hborn:(zeN n k a b c d).born i γ.1.g ws bs γ.1.ps l) :
    zfw ((zeN n k a b c d).pr 0) kk hp 6 #[] #[.pointer (some ⟨a,0,none⟩),.pointer (some ⟨b,0,none⟩),.pointer (some ⟨c,0,none⟩),.pointer (some ⟨d,0,none⟩)] (zaH l q []) S γ.1:=by
  refine⟨Try.f6,_,Try.func6,rfl,rfl,GE.go ?_⟩;show Goes OF _ _ (.run [.code _] ((#[Value.iface 73 (hndV hp),.pointer (some ⟨a,0,none⟩),.pointer (some ⟨b,0,none⟩),.pointer (some ⟨c,0,none⟩),.pointer (some ⟨d,0,none⟩)]:Array Value).toList++List.replicate (Try.f6.ntmps - (#[Value.iface 73 (hndV hp),.pointer (some ⟨a,0,none⟩),.pointer (some ⟨b,0,none⟩),.pointer (some ⟨c,0,none⟩),.pointer (some ⟨d,0,none⟩)]:Array Value).size) undef) _ _);obtain⟨ps0,W,got,hps0,hl0,hW,hL⟩:=hborn;have hL0:LkI n k a b c d W got (γ.1.ps.set i (lkNx i k 0)) l:=by
    have e:γ.1.ps.set i (lkNx i k 0)=ps0++[some ⟨ps0.length,0,.tri 0⟩]:=by
      rw [hps0,show lkNx i k 0=some ⟨i,0,.tri 0⟩ from if_pos hk,<-hl0,List.set_append_right _ _ (Nat.le_refl _),Nat.sub_self];rfl
    rw [e];exact hL.begin hk (by omega)
  have hγS:(γ.1,S)=γ:=by
    have:=H.hS;obtain⟨γ1,γ2⟩:=γ;cases this;rfl
  rw [hγS];clear hps0 hl0 hL hnone hlen;rw [Try.ntmps6];simp only [List.size_toArray,List.length_cons,List.length_nil,List.replicate,List.cons_append,List.nil_append];refine viaD ?_;refine GE.wh (fun z tmps h S γ=>∃ (x st R:Nat) (l:List (Option Blk)) (q:Nat) (ws:List UInt64) (bs:List UInt8) (W:Nat->Nat->UInt64) (got:Nat),z=k - x/\x<=k/\h=zaH l q []/\BH (zeN n k a b c d) 0 i kk hp (i:Int) st R γ l q 900 S ws bs/\Wd 1 n ws W/\LkI n k a b c d W got (γ.1.ps.set i (lkNx i k x)) l/\(x<k->zbE k ⟨i,x,.tri 0⟩<R)/\tmps.length=48 /\
      tmps.getD 0 undef=.iface 73 (hndV hp)/\tmps.getD 1 undef=.pointer (some ⟨a,0,none⟩)/\tmps.getD 2 undef=.pointer (some ⟨b,0,none⟩)/\tmps.getD 3 undef=.pointer (some ⟨c,0,none⟩)/\tmps.getD 4 undef=.pointer (some ⟨d,0,none⟩)/\tmps.getD 6 undef=.int .i64 (x:Int)) (m:=k)
    ⟨0,0,_,l,q,ws,bs,W,got,rfl,by omega,rfl,H.less (by decide),hW,hL0,fun _=>by show zbE k _<8 * k+1;unfold zbE LS.w;simp only [];omega,rfl,rfl,rfl,rfl,rfl,rfl,rfl⟩ ?_
  clear H hW hL0;rintro z tmps h S γ ih ⟨x,st,R,l,q,ws,bs,W,got,rfl,hx,rfl,H,hW,hL,hR,hl,f0,f1,f2,f3,f4,f6⟩;have hq:=H.qle;obtain⟨V,hV,hT⟩:=zcV hl;replace hT:_=([V 0,V 1,V 2,V 3,V 4,V 5,V 6,V 7,V 8,V 9,V 10,V 11,V 12,V 13,V 14,V 15,V 16,V 17,V 18,V 19,V 20,V 21,V 22,V 23,V 24,V 25,V 26,V 27,V 28,V 29,V 30,V 31,V 32,V 33,V 34,V 35,V 36,V 37,V 38,V 39,V 40,V 41,V 42,V 43,V 44,V 45,V 46,V 47]:List Value):=hT;rw [hV] at f0 f1 f2 f3 f4 f6;subst hT;simp only [f0,f1,f2,f3,f4,f6];clear hV hl;have ga:=hL.ga;have gb:=hL.gb;have la:a<q:=Nat.lt_of_lt_of_le (List.getElem?_eq_some_iff.1 ga).1 H.ll;have lb:b<q:=Nat.lt_of_lt_of_le (List.getElem?_eq_some_iff.1 gb).1 H.ll;by_cases hxk:x<k
  case neg =>
    obtain rfl:x=k:=by omega
    refine znP ga ?_;refine Goes.endG rfl (by simp (disch:=(first|omega|(simp only [zaa,List.length_cons,List.length_nil,List.size_toArray,zae]<;>omega)|fail)) only [go_sem,resA,zaJ,Try.results6]<;>rfl) ?_
    refine⟨_,_,_,rfl,H.over () ⟨W,got,hW,?_⟩⟩;rw [show (none:Option LP)=lkNx i x x from (if_neg (Nat.lt_irrefl x)).symm]
    exact hL
  rw [show lkNx i k x=some ⟨i,x,.tri 0⟩ from if_pos hxk] at hL
  refine znP (And.intro ga gb) ?_;(refine qg1 rfl rfl fun K hK=>?_;simp (disch:=(first|omega|(simp only [sz]<;>omega)|fail)) only [go_sem])
  refine zmc hn H (by decide) hW hL (hR hxk) fun ok st2 R2 γ2 l2 q2 S2 ws2 bs2 W2 got2 H2 hW2 hL2 hR2=>?_
  ((try simp only [go_sem]);with_reducible refine hK _ _ _ _ ?_;clear hK K)
  have hi2:=H2.lt;cases ok with
  | false =>
    refine viaD ?_;have hne:n≠1/\(0<got2\/∃ (i':Nat) (p':LP),(γ2.1.ps.set i (some ⟨i,x,.tri 3⟩))[i']?=some (some p')/\i'≠i/\(p'.s.hold=true\/p'.s.isFin=true)):=by
      have hi3:(γ2.1.ps.set i (some (⟨i,x,.tri 3⟩:LP)))[i]?=some (some ⟨i,x,.tri 3⟩):=List.getElem?_set_self hi2;have hL2:LkI n k a b c d W2 got2 (γ2.1.ps.set i (some ⟨i,x,.tri 3⟩)) l2:=hL2;refine⟨fun h1=>?_,?_⟩
      . have:=(hL2.solo h1).2 i _ 3 hi3 rfl;cases this
      . rcases hL2.ever with h|h|⟨i',p',h1,h2⟩
        . obtain⟨j,hj⟩:=h _ (List.mem_of_getElem? hi3);cases hj
        . exact .inl h
        . refine .inr ⟨i',p',h1,fun e=>?_,h2⟩;subst e;rw [hi3] at h1;cases h1;rcases h2 with h2|h2<;>cases h2
    have hN:=LkI.next (l':=l2) hL2 (p:=⟨i,x,.tri 3⟩) (List.getElem?_set_self hi2) rfl (zjB hxk) (.inr ⟨hne.1,rfl,hne.2⟩) rfl rfl rfl hL2.gd;rw [List.set_set] at hN;refine Goes.again (ih (k - (x+1)) _ _ _ _ (by omega) ⟨x+1,st2,R2,l2,q2,ws2,bs2,W2,got2,rfl,by omega,rfl,H2.less (by decide),hW2,hN,fun h=>?_,rfl,rfl,rfl,rfl,rfl,rfl,by push_cast;rfl⟩)
    refine Nat.lt_of_lt_of_le ?_ hR2;unfold zbE LS.w;simp only [];omega
  | true =>
    have hL2:LkI n k a b c d W2 got2 (γ2.1.ps.set i (some ⟨i,x,.addc⟩)) l2:=hL2;have hR3:zbE k ⟨i,x,.addc⟩<R2:=by
      refine Nat.lt_of_lt_of_le ?_ hR2;unfold zbE LS.w;simp only [];omega
    have gb2:=hL2.gb;have lb2:b<q2:=Nat.lt_of_lt_of_le (List.getElem?_eq_some_iff.1 gb2).1 H2.ll;have hq2:=H2.qle;refine viaD ?_;refine Goes.drawC 6 (by kernel_rfl) ?_
    repeat (refine qw1 rfl rfl rfl fun K hK=>?_;simp (disch:=(first|omega|(simp only [sz]<;>omega)|fail)) only [go_sem,gb2];with_reducible refine hK _ _ ?_;clear hK K)
    (refine qwp rfl rfl fun K hK=>?_;simp (disch:=(first|omega|(simp only [sz]<;>omega)|fail)) only [go_sem];(first|refine⟨_,_,(qpd fun w=>zaO 1 n 0 w (by decide) hn),?_⟩|refine⟨_,_,(qpu fun w=>zaO 1 n 0 w (by decide) hn),?_⟩|refine⟨_,_,.com (qpd fun w=>zaO 1 n 0 w (by decide) hn),?_⟩|refine⟨_,_,.com (qpu fun w=>zaO 1 n 0 w (by decide) hn),?_⟩);(try simp only [go_sem]);with_reducible refine hK _ ?_;clear hK K)
    repeat (refine qw1 rfl rfl rfl fun K hK=>?_;simp (disch:=(first|omega|(simp only [sz]<;>omega)|fail)) only [go_sem];with_reducible refine hK _ _ ?_;clear hK K)
    (refine qg2 rfl rfl fun K hK=>?_;simp (disch:=(first|omega|(simp only [sz]<;>omega)|fail)) only [go_sem]);refine zrc (A:=1) (H2.ask ⟨i,x,.addc⟩ [] () rfl Fr.nil (fun y hy=>by cases hy) ⟨W2,got2,hW2,hL2⟩ hR3 fun v γ3 l3 q3 S3 ws3 bs3 R3 H3 _ _ _ hrun=>?_);obtain⟨rfl,W3,got3,hW3,hrun⟩:=hrun
    obtain⟨rfl,hL3⟩:v=0/\LkI n k a b c d W3 got3 (γ3.1.ps.set i (some ⟨i,x,.loade⟩)) l3:=hrun;have gb3:=hL3.gb;have lb3:b<q3:=Nat.lt_of_lt_of_le (List.getElem?_eq_some_iff.1 gb3).1 H3.ll;have hq3:=H3.qle
    ((try simp only [go_sem]);with_reducible refine hK _ _ _ _ ?_;clear hK K)
    have e0:(((0:UInt64).toNat:Int) != 0)=false:=rfl;refine znP e0 ?_;refine Goes.drawC 6 (by kernel_rfl) ?_
    repeat (refine qw1 rfl rfl rfl fun K hK=>?_;simp (disch:=(first|omega|(simp only [sz]<;>omega)|fail)) only [go_sem,gb3];with_reducible refine hK _ _ ?_;clear hK K)
    (refine qwp rfl rfl fun K hK=>?_;simp (disch:=(first|omega|(simp only [sz]<;>omega)|fail)) only [go_sem];(first|refine⟨_,_,(qpd fun w=>zdU 1 n w (by decide) hn),?_⟩|refine⟨_,_,(qpu fun w=>zdU 1 n w (by decide) hn),?_⟩|refine⟨_,_,.com (qpd fun w=>zdU 1 n w (by decide) hn),?_⟩|refine⟨_,_,.com (qpu fun w=>zdU 1 n w (by decide) hn),?_⟩);(try simp only [go_sem]);with_reducible refine hK _ ?_;clear hK K)
    repeat (refine qw1 rfl rfl rfl fun K hK=>?_;simp (disch:=(first|omega|(simp only [sz]<;>omega)|fail)) only [go_sem];with_reducible refine hK _ _ ?_;clear hK K)
    (refine qg2 rfl rfl fun K hK=>?_;simp (disch:=(first|omega|(simp only [sz]<;>omega)|fail)) only [go_sem]);refine zsr (H3.ask ⟨i,x,.loade⟩ [] () rfl Fr.nil (fun y hy=>by cases hy) ⟨W3,got3,hW3,hL3⟩ (zr4 rfl (by simp [LS.w])) fun v γ4 l4 q4 S4 ws4 bs4 R4 H4 _ _ _ hrun=>?_);obtain⟨rfl,W4,got4,hW4,hrun⟩:=hrun
    have hL4:LkI n k a b c d W4 got4 (γ4.1.ps.set i (some ⟨i,x,.subc⟩)) l4:=hrun;have gb4:=hL4.gb;have lb4:b<q4:=Nat.lt_of_lt_of_le (List.getElem?_eq_some_iff.1 gb4).1 H4.ll;have hq4:=H4.qle
    ((try simp only [go_sem]);with_reducible refine hK _ _ _ _ ?_;clear hK K)
    refine viaD ?_;refine Goes.drawC 6 (by kernel_rfl) ?_
    repeat (refine qw1 rfl rfl rfl fun K hK=>?_;simp (disch:=(first|omega|(simp only [sz]<;>omega)|fail)) only [go_sem,gb4];with_reducible refine hK _ _ ?_;clear hK K)
    (refine qwp rfl rfl fun K hK=>?_;simp (disch:=(first|omega|(simp only [sz]<;>omega)|fail)) only [go_sem];(first|refine⟨_,_,(qpd fun w=>zaO 1 n 0 w (by decide) hn),?_⟩|refine⟨_,_,(qpu fun w=>zaO 1 n 0 w (by decide) hn),?_⟩|refine⟨_,_,.com (qpd fun w=>zaO 1 n 0 w (by decide) hn),?_⟩|refine⟨_,_,.com (qpu fun w=>zaO 1 n 0 w (by decide) hn),?_⟩);(try simp only [go_sem]);with_reducible refine hK _ ?_;clear hK K)
    repeat (refine qw1 rfl rfl rfl fun K hK=>?_;simp (disch:=(first|omega|(simp only [sz]<;>omega)|fail)) only [go_sem];with_reducible refine hK _ _ ?_;clear hK K)
    (refine qg2 rfl rfl fun K hK=>?_;simp (disch:=(first|omega|(simp only [sz]<;>omega)|fail)) only [go_sem]);refine zrc (A:=18446744073709551615) (H4.ask ⟨i,x,.subc⟩ [] () rfl Fr.nil (fun y hy=>by cases hy) ⟨W4,got4,hW4,hL4⟩ (zr4 rfl (by simp [LS.w])) fun v5 γ5 l5 q5 S5 ws5 bs5 R5 H5 _ _ _ hrun=>?_);obtain⟨rfl,W5,got5,hW5,hrun⟩:=hrun
    have hL5:LkI n k a b c d W5 got5 (γ5.1.ps.set i (some ⟨i,x,.drop⟩)) l5:=hrun;have gb5:=hL5.gb;have lb5:b<q5:=Nat.lt_of_lt_of_le (List.getElem?_eq_some_iff.1 gb5).1 H5.ll;have hq5:=H5.qle
    ((try simp only [go_sem]);with_reducible refine hK _ _ _ _ ?_;clear hK K)
    refine znP gb5 ?_;(refine qg1 rfl rfl fun K hK=>?_;simp (disch:=(first|omega|(simp only [sz]<;>omega)|fail)) only [go_sem])
    refine zkf hn H5 (by decide) hW5 hL5 (zr4 rfl (by simp [LS.w])) fun st6 γ6 l6 q6 S6 ws6 bs6 W6 got6 H6 hW6 hL6=>?_
    have gd6:=hL6.gd;have ld6:=(List.getElem?_eq_some_iff.1 gd6).1;have ld7:d<q6:=Nat.lt_of_lt_of_le ld6 H6.ll;have hg6:got6<=1000:=by
      have:=hL6.got_le;have h2:n * k<=64 * 3:=Nat.mul_le_mul hn hk3;omega
    have hq6:=H6.qle;have hi6:=H6.lt
    ((try simp only [go_sem]);with_reducible refine hK _ _ _ _ ?_;clear hK K)
    refine znP gd6 ?_;refine Goes.named fun l7 hl7=>?_;have nbd:d≠b:=fun e=>by
      subst e;have gb6:=hL6.gb;rw [gd6] at gb6;have:=congrArg (fun z=>(z.bind id).map Blk.elem) gb6;simp at this
    have hN:=LkI.next (l':=l7) hL6 (p:=⟨i,x,.fin⟩) (List.getElem?_set_self hi6) rfl (zjB hxk) (.inl ⟨rfl,rfl⟩) (by rw [hl7,List.getElem?_set_ne hL6.ne.2.symm]) (by rw [hl7,List.getElem?_set_ne nbd]) (by rw [hl7,List.getElem?_set_ne hL6.ne.1.symm]) (zqG hl7 ld6)
    rw [List.set_set] at hN;have H7:=H6.set (c':=some { cells:=[.int .i64 ((got6:Int)+1)],elem:=3 }) gd6 rfl;rw [<-hl7] at H7;refine Goes.again (ih (k - (x+1)) _ _ _ _ (by omega) ⟨x+1,st6,_,l7,q6,ws6,bs6,W6,got6+1,rfl,by omega,rfl,H7.less (by decide),hW6,hN,fun h=>?_,rfl,rfl,rfl,rfl,rfl,rfl,by push_cast;rfl⟩)
    unfold zbE LS.w;simp only [];omega
end
def LawRunsO {Γ:Type} (Pr:Proto Γ) (f:FuncId) (args:Array Value) (rows:List (Option Blk)) (γ:Γ):Prop :=
  ∃ g c,Try.prog.funcs[f]?=some g/\g.body=some c/\(∀ u∈args,Clo (Kn rows.length 0) u)/\GE MF (SpM Pr) g (fun c γ'=>∃ h1 S1,c=.done (.bool true) h1 S1/\KeepC γ'.2 S1/\Idle S1) (.run (zag g c args).1 (zag g c args).2 (zaq rows) []) (γ,[])
theorem LawRunsO.mk {Γ:Type} {Pr:Proto Γ} {f:FuncId} {g:Func} {c:Code} {args:Array Value} {rows:List (Option Blk)} {γ:Γ} (hf:Try.prog.funcs[f]?=some g) (hb:g.body=some c) (hcl:∀ u∈args,Clo (Kn rows.length 0) u)
    (hrun:Goes MF g (fun x=>GE MF (SpM Pr) g (fun c γ'=>∃ h1 S1,c=.done (.bool true) h1 S1/\KeepC γ'.2 S1/\Idle S1) x (γ,[])) (.run [.code c] (args.toList++List.replicate (g.ntmps - args.size) undef) (zaq rows) [])):LawRunsO Pr f args rows γ:=⟨g,c,hf,hb,hcl,GE.go hrun⟩
theorem LawRunsO.runs {Γ:Type} {Pr:Proto Γ} {f:FuncId} {fg:Func} {t:Tmp} {args:Array Value} {rows:List (Option Blk)} {γ:Γ} (L:LawRunsO Pr f args rows γ) (hf:Try.prog.funcs[f]?=some fg) (hr:fg.results=#[.tmp t]) (hi:Try.prog.inits.idxOf? f=none) (F:Emb) (W:World) (hrow:∀ (n:Nat) (b:Blk),rows[n]?=some (some b)->Lies W b (F.blk n) (F.base n)) (hlen:rows.length<1000000) :
    ∃ M last o w' t',runNT Try.prog (M+1) (solo (Go.Conc.G (Frame.enter Try.prog f (args.map (ren F)) .normal) []) W) #[]=(.ended o w',t')/\runN Try.prog M (solo (Go.Conc.G (Frame.enter Try.prog f (args.map (ren F)) .normal) []) W)=.next last /\
      step Try.prog last=.ended o w'/\Conc.Good Try.prog (fun v w'=>v=.bool true/\Go.RowKit.Below W.heap.size W w') last o w' t':=by
  obtain⟨g,c,h1,h2,hcl,G⟩:=L;rw [hf] at h1;cases h1;have hget:∀ (n:Nat) (b:Blk),(zaq rows).get n=some b->rows[n]?=some (some b):=fun n b h=>by
    rw [zaK] at h;cases hr:rows[n]? with
    | none=>rw [hr] at h;cases h
    | some o=>rw [hr] at h;rw [show o=some b from h]
  refine zlE (F:=F) (w00:=W) hf h2 hr hi ⟨fun n b hb=>?_,fun n m b c hb _ _ hro=>?_⟩ (zbu _) (by rw [zaa];unfold VB;omega) (fun n b hb=>(hrow n b (hget n b hb)).1) (fun u hu=>(hcl u hu).stab F) (fun n b hb v hv=>Stab.plain ((hrow n b (hget n b hb)).2.2.1 v hv)) G
  . obtain⟨r1,r2,r3,pre,post,fr,r4,r5⟩:=hrow n b (hget n b hb);refine⟨pre,post,fr,?_,r5,(fun h=>by rw [r1] at h;cases h),(fun h=>by rw [r2] at h;cases h),(fun s h=>by rw [r2] at h;cases h)⟩
    rw [<-zan r3];exact r4
  . have:=(hrow n b (hget n b hb)).1;rw [hro] at this;cases this
def u8N (x:Nat):List Value:=[.int .u8 (x:Int)]
theorem zqZ {len:Nat} {z:Nat->Nat->Int} {w:World} {a:Option Addr} {cap:Nat} (h:RowS [.u8] w a len cap z):∃ l:List Nat,l.length=len/\(∀ x∈l,x<=255)/\len<=9223372036854775807/\(0<l.length->∃ x,a=some x/\∀ (i:Nat) (y:Nat),l[i]?=some y->∀ (j:Nat) (v:Value),(u8N y)[j]?=some v->w.cell? (x.add (i * 1+j))=some v):=by
  refine⟨(List.range len).map fun i=>min (z i 0).toNat 255,by simp,fun x hx=>?_,?_,fun hl=>?_⟩
  . obtain⟨i,_,rfl⟩:=List.mem_map.1 hx;exact Nat.min_le_right _ _
  . rcases h with ⟨rfl,rfl,rfl⟩|⟨x,rfl,h1,h2,h3⟩
    . omega
    . have hm:maxLen<=9223372036854775807:=by decide
      omega
  . rcases h with ⟨rfl,rfl,rfl⟩|⟨x,rfl,h1,h2,h3⟩
    . simp at hl
    . refine⟨x,rfl,fun i y hy j v hv=>?_⟩;have hi:i<len:=by have:=(List.getElem?_eq_some_iff.1 hy).1;simpa using this
      simp [List.getElem?_range hi] at hy;subst hy
      match j,hv with
      | 0,hv =>
        simp only [u8N,List.getElem?_cons_zero,Option.some.injEq] at hv;have h4:=h3 i hi 0 .u8 rfl;have h5:0<=z i 0/\z i 0<=255:=by simpa [Lit.wf,IntKind.min,IntKind.max,IntKind.signed,IntKind.bits] using h4.2
        rw [<-hv];have e:((min (z i 0).toNat 255:Nat):Int)=z i 0:=by omega
        rw [e];exact h4.1
      | j+1,hv=>simp [u8N] at hv
theorem bnil:zac .nilFunc=true/\Value.cells .nilFunc=#[.nilFunc]:=⟨rfl,rfl⟩
attribute [go_sem] bnil
theorem zoC:AppT Try.prog 30 39 0:=AppT.of (bs:=8) (z:=.nilFunc) (by simp only [go_sem]) (by simp only [go_sem]) (by simp only [go_sem]) (by simp only [go_sem]) (by simp [zac,Value.cells])
abbrev bdV (b:Nat × Array Value):Value:=.func (.func b.1) #[] b.2
def bdB (bds:List (Nat × Array Value)):Blk:=⟨bds.map bdV,39,false,some 1⟩
def BdR (bds:List (Nat × Array Value)) (l:List (Option Blk)) (v:Value):Prop:=(bds=[]/\v=.slice none 0 0)\/(0<bds.length/\∃ nb,v=.slice (some ⟨nb,0,none⟩) bds.length bds.length/\l[nb]?=some (some (bdB bds)))
theorem BdR.nb {bds:List (Nat × Array Value)} {l:List (Option Blk)} {v:Value} (h:BdR bds l v) (h0:0<bds.length):∃ nb,v=.slice (some ⟨nb,0,none⟩) bds.length bds.length/\l[nb]?=some (some (bdB bds)):=by
  rcases h with ⟨rfl,_⟩|⟨_,h⟩
  . simp at h0
  . exact h
theorem zth {bds:List (Nat × Array Value)} (j:Nat) (b:Nat × Array Value) (h:bds[j]?=some b):(bdB bds).cells[j]?=some (.func (.func b.1) #[] b.2):=by simp [bdB,h]
def obFr:Option Blk->List Row
  | some B=>[(0,B)]
  | none=>[]
theorem zfj {l lf:List (Option Blk)} {nt:Nat} {B:Blk} (hnt:l[nt]?=some (some B)) (hge:Ge (l.set nt none) lf) {x:Nat} {y:Blk} (h:l[x]?=some (some y)) (hne:B≠y):lf[x]?=some (some y):=hge x y (by
  rw [List.getElem?_set_ne fun e=>?_]
  . exact h
  . subst e;rw [hnt] at h;cases h;exact hne rfl)
theorem zjg {bds:List (Nat × Array Value)} {y:Blk} (h:y.elem≠39\/y.ro=true):bdB bds≠y:=fun e=>by
  subst e;rcases h with h|h
  . exact h rfl
  . cases h
end Go.Proofs.Ytjhmhoapgbfgpaa
namespace Go.Proofs.Ytjhmhoapgbfgpaa
open Go Go.RowKit
theorem zuN {a b:Ob} {me:Int} {s:Nat} {ws:List UInt64} {bs:List UInt8}:accS [a,b] 1 0 me s ws bs=[.mem ws bs,.port 0 me s]:=rfl
attribute [go_sem] zuN
theorem ztM {S:St} {a b:Ob}:(S++[a,b])[S.length]?=some a:=by simp
theorem zrV {S:St} {a b:Ob}:(S++[a])++[b]=S++[a,b]:=by simp
theorem zsq {S:St} {a:Ob}:(S++[a]).length=S.length+1:=by simp
theorem zs9 {S:St} {a:Ob}:(S++[a])[S.length]?=some a:=by simp
theorem znT {S:St} {a b:Ob}:(S++[a,b]).length=S.length+2:=by simp
theorem znY {S:St} {a b c:Ob}:(S++[a,b])++[c]=S++[a,b,c]:=by simp
theorem zcx {S:St} {a b c:Ob}:(S++[a,b,c])[S.length]?=some a:=by simp
theorem zfK {S:St} {a b c:Ob}:(S++[a,b,c])[S.length+1]?=some b:=by simp
theorem zfH {S:St} {a b c:Ob}:(S++[a,b,c])[S.length+2]?=some c:=by simp
theorem zoK {S:St} {L:List Ob} {i:Nat} {me:Int} {s:Nat} {ws:List UInt64} {bs:List UInt8}:accS (S++L) (S.length+i) S.length me s ws bs=S++(L.set i (.port S.length me s)).set 0 (.mem ws bs):=by
  unfold accS;rw [List.set_append_right _ _ (by omega),List.set_append_right _ _ (by omega),Nat.add_sub_cancel_left,Nat.sub_self]
theorem zf3 {S:St} {a b c:Ob} {me:Int} {s:Nat} {ws:List UInt64} {bs:List UInt8}:accS (S++[a,b,c]) (S.length+1) S.length me s ws bs=S++[.mem ws bs,.port S.length me s,c]:=zoK
theorem zf6 {S:St} {a b c:Ob} {me:Int} {s:Nat} {ws:List UInt64} {bs:List UInt8}:accS (S++[a,b,c]) (S.length+2) S.length me s ws bs=S++[.mem ws bs,b,.port S.length me s]:=zoK
theorem zqs (S:St) (p m me:Nat) (steps:Nat) (ws:List UInt64) (bs:List UInt8) (N T:Nat) (hp:S[p]?=some (.port m me steps)) (hm:S[m]?=some (.mem ws bs)) (hs:steps<=100000000000) (hN:N<=256) (hT:T<=64) (h:wAt ws (gat N T 0 0)=some 0) :
    Does OF 7 #[prtV p,.agg (geoC N T)] [] S (.bool true) (accS S p m me (steps+1) (ws.set (gat N T 0 0).toNat (zaS me)) bs):=by
  refine Does.mk Try.func7 rfl rfl ?clo ?hand ?_
  case clo=>exact clo2 (pclo (zjN hp)) gclo
  case hand=>exact Hand.plain rfl
  rw [Try.ntmps7];simp only [List.size_toArray,List.length_cons,List.length_nil,List.replicate,List.cons_append,List.nil_append];refine viaL ?_;((first|refine qp1 rfl rfl fun K hK=>?_|refine qp3 rfl rfl fun K hK=>?_);simp (disch:=(first|omega|(simp only [sz]<;>omega)|fail)) only [go_sem];(first|refine⟨_,_,(qpd fun w=>zak N T w hN hT),?_⟩|refine⟨_,_,(qpu fun w=>zak N T w hN hT),?_⟩|refine⟨_,_,.com (qpd fun w=>zak N T w hN hT),?_⟩|refine⟨_,_,.com (qpu fun w=>zak N T w hN hT),?_⟩);(try simp only [go_sem]);with_reducible refine hK _ _ ?_;clear hK K)
  refine viaL ?_;((first|refine qc1 rfl rfl fun K hK=>?_|refine qc3 rfl rfl fun K hK=>?_);simp (disch:=(first|omega|(simp only [sz]<;>omega)|fail)) only [go_sem];(first|refine⟨_,_,zb7 S p m me steps hp,?_⟩|refine⟨_,_,Does.com (zb7 S p m me steps hp),?_⟩);(try simp only [go_sem]);with_reducible refine hK _ _ ?_;clear hK K)
  refine viaL ?_;((first|refine qp1 rfl rfl fun K hK=>?_|refine qp3 rfl rfl fun K hK=>?_);simp (disch:=(first|omega|(simp only [sz]<;>omega)|fail)) only [go_sem];(first|refine⟨_,_,.cas _ 0 (zaS me) hp hm (by omega),?_⟩|refine⟨_,_,.com (.cas _ 0 (zaS me) hp hm (by omega)),?_⟩);(try simp only [go_sem]);with_reducible refine hK _ _ ?_;clear hK K)
  rw [(zki h (zaS me)).1,(zki h (zaS me)).2];refine viaL ?_;refine Goes.fin rfl (by simp (disch:=(first|omega|(simp only [zaa,List.length_cons,List.length_nil,List.size_toArray,zae]<;>omega)|fail)) only [go_sem,resA,zaJ,Try.results7]<;>rfl) ?_
  rfl
theorem zpg (S:St) (p m me:Nat) (steps:Nat) (ws:List UInt64) (bs:List UInt8) (N T:Nat) (hp:S[p]?=some (.port m me steps)) (hm:S[m]?=some (.mem ws bs)) (hs:steps<=100000000000) (hN:N<=256) (hT:T<=64) (h:wAt ws (gat N T 0 0)≠some 0) :
    Does OF 7 #[prtV p,.agg (geoC N T)] [] S (.bool false) (accS S p m me (steps+3) ws bs):=by
  have hne:=zn9 hp hm;refine Does.mk Try.func7 rfl rfl ?clo ?hand ?_
  case clo=>exact clo2 (pclo (zjN hp)) gclo
  case hand=>exact Hand.plain rfl
  rw [Try.ntmps7];simp only [List.size_toArray,List.length_cons,List.length_nil,List.replicate,List.cons_append,List.nil_append];refine viaL ?_;((first|refine qp1 rfl rfl fun K hK=>?_|refine qp3 rfl rfl fun K hK=>?_);simp (disch:=(first|omega|(simp only [sz]<;>omega)|fail)) only [go_sem];(first|refine⟨_,_,(qpd fun w=>zak N T w hN hT),?_⟩|refine⟨_,_,(qpu fun w=>zak N T w hN hT),?_⟩|refine⟨_,_,.com (qpd fun w=>zak N T w hN hT),?_⟩|refine⟨_,_,.com (qpu fun w=>zak N T w hN hT),?_⟩);(try simp only [go_sem]);with_reducible refine hK _ _ ?_;clear hK K)
  refine viaL ?_;((first|refine qc1 rfl rfl fun K hK=>?_|refine qc3 rfl rfl fun K hK=>?_);simp (disch:=(first|omega|(simp only [sz]<;>omega)|fail)) only [go_sem];(first|refine⟨_,_,zb7 S p m me steps hp,?_⟩|refine⟨_,_,Does.com (zb7 S p m me steps hp),?_⟩);(try simp only [go_sem]);with_reducible refine hK _ _ ?_;clear hK K)
  refine viaL ?_;((first|refine qp1 rfl rfl fun K hK=>?_|refine qp3 rfl rfl fun K hK=>?_);simp (disch:=(first|omega|(simp only [sz]<;>omega)|fail)) only [go_sem];(first|refine⟨_,_,.cas _ 0 (zaS me) hp hm (by omega),?_⟩|refine⟨_,_,.com (.cas _ 0 (zaS me) hp hm (by omega)),?_⟩);(try simp only [go_sem]);with_reducible refine hK _ _ ?_;clear hK K)
  rw [(zdY h (zaS me)).1,(zdY h (zaS me)).2];refine viaL ?_;((first|refine qp1 rfl rfl fun K hK=>?_|refine qp3 rfl rfl fun K hK=>?_);simp (disch:=(first|omega|(simp only [sz]<;>omega)|fail)) only [go_sem];(first|refine⟨_,_,(qpd fun w=>zak N T w hN hT),?_⟩|refine⟨_,_,(qpu fun w=>zak N T w hN hT),?_⟩|refine⟨_,_,.com (qpd fun w=>zak N T w hN hT),?_⟩|refine⟨_,_,.com (qpu fun w=>zak N T w hN hT),?_⟩);(try simp only [go_sem]);with_reducible refine hK _ _ ?_;clear hK K)
  refine viaL ?_;((first|refine qc1 rfl rfl fun K hK=>?_|refine qc3 rfl rfl fun K hK=>?_);simp (disch:=(first|omega|(simp only [sz]<;>omega)|fail)) only [go_sem];(first|refine⟨_,_,zb7 _ p m me _ (zjd hp hm),?_⟩|refine⟨_,_,Does.com (zb7 _ p m me _ (zjd hp hm)),?_⟩);(try simp only [go_sem]);with_reducible refine hK _ _ ?_;clear hK K)
  refine viaL ?_;((first|refine qp1 rfl rfl fun K hK=>?_|refine qp3 rfl rfl fun K hK=>?_);simp (disch:=(first|omega|(simp only [sz]<;>omega)|fail)) only [go_sem];(first|refine⟨_,_,.cas _ 0 (zaS me) (zjd hp hm) (zpK hp hm) (by omega),?_⟩|refine⟨_,_,.com (.cas _ 0 (zaS me) (zjd hp hm) (zpK hp hm) (by omega)),?_⟩);(try simp only [go_sem]);with_reducible refine hK _ _ ?_;clear hK K)
  rw [(zdY h (zaS me)).1,(zdY h (zaS me)).2,zon hne];refine viaL ?_;((first|refine qp1 rfl rfl fun K hK=>?_|refine qp3 rfl rfl fun K hK=>?_);simp (disch:=(first|omega|(simp only [sz]<;>omega)|fail)) only [go_sem];(first|refine⟨_,_,(qpd fun w=>zak N T w hN hT),?_⟩|refine⟨_,_,(qpu fun w=>zak N T w hN hT),?_⟩|refine⟨_,_,.com (qpd fun w=>zak N T w hN hT),?_⟩|refine⟨_,_,.com (qpu fun w=>zak N T w hN hT),?_⟩);(try simp only [go_sem]);with_reducible refine hK _ _ ?_;clear hK K)
  refine viaL ?_;((first|refine qc1 rfl rfl fun K hK=>?_|refine qc3 rfl rfl fun K hK=>?_);simp (disch:=(first|omega|(simp only [sz]<;>omega)|fail)) only [go_sem];(first|refine⟨_,_,zb7 _ p m me _ (zjd hp hm),?_⟩|refine⟨_,_,Does.com (zb7 _ p m me _ (zjd hp hm)),?_⟩);(try simp only [go_sem]);with_reducible refine hK _ _ ?_;clear hK K)
  refine viaL ?_;((first|refine qp1 rfl rfl fun K hK=>?_|refine qp3 rfl rfl fun K hK=>?_);simp (disch:=(first|omega|(simp only [sz]<;>omega)|fail)) only [go_sem];(first|refine⟨_,_,.cas _ 0 (zaS me) (zjd hp hm) (zpK hp hm) (by omega),?_⟩|refine⟨_,_,.com (.cas _ 0 (zaS me) (zjd hp hm) (zpK hp hm) (by omega)),?_⟩);(try simp only [go_sem]);with_reducible refine hK _ _ ?_;clear hK K)
  rw [(zdY h (zaS me)).1,(zdY h (zaS me)).2,zon hne];refine viaL ?_;refine Goes.fin rfl (by simp (disch:=(first|omega|(simp only [zaa,List.length_cons,List.length_nil,List.size_toArray,zae]<;>omega)|fail)) only [go_sem,resA,zaJ,Try.results7]<;>rfl) ?_
  rfl
def hold (x:UInt64):Int:=if 64<x.toNat then -1 else (x.toNat:Int) - 1
theorem zhc (S:St) (x:UInt64):Does OF 16 #[.int .u64 (x.toNat:Int)] [] S (.int .i64 (hold x)) S:=by
  refine Does.mk Try.func16 rfl rfl ?clo ?hand ?_
  case clo=>exact clo1 iclo
  case hand=>exact Hand.plain rfl
  rw [Try.ntmps16];simp only [List.size_toArray,List.length_cons,List.length_nil,List.replicate,List.cons_append,List.nil_append];by_cases h:64<x.toNat
  . have hd:decide ((64:Int)<(x.toNat:Int))=true:=decide_eq_true (by omega)
    have hh:hold x=-1:=if_pos h;rw [hh];refine viaF hd ?_;refine Goes.fin rfl (by simp (disch:=(first|omega|(simp only [zaa,List.length_cons,List.length_nil,List.size_toArray,zae]<;>omega)|fail)) only [go_sem,resA,zaJ,Try.results16]<;>rfl) ?_
    rfl
  . have hd:decide ((64:Int)<(x.toNat:Int))=false:=decide_eq_false (by omega)
    have hh:hold x=(x.toNat:Int) - 1:=if_neg h;rw [hh];refine viaF hd ?_;refine Goes.fin rfl (by simp (disch:=(first|omega|(simp only [zaa,List.length_cons,List.length_nil,List.size_toArray,zae]<;>omega)|fail)) only [go_sem,resA,zaJ,Try.results16]<;>rfl) ?_
    rfl
def tS (x:UInt64):Nat:=if x=0 then 1 else 3
def tW (x:UInt64) (me:Nat):UInt64:=if x=0 then zaS me else x
def dW (x:UInt64) (me:Nat):UInt64:=if x=zaS me then 0 else x
theorem ziM {N T:Nat} (hN:1<=N):gat N T 0 0=((0:Nat):Int):=by
  have h0:gb N T 0=0:=by unfold gb;split<;>rfl
  have h1:gb N T 1=1:=by unfold gb;rw [if_neg (by omega)];rfl
  rw [zcb N T 0 (by omega) (by rw [h0,h1];omega),h0];rfl
theorem zfk {N T:Nat} (hN:1<=N) (x:UInt64) (l:List UInt64):wAt (x::l) (gat N T 0 0)=some x:=by
  rw [ziM hN];rfl
theorem zgj (S:St) (p m me:Nat) (steps:Nat) (x:UInt64) (l:List UInt64) (bs:List UInt8) (N T:Nat) (hp:S[p]?=some (.port m me steps)) (hm:S[m]?=some (.mem (x::l) bs)) (hs:steps<=100000000000) (hN1:1<=N) (hN:N<=256) (hT:T<=64) :
    Does OF 7 #[prtV p,.agg (geoC N T)] [] S (.bool (x==0)) (accS S p m me (steps+tS x) (tW x me::l) bs):=by
  by_cases h:x=0
  . have h1:=zqs S p m me steps (x::l) bs N T hp hm hs hN hT (by rw [zfk hN1,h])
    rw [ziM hN1] at h1;have e1:(x==0)=true:=by rw [h];rfl
    have e2:tS x=1:=if_pos h;have e3:tW x me=zaS me:=if_pos h;rw [e1,e2,e3];exact h1
  . have h1:=zpg S p m me steps (x::l) bs N T hp hm hs hN hT (by rw [zfk hN1];simpa using h)
    have e1:(x==0)=false:=by simpa using h
    have e2:tS x=3:=if_neg h;have e3:tW x me=x:=if_neg h;rw [e1,e2,e3];exact h1
theorem zi2 (S:St) (p m me:Nat) (steps:Nat) (x:UInt64) (l:List UInt64) (bs:List UInt8) (N T:Nat) (hp:S[p]?=some (.port m me steps)) (hm:S[m]?=some (.mem (x::l) bs)) (hs:steps<=100000000000) (hN1:1<=N) (hN:N<=256) (hT:T<=64) :
    Does OF 10 #[prtV p,.agg (geoC N T)] [] S (.bool (x==zaS me)) (accS S p m me (steps+1) (dW x me::l) bs):=by
  have h1:=zmw S p m me steps (x::l) bs N T hp hm hs hN hT;by_cases h:x=zaS me
  . have hc:=zki (ws:=x::l) (n:=gat N T 0 0) (A:=zaS me) (by rw [zfk hN1,h]) 0
    rw [hc.1,hc.2,ziM hN1] at h1;have e1:(x==zaS me)=true:=by rw [h];simp
    have e3:dW x me=0:=if_pos h;rw [e1,e3];exact h1
  . have hc:=zdY (ws:=x::l) (n:=gat N T 0 0) (A:=zaS me) (by rw [zfk hN1];simpa using h) 0
    rw [hc.1,hc.2] at h1;have e1:(x==zaS me)=false:=by simpa using h
    have e3:dW x me=x:=if_neg h;rw [e1,e3];exact h1
theorem zpx (n:Nat):List.replicate (n+1) (0:UInt64)=0::List.replicate n 0:=rfl
theorem gb1 (N T:Nat) (hN:1<=N):∃ n,gb N T 19=n+1:=⟨gb N T 19 - 1,by have:=gb7 N T hN;omega⟩
theorem zrk (S:St):∃ S',Does OF 4 #[] [] S (.bool true) S':=by
  obtain⟨n,hn⟩:=gb1 1 2 (by decide)
  refine⟨S++[.mem (zaS 1::List.replicate n 0) (List.replicate 64 0),.port S.length 0 5,.port S.length 1 5],?_⟩;refine Does.mk Try.func4 rfl rfl ?clo ?hand ?_
  case clo=>exact clo0
  case hand=>exact Hand.plain rfl
  rw [Try.ntmps4];simp only [List.size_toArray,List.length_cons,List.length_nil,List.replicate,List.cons_append,List.nil_append];refine via ?_;((first|refine qc1 rfl rfl fun K hK=>?_|refine qc3 rfl rfl fun K hK=>?_);simp (disch:=(first|omega|(simp only [sz]<;>omega)|fail)) only [go_sem];(first|refine⟨_,_,zeE S 1 2 (by decide) (by decide) (by decide) (by decide) (by decide),?_⟩|refine⟨_,_,Does.com (zeE S 1 2 (by decide) (by decide) (by decide) (by decide) (by decide)),?_⟩);(try simp only [go_sem]);with_reducible refine hK _ _ ?_;clear hK K)
  rw [hn,zpx];refine via ?_;((first|refine qp1 rfl rfl fun K hK=>?_|refine qp3 rfl rfl fun K hK=>?_);simp (disch:=(first|omega|(simp only [sz]<;>omega)|fail)) only [go_sem];(first|refine⟨_,_,.pnew zs9,?_⟩|refine⟨_,_,.com (.pnew zs9),?_⟩);(try simp only [go_sem]);with_reducible refine hK _ _ ?_;clear hK K)
  rw [zsq,zrV];refine via ?_;((first|refine qp1 rfl rfl fun K hK=>?_|refine qp3 rfl rfl fun K hK=>?_);simp (disch:=(first|omega|(simp only [sz]<;>omega)|fail)) only [go_sem];(first|refine⟨_,_,.pnew ztM,?_⟩|refine⟨_,_,.com (.pnew ztM),?_⟩);(try simp only [go_sem]);with_reducible refine hK _ _ ?_;clear hK K)
  rw [znT,znY];refine via ?_;((first|refine qp1 rfl rfl fun K hK=>?_|refine qp3 rfl rfl fun K hK=>?_);simp (disch:=(first|omega|(simp only [sz]<;>omega)|fail)) only [go_sem];(first|refine⟨_,_,(qpd fun w=>zbQ 1 2 w),?_⟩|refine⟨_,_,(qpu fun w=>zbQ 1 2 w),?_⟩|refine⟨_,_,.com (qpd fun w=>zbQ 1 2 w),?_⟩|refine⟨_,_,.com (qpu fun w=>zbQ 1 2 w),?_⟩);(try simp only [go_sem]);with_reducible refine hK _ _ ?_;clear hK K)
  refine via ?_;((first|refine qc1 rfl rfl fun K hK=>?_|refine qc3 rfl rfl fun K hK=>?_);simp (disch:=(first|omega|(simp only [sz]<;>omega)|fail)) only [go_sem];(first|refine⟨_,_,zgj _ _ _ 0 _ _ _ _ 1 2 zfK zcx (by decide) (by decide) (by decide) (by decide),?_⟩|refine⟨_,_,Does.com (zgj _ _ _ 0 _ _ _ _ 1 2 zfK zcx (by decide) (by decide) (by decide) (by decide)),?_⟩);(try simp only [go_sem]);with_reducible refine hK _ _ ?_;clear hK K)
  rw [zf3];simp only [show ((0:UInt64)==0)=true from rfl,show tW 0 0=zaS 0 from rfl,show tS 0=1 from rfl]
  refine via ?_;((first|refine qc1 rfl rfl fun K hK=>?_|refine qc3 rfl rfl fun K hK=>?_);simp (disch:=(first|omega|(simp only [sz]<;>omega)|fail)) only [go_sem];(first|refine⟨_,_,zgj _ _ _ 1 _ _ _ _ 1 2 zfH zcx (by decide) (by decide) (by decide) (by decide),?_⟩|refine⟨_,_,Does.com (zgj _ _ _ 1 _ _ _ _ 1 2 zfH zcx (by decide) (by decide) (by decide) (by decide)),?_⟩);(try simp only [go_sem]);with_reducible refine hK _ _ ?_;clear hK K)
  rw [zf6];simp only [show (zaS 0==0)=false from rfl,show tW (zaS 0) 1=zaS 0 from rfl,show tS (zaS 0)=3 from rfl]
  refine via ?_;((first|refine qc1 rfl rfl fun K hK=>?_|refine qc3 rfl rfl fun K hK=>?_);simp (disch:=(first|omega|(simp only [sz]<;>omega)|fail)) only [go_sem];(first|refine⟨_,_,zgj _ _ _ 0 _ _ _ _ 1 2 zfK zcx (by decide) (by decide) (by decide) (by decide),?_⟩|refine⟨_,_,Does.com (zgj _ _ _ 0 _ _ _ _ 1 2 zfK zcx (by decide) (by decide) (by decide) (by decide)),?_⟩);(try simp only [go_sem]);with_reducible refine hK _ _ ?_;clear hK K)
  rw [zf3];simp only [show (zaS 0==0)=false from rfl,show tW (zaS 0) 0=zaS 0 from rfl,show tS (zaS 0)=3 from rfl]
  refine via ?_;((first|refine qc1 rfl rfl fun K hK=>?_|refine qc3 rfl rfl fun K hK=>?_);simp (disch:=(first|omega|(simp only [sz]<;>omega)|fail)) only [go_sem];(first|refine⟨_,_,zi2 _ _ _ 1 _ _ _ _ 1 2 zfH zcx (by decide) (by decide) (by decide) (by decide),?_⟩|refine⟨_,_,Does.com (zi2 _ _ _ 1 _ _ _ _ 1 2 zfH zcx (by decide) (by decide) (by decide) (by decide)),?_⟩);(try simp only [go_sem]);with_reducible refine hK _ _ ?_;clear hK K)
  rw [zf6];simp only [show (zaS 0==zaS 1)=false from rfl,show dW (zaS 0) 1=zaS 0 from rfl]
  refine via ?_;((first|refine qc1 rfl rfl fun K hK=>?_|refine qc3 rfl rfl fun K hK=>?_);simp (disch:=(first|omega|(simp only [sz]<;>omega)|fail)) only [go_sem];(first|refine⟨_,_,zi2 _ _ _ 0 _ _ _ _ 1 2 zfK zcx (by decide) (by decide) (by decide) (by decide),?_⟩|refine⟨_,_,Does.com (zi2 _ _ _ 0 _ _ _ _ 1 2 zfK zcx (by decide) (by decide) (by decide) (by decide)),?_⟩);(try simp only [go_sem]);with_reducible refine hK _ _ ?_;clear hK K)
  rw [zf3];simp only [show (zaS 0==zaS 0)=true from rfl,show dW (zaS 0) 0=0 from rfl]
  refine via ?_;((first|refine qc1 rfl rfl fun K hK=>?_|refine qc3 rfl rfl fun K hK=>?_);simp (disch:=(first|omega|(simp only [sz]<;>omega)|fail)) only [go_sem];(first|refine⟨_,_,zgj _ _ _ 1 _ _ _ _ 1 2 zfH zcx (by decide) (by decide) (by decide) (by decide),?_⟩|refine⟨_,_,Does.com (zgj _ _ _ 1 _ _ _ _ 1 2 zfH zcx (by decide) (by decide) (by decide) (by decide)),?_⟩);(try simp only [go_sem]);with_reducible refine hK _ _ ?_;clear hK K)
  rw [zf6];simp only [show ((0:UInt64)==0)=true from rfl,show tW 0 1=zaS 1 from rfl,show tS 0=1 from rfl]
  refine via ?_;((first|refine qp1 rfl rfl fun K hK=>?_|refine qp3 rfl rfl fun K hK=>?_);simp (disch:=(first|omega|(simp only [sz]<;>omega)|fail)) only [go_sem];(first|refine⟨_,_,(qpd fun w=>zak 1 2 w (by decide) (by decide)),?_⟩|refine⟨_,_,(qpu fun w=>zak 1 2 w (by decide) (by decide)),?_⟩|refine⟨_,_,.com (qpd fun w=>zak 1 2 w (by decide) (by decide)),?_⟩|refine⟨_,_,.com (qpu fun w=>zak 1 2 w (by decide) (by decide)),?_⟩);(try simp only [go_sem]);with_reducible refine hK _ _ ?_;clear hK K)
  refine via ?_;((first|refine qp1 rfl rfl fun K hK=>?_|refine qp3 rfl rfl fun K hK=>?_);simp (disch:=(first|omega|(simp only [sz]<;>omega)|fail)) only [go_sem];(first|refine⟨_,_,.word _ zcx,?_⟩|refine⟨_,_,.com (.word _ zcx),?_⟩);(try simp only [go_sem]);with_reducible refine hK _ _ ?_;clear hK K)
  rw [show wT 1 (gat 1 2 0 0) 0 (zaS 1::List.replicate n 0)=zaS 1 from by unfold wT;rw [zfk (by decide)];rfl]
  refine via ?_;((first|refine qc1 rfl rfl fun K hK=>?_|refine qc3 rfl rfl fun K hK=>?_);simp (disch:=(first|omega|(simp only [sz]<;>omega)|fail)) only [go_sem];(first|refine⟨_,_,zhc _ (zaS 1),?_⟩|refine⟨_,_,Does.com (zhc _ (zaS 1)),?_⟩);(try simp only [go_sem]);with_reducible refine hK _ _ ?_;clear hK K)
  rw [show hold (zaS 1)=1 from rfl]
  refine via ?_;refine Goes.fin rfl (by simp (disch:=(first|omega|(simp only [zaa,List.length_cons,List.length_nil,List.size_toArray,zae]<;>omega)|fail)) only [go_sem,resA,zaJ,Try.results4]<;>rfl) ?_
  rfl
end Go.Proofs.Ytjhmhoapgbfgpaa
namespace Go.Proofs.Ytjhmhoapgbfgpaa
open Go Go.Conc
open Go.RowKit
theorem zbC:zmR 4 #[] (.bool true):=by
  obtain⟨S1,h⟩:=zrk [];exact h.pure (by simp) rfl
theorem zpL {b:Blk} (h:(b.elem==39)=false:=by rfl):b.elem≠39:=fun e=>by rw [e] at h;cases h
def lkPr (n k a b c d:Nat):Proto (PG Unit LP):=(zeN n k a b c d).pr 0
def lkγ:PG Unit LP:=⟨(),[],[],(0,0),0,fun _=>none,10000⟩
set_option maxRecDepth 20000 in
theorem ztr (th ti:Nat) (sl:Option Addr) (rc:Nat) (l:List Nat) (ob:Option Blk) (hcl:SlAt 0 sl) (hrow:zti u8N 0 sl l ob) (hro:∀ B,ob=some B->B.ro=true) (hlen:l.length<=9223372036854775807) (h255:∀ x∈l,x<=255) (hth:th<=255) (hti:ti<=255) :
    LawRunsO (lkPr (th % 6+1) (ti % 3+1) 1 2 4 3) 3 #[.int .u8 th,.int .u8 ti,.slice sl l.length rc] [ob] lkγ:=by
  refine LawRunsO.mk Try.func3 rfl ?_ ?_
  . intro u hu;simp only [List.mem_toArray,List.mem_cons,List.not_mem_nil,or_false] at hu;rcases hu with rfl|rfl|rfl
    . exact Clo.plain rfl
    . exact Clo.plain rfl
    . exact hcl.clo (by simp)
  rw [Try.ntmps3];simp only [List.size_toArray,List.length_cons,List.length_nil,List.replicate,List.cons_append,List.nil_append];by_cases h200:l.length > 200
  . refine via ?_;((first|refine qp1 rfl rfl fun K hK=>?_|refine qp3 rfl rfl fun K hK=>?_);simp (disch:=(first|omega|(simp only [sz]<;>omega)|fail)) only [go_sem];(first|refine⟨_,_,(qpd fun w=>zbC),?_⟩|refine⟨_,_,(qpu fun w=>zbC),?_⟩|refine⟨_,_,.com (qpd fun w=>zbC),?_⟩|refine⟨_,_,.com (qpu fun w=>zbC),?_⟩);(try simp only [go_sem]);with_reducible refine hK _ _ ?_;clear hK K)
    refine via ?_;refine Goes.endL rfl (by simp (disch:=(first|omega|(simp only [zaa,List.length_cons,List.length_nil,List.size_toArray,zae]<;>omega)|fail)) only [go_sem,resA,zaJ,Try.results3]<;>rfl) ?_ ?_
    . exact KeepC.refl _
    . exact Idle.nil
  have et:(th:Int).tmod 6=((th % 6:Nat):Int):=zoB th 6;have ek:(ti:Int).tmod 3=((ti % 3:Nat):Int):=zoB ti 3;refine viaF (And.intro et ek) ?_;obtain⟨n,hn⟩:∃ n,n=th % 6+1:=⟨_,rfl⟩;obtain⟨k,hk⟩:∃ k,k=ti % 3+1:=⟨_,rfl⟩;have en:((th % 6:Nat):Int)+1=(n:Int):=by rw [hn];push_cast;rfl
  have ekk:((ti % 3:Nat):Int)+1=(k:Int):=by rw [hk];push_cast;rfl
  rw [<-hn,<-hk];simp only [en,ekk];have hn1:1<=n:=by omega
  have hn6:n<=6:=by omega
  have hk1:0<k:=by omega
  have hk3:k<=3:=by omega
  have hgb:gb 1 n 19<=2097152:=by
    have:n=1\/n=2\/n=3\/n=4\/n=5\/n=6:=by omega
    rcases this with rfl|rfl|rfl|rfl|rfl|rfl<;>decide
  clear hn hk en ekk et ek;((first|refine qc1 rfl rfl fun K hK=>?_|refine qc3 rfl rfl fun K hK=>?_);simp (disch:=(first|omega|(simp only [sz]<;>omega)|fail)) only [go_sem];(first|refine⟨_,_,zeE [] 1 n (by decide) (by decide) hn1 (by omega) hgb,?_⟩|refine⟨_,_,Does.com (zeE [] 1 n (by decide) (by decide) hn1 (by omega) hgb),?_⟩);(try simp only [go_sem]);with_reducible refine hK _ _ ?_;clear hK K)
  refine via ?_;refine Goes.list fun lf hlf hge=>?_;have r0:∀ B,ob=some B->lf[0]?=some (some B):=fun B hB=>hge _ _ (by rw [hB];rfl)
  have r1:lf[1]?=some (some (lkN k)):=hge 1 _ rfl;have r2:lf[2]?=some (some (lkG n)):=hge 2 _ rfl;have r3:lf[3]?=some (some (lkN 0)):=hge 3 _ rfl;have r4:lf[4]?=some (some (lkN 0)):=hge 4 _ rfl;simp only [List.length_cons,List.length_nil,Nat.zero_add,Nat.reduceAdd] at hlf ⊢;refine GE.wh (fun z tmps h S γ=>∃ (i:Nat) (lf:List (Option Blk)) (q:Nat) (v:Value),z=n - i/\i<=n/\h=zaH lf q []/\S=[.mem (List.replicate (gb 1 n 19) 0) (List.replicate 64 0)]/\γ=(lkγ,[])/\lf.length<=q/\5<=q/\q<=100+10 * i/\(∀ B,ob=some B->lf[0]?=some (some B))/\lf[1]?=some (some (lkN k))/\lf[2]?=some (some (lkG n))/\lf[3]?=some (some (lkN 0))/\lf[4]?=some (some (lkN 0))/\BdR (List.replicate i (6,#[.pointer (some ⟨1,0,none⟩),.pointer (some ⟨2,0,none⟩),.pointer (some ⟨4,0,none⟩),.pointer (some ⟨3,0,none⟩)])) lf v/\tmps.length=81 /\
      tmps.getD 2 undef=.slice sl l.length rc/\tmps.getD 7 undef=.int .i64 (n:Int)/\tmps.getD 8 undef=.pointer (some ⟨1,0,none⟩)/\tmps.getD 9 undef=.pointer (some ⟨2,0,none⟩)/\tmps.getD 10 undef=hndV 0/\tmps.getD 11 undef=.pointer (some ⟨3,0,none⟩)/\tmps.getD 12 undef=.pointer (some ⟨4,0,none⟩)/\tmps.getD 13 undef=v/\tmps.getD 14 undef=.int .i64 (i:Int)) (m:=n)
    ⟨0,lf,5,.slice none 0 0,rfl,by omega,rfl,rfl,rfl,by omega,by omega,by omega,r0,r1,r2,r3,r4,.inl ⟨rfl,rfl⟩,rfl,rfl,rfl,rfl,rfl,rfl,rfl,rfl,rfl,rfl⟩ ?_
  clear r0 r1 r2 r3 r4 hlf hge;rintro z tmps h S γ ih ⟨i,lf,q,v,rfl,hi,rfl,rfl,rfl,hlq,hq5,hq,r0,r1,r2,r3,r4,hB,hl,f2,f7,f8,f9,f10,f11,f12,f13,f14⟩;obtain⟨V,hV,hT⟩:=zcV hl;replace hT:_=([V 0,V 1,V 2,V 3,V 4,V 5,V 6,V 7,V 8,V 9,V 10,V 11,V 12,V 13,V 14,V 15,V 16,V 17,V 18,V 19,V 20,V 21,V 22,V 23,V 24,V 25,V 26,V 27,V 28,V 29,V 30,V 31,V 32,V 33,V 34,V 35,V 36,V 37,V 38,V 39,V 40,V 41,V 42,V 43,V 44,V 45,V 46,V 47,V 48,V 49,V 50,V 51,V 52,V 53,V 54,V 55,V 56,V 57,V 58,V 59,V 60,V 61,V 62,V 63,V 64,V 65,V 66,V 67,V 68,V 69,V 70,V 71,V 72,V 73,V 74,V 75,V 76,V 77,V 78,V 79,V 80]:List Value):=hT;rw [hV] at f2 f7 f8 f9 f10 f11 f12 f13 f14;subst hT;simp only [f2,f7,f8,f9,f10,f11,f12,f13,f14];clear hV hl;by_cases hin:i<n
  case pos =>
    refine via ?_;have hrep:∀ x:Nat × Array Value,List.replicate (i+1) x=List.replicate i x++[x]:=fun x=>List.replicate_succ';rcases hB with ⟨e1,rfl⟩|⟨e1,nb,rfl,hnb⟩
    . obtain rfl:i=0:=by simpa using congrArg List.length e1
      (refine At.appE rfl rfl rfl rfl (zg1 zoC (zfq 0 rfl rfl (by decide)) (by decide) (by decide)) (by simp (disch:=(first|omega|(simp only [sz]<;>omega)|fail)) only [go_sem];(try simp only [sz]);unfold VB;omega) fun K hK=>?_;simp (disch:=(first|omega|(simp only [sz]<;>omega)|fail)) only [go_sem];with_reducible refine hK _ _ ?_;clear hK K);refine via ?_
      refine Goes.folds hlq fun lg hlg hge hrow=>?_;simp only [List.length_cons,List.length_nil,Nat.zero_add,Nat.reduceAdd] at hlg ⊢;refine Goes.again (ih (n - 1) _ _ _ _ (by omega) ⟨1,lg,q+2,_,rfl,by omega,rfl,rfl,rfl,by omega,by omega,by omega,fun B hB=>hge _ _ (r0 B hB),hge _ _ r1,hge _ _ r2,hge _ _ r3,hge _ _ r4,.inr ⟨by simp,q+1,rfl,hrow 1⟩,rfl,rfl,rfl,rfl,rfl,rfl,rfl,rfl,rfl,rfl⟩)
    . simp only [List.length_replicate] at e1 ⊢;have hnbl:=(List.getElem?_eq_some_iff.1 hnb).1;have hnbq:nb<q:=by omega
      have hkg:∀ ys,(zaH lf q ys).get nb=some ⟨(List.replicate i (6,#[.pointer (some ⟨1,0,none⟩),.pointer (some ⟨2,0,none⟩),.pointer (some ⟨4,0,none⟩),.pointer (some ⟨3,0,none⟩)])).map bdV,39,false,some 1⟩:=fun ys=>by
        rw [zge (by omega),hnb];rfl
      (refine At.appE rfl rfl rfl rfl (zli zoC (hkg _) rfl rfl (by simp) (zfq 0 rfl rfl (by decide)) rfl (by decide) (by omega)) (by simp (disch:=(first|omega|(simp only [sz]<;>omega)|fail)) only [go_sem];(try simp only [sz]);unfold VB;omega) fun K hK=>?_;simp (disch:=(first|omega|(simp only [sz]<;>omega)|fail)) only [go_sem];with_reducible refine hK _ _ ?_;clear hK K);refine via ?_
      refine Goes.folds (by rw [List.length_set];exact hlq) fun lg hlg hge hrow=>?_
      simp only [List.length_cons,List.length_nil,Nat.zero_add,Nat.reduceAdd] at hlg ⊢;refine Goes.again (ih (n - (i+1)) _ _ _ _ (by omega) ⟨i+1,lg,q+2,_,rfl,by omega,rfl,rfl,rfl,by omega,by omega,by omega,fun B hB=>zfj hnb hge (r0 B hB) (zjg (.inr (hro B hB))),zfj hnb hge r1 (zjg (.inl zpL)),zfj hnb hge r2 (zjg (.inl zpL)),zfj hnb hge r3 (zjg (.inl zpL)),zfj hnb hge r4 (zjg (.inl zpL)),.inr ⟨by simp,q+1,by rw [List.length_replicate];rfl,?_⟩,rfl,rfl,rfl,rfl,rfl,rfl,rfl,rfl,rfl,by push_cast;rfl⟩)
      refine (hrow 1).trans ?_;rw [hrep];simp [bdB]
  obtain rfl:i=n:=by omega
  clear ih;obtain⟨bds,hbds⟩:∃ bds,bds=List.replicate i (6,(#[.pointer (some ⟨1,0,none⟩),.pointer (some ⟨2,0,none⟩),.pointer (some ⟨4,0,none⟩),.pointer (some ⟨3,0,none⟩)]:Array Value)):=⟨_,rfl⟩;rw [<-hbds] at hB;have hbl:bds.length=i:=by rw [hbds,List.length_replicate]
  obtain⟨nb,rfl,hnb⟩:=hB.nb (by omega)
  refine via ?_;have hWz:Wd 1 i (List.replicate (gb 1 i 19) 0) (fun _ _=>0):=Wd.zero (Nat.le_refl 1) (Nat.le_refl _);have hL0:LkI i k 1 2 4 3 (fun _ _=>0) 0 [] lf:=⟨r1,r2,r4,r3,⟨by decide,by decide⟩,fun _ _ h=>by simp at h,by simp,.inl ⟨rfl,rfl,fun _ _ h=>by simp at h⟩,.inl fun _ h=>(by cases h),Nat.le_refl _,fun _=>⟨rfl,fun _ _ _ h=>by simp at h⟩⟩
  have hcold:∀ x∈(nb,bdB bds)::obFr ob,(zeN i k 1 2 4 3).hot x.2=false/\zei x.2=false:=fun x hx=>by
    rcases List.mem_cons.1 hx with rfl|hx
    . exact⟨rfl,rfl⟩
    . cases ob with
      | none=>cases hx
      | some B =>
        obtain rfl:x=(0,B):=List.mem_singleton.1 hx;have:=hro B rfl;exact⟨by show (B.elem==_ && !B.ro)=false;rw [this];simp,by unfold zei;rw [this];simp⟩
  have hPI:PI (zeN i k 1 2 4 3) 0 1 [.mem (List.replicate (gb 1 i 19) 0) (List.replicate 64 0)] (lkγ,[]) lf q 1000000 [.mem (List.replicate (gb 1 i 19) 0) (List.replicate 64 0)] (List.replicate (gb 1 i 19) 0) (List.replicate 64 0) ((nb,bdB bds)::obFr ob):=by
    refine⟨KeepC.more rfl (KeepC.refl _),rfl,⟨_,0,hWz,hL0⟩,hlq,?_,List.nodup_nil,?_,fun x hx=>(hcold x hx).1,fun k hk=>(by cases hk),fun i k h=>by simp [lkγ] at h,fun k hk=>rfl,fun x a b c e f h=>?_,fun j hj hjp=>rfl,by decide,by simp⟩
    . show q+1000 * 10000+1000000<=500000000;omega
    . refine Fr.cons hnb ?_;cases ob with
      | none=>exact Fr.nil
      | some B=>exact Fr.cons (r0 B rfl) Fr.nil
    . match x,h with
      | 0,h=>cases h
      | x+1,h=>simp at h
  (refine qg1 rfl rfl fun K hK=>?_;simp (disch:=(first|omega|(simp only [sz]<;>omega)|fail)) only [go_sem]);refine znd (lkOk (by omega) hk1) hPI rfl (fun x hx=>(hcold x hx).2) bds (nb:=nb) (BB:=bdB bds) List.mem_cons_self zth l h255 (fun hne=>?_) 100 (by show 8 * k<=100;omega) (by decide) (by omega) (by omega) (by omega) (by show 2 * (bds.length+l.length+bds.length * (100+1))<=10000;omega) (Nat.le_refl _) (fun j b hb kk hp γ' l' q' S' ws' bs' hB' hlen' hnone hborn=>?_) fun γ' l' q' S' ws' bs' hE=>?_
  . obtain⟨h1,el,h2⟩:=hrow (List.length_pos_iff.2 hne);refine⟨0,⟨rowC u8N l,el,true,none⟩,h1,?_,fun j x hj=>?_⟩
    . rw [h2];exact List.mem_cons_of_mem _ (List.mem_singleton.2 rfl)
    . have:=zlH (fl:=u8N) (s:=1) (fun _=>rfl) (j:=0) hj (by decide)
      simpa [u8N] using this
  . have hj:=(List.getElem?_eq_some_iff.1 hb).1;rw [hbds,List.getElem?_replicate,if_pos (by omega)] at hb
    cases hb;exact ztp (by omega) hk1 hk3 (by omega) hB' hlen' hnone hborn
  obtain⟨W,got,hW,hL⟩:=hE.inv;rw [hbl] at hL;obtain⟨d1,d2,d3,d4⟩:=hL.done (by omega)
  have g3:=hL.gd;have g4:=hL.gc;have g1:=hL.ga;have g2:=hL.gb;have hq':=hE.ql;have hl':=hE.ll;have q4:4<q':=Nat.lt_of_lt_of_le (List.getElem?_eq_some_iff.1 g4).1 hl'
  ((try simp only [go_sem]);with_reducible refine hK _ _ _ _ ?_;clear hK K)
  have t0:wT 1 (gat 1 i 0 0) 0 ws'=W 0 0:=hW.tells (r:=0) (n:=0) (by decide) (gsz0 i)
  have t2:wT 1 (gat 1 i 2 0) 0 ws'=W 2 0:=hW.tells (r:=2) (n:=0) (by decide) (gsz2 i)
  have e0:(((0:UInt64).toNat:Int)==0)=true:=rfl;by_cases h1:1<i
  . refine viaF (And.intro g1 (And.intro g2 (And.intro g3 g4))) ?_;((first|refine qp1 rfl rfl fun K hK=>?_|refine qp3 rfl rfl fun K hK=>?_);simp (disch:=(first|omega|(simp only [sz]<;>omega)|fail)) only [go_sem];(first|refine⟨_,_,(qpd fun w=>zak 1 i w (by decide) (by omega)),?_⟩|refine⟨_,_,(qpu fun w=>zak 1 i w (by decide) (by omega)),?_⟩|refine⟨_,_,.com (qpd fun w=>zak 1 i w (by decide) (by omega)),?_⟩|refine⟨_,_,.com (qpu fun w=>zak 1 i w (by decide) (by omega)),?_⟩);(try simp only [go_sem]);with_reducible refine hK _ _ ?_;clear hK K)
    refine viaF g2 ?_;((first|refine qp1 rfl rfl fun K hK=>?_|refine qp3 rfl rfl fun K hK=>?_);simp (disch:=(first|omega|(simp only [sz]<;>omega)|fail)) only [go_sem];(first|refine⟨_,_,.word _ hE.hm,?_⟩|refine⟨_,_,.com (.word _ hE.hm),?_⟩);(try simp only [go_sem]);with_reducible refine hK _ _ ?_;clear hK K)
    rw [t0,d1];refine viaF (And.intro g2 e0) ?_;((first|refine qp1 rfl rfl fun K hK=>?_|refine qp3 rfl rfl fun K hK=>?_);simp (disch:=(first|omega|(simp only [sz]<;>omega)|fail)) only [go_sem];(first|refine⟨_,_,(qpd fun w=>zaO 1 i 0 w (by decide) (by omega)),?_⟩|refine⟨_,_,(qpu fun w=>zaO 1 i 0 w (by decide) (by omega)),?_⟩|refine⟨_,_,.com (qpd fun w=>zaO 1 i 0 w (by decide) (by omega)),?_⟩|refine⟨_,_,.com (qpu fun w=>zaO 1 i 0 w (by decide) (by omega)),?_⟩);(try simp only [go_sem]);with_reducible refine hK _ _ ?_;clear hK K)
    refine viaF (And.intro g2 e0) ?_;((first|refine qp1 rfl rfl fun K hK=>?_|refine qp3 rfl rfl fun K hK=>?_);simp (disch:=(first|omega|(simp only [sz]<;>omega)|fail)) only [go_sem];(first|refine⟨_,_,.word _ hE.hm,?_⟩|refine⟨_,_,.com (.word _ hE.hm),?_⟩);(try simp only [go_sem]);with_reducible refine hK _ _ ?_;clear hK K)
    rw [t2,d2];refine viaF (And.intro g2 e0) ?_;((first|refine qp1 rfl rfl fun K hK=>?_|refine qp3 rfl rfl fun K hK=>?_);simp (disch:=(first|omega|(simp only [sz]<;>omega)|fail)) only [go_sem];(first|refine⟨_,_,(qpd fun w=>zbC),?_⟩|refine⟨_,_,(qpu fun w=>zbC),?_⟩|refine⟨_,_,.com (qpd fun w=>zbC),?_⟩|refine⟨_,_,.com (qpu fun w=>zbC),?_⟩);(try simp only [go_sem]);with_reducible refine hK _ _ ?_;clear hK K)
    refine viaF e0 ?_;refine Goes.endL rfl (by simp (disch:=(first|omega|(simp only [zaa,List.length_cons,List.length_nil,List.size_toArray,zae]<;>omega)|fail)) only [go_sem,resA,zaJ,Try.results3]<;>rfl) ?_ ?_
    . exact hE.keep
    . exact hE.busy
  . have d5:=d4 (by omega)
    refine viaF (And.intro g1 (And.intro g2 (And.intro g3 g4))) ?_;((first|refine qp1 rfl rfl fun K hK=>?_|refine qp3 rfl rfl fun K hK=>?_);simp (disch:=(first|omega|(simp only [sz]<;>omega)|fail)) only [go_sem];(first|refine⟨_,_,(qpd fun w=>zak 1 i w (by decide) (by omega)),?_⟩|refine⟨_,_,(qpu fun w=>zak 1 i w (by decide) (by omega)),?_⟩|refine⟨_,_,.com (qpd fun w=>zak 1 i w (by decide) (by omega)),?_⟩|refine⟨_,_,.com (qpu fun w=>zak 1 i w (by decide) (by omega)),?_⟩);(try simp only [go_sem]);with_reducible refine hK _ _ ?_;clear hK K)
    refine viaF g2 ?_;((first|refine qp1 rfl rfl fun K hK=>?_|refine qp3 rfl rfl fun K hK=>?_);simp (disch:=(first|omega|(simp only [sz]<;>omega)|fail)) only [go_sem];(first|refine⟨_,_,.word _ hE.hm,?_⟩|refine⟨_,_,.com (.word _ hE.hm),?_⟩);(try simp only [go_sem]);with_reducible refine hK _ _ ?_;clear hK K)
    rw [t0,d1];refine viaF (And.intro g2 e0) ?_;((first|refine qp1 rfl rfl fun K hK=>?_|refine qp3 rfl rfl fun K hK=>?_);simp (disch:=(first|omega|(simp only [sz]<;>omega)|fail)) only [go_sem];(first|refine⟨_,_,(qpd fun w=>zaO 1 i 0 w (by decide) (by omega)),?_⟩|refine⟨_,_,(qpu fun w=>zaO 1 i 0 w (by decide) (by omega)),?_⟩|refine⟨_,_,.com (qpd fun w=>zaO 1 i 0 w (by decide) (by omega)),?_⟩|refine⟨_,_,.com (qpu fun w=>zaO 1 i 0 w (by decide) (by omega)),?_⟩);(try simp only [go_sem]);with_reducible refine hK _ _ ?_;clear hK K)
    refine viaF (And.intro g2 e0) ?_;((first|refine qp1 rfl rfl fun K hK=>?_|refine qp3 rfl rfl fun K hK=>?_);simp (disch:=(first|omega|(simp only [sz]<;>omega)|fail)) only [go_sem];(first|refine⟨_,_,.word _ hE.hm,?_⟩|refine⟨_,_,.com (.word _ hE.hm),?_⟩);(try simp only [go_sem]);with_reducible refine hK _ _ ?_;clear hK K)
    rw [t2,d2];refine viaF (And.intro g2 e0) ?_;((first|refine qp1 rfl rfl fun K hK=>?_|refine qp3 rfl rfl fun K hK=>?_);simp (disch:=(first|omega|(simp only [sz]<;>omega)|fail)) only [go_sem];(first|refine⟨_,_,(qpd fun w=>zbC),?_⟩|refine⟨_,_,(qpu fun w=>zbC),?_⟩|refine⟨_,_,.com (qpd fun w=>zbC),?_⟩|refine⟨_,_,.com (qpu fun w=>zbC),?_⟩);(try simp only [go_sem]);with_reducible refine hK _ _ ?_;clear hK K)
    refine viaF e0 ?_;refine Goes.endL rfl (by simp (disch:=(first|omega|(simp only [zaa,List.length_cons,List.length_nil,List.size_toArray,zae]<;>omega)|fail)) only [go_sem,resA,zaJ,Try.results3]<;>rfl) ?_ ?_
    . exact hE.keep
    . exact hE.busy
theorem zj8 (a0 a1:Int) (a2:Option Addr) (len2 cap2:Nat) (z2:Nat->Nat->Int) (W:World) (w0:(Lit.int .u8 a0).wf=true) (w1:(Lit.int .u8 a1).wf=true) (w2:RowS [.u8] W a2 len2 cap2 z2) :
    ∃ M last o w' t',runNT Try.prog (M+1) (solo (Go.Conc.G (Frame.enter Try.prog 3 #[.int .u8 a0,.int .u8 a1,.slice a2 len2 cap2] .normal) []) W) #[]=(.ended o w',t')/\runN Try.prog M (solo (Go.Conc.G (Frame.enter Try.prog 3 #[.int .u8 a0,.int .u8 a1,.slice a2 len2 cap2] .normal) []) W)=.next last /\
      step Try.prog last=.ended o w'/\Conc.Good Try.prog (fun v w'=>v=.bool true/\Go.RowKit.Below W.heap.size W w') last o w' t':=by
  have h0:0<=a0/\a0<=255:=by simpa [Lit.wf,IntKind.min,IntKind.max,IntKind.signed,IntKind.bits] using w0
  have h1:0<=a1/\a1<=255:=by simpa [Lit.wf,IntKind.min,IntKind.max,IntKind.signed,IntKind.bits] using w1
  obtain⟨x,rfl⟩:=Int.eq_ofNat_of_zero_le h0.1;obtain⟨y,rfl⟩:=Int.eq_ofNat_of_zero_le h1.1;obtain⟨l,rfl,g1,g2,g3⟩:=zqZ w2;obtain⟨s0,ob,bk0,bs0,hren,hat,hrow,hlies⟩:=zob u8N (s:=1) (fun _=>rfl) (by decide) (fun x v hv=>by simp [u8N] at hv;subst hv;rfl) l a2 cap2 W 0 g3
  have L:=(ztr x y s0 cap2 l ob hat hrow (fun B hB=>(hlies B hB).1) g2 g1 (by omega) (by omega)).runs Try.func3 Try.results3 (by kernel_rfl) ⟨fun _=>bk0,fun _=>bs0,fun _=>0⟩ W (fun n b hb=>by
    match n,hb with
    | 0,hb=>exact hlies b (by simpa using hb)
    | n+1,hb=>simp at hb) (by simp)
  simp only [List.map_toArray,List.map_cons,List.map_nil,zbo] at L;rw [hren _ rfl rfl rfl] at L;exact L
end Go.Proofs.Ytjhmhoapgbfgpaa
