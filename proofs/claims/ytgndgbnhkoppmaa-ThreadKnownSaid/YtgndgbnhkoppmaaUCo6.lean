/- Laws. -/
import Derived.Conc.TokenTrace
import Derived.Conc.TokenFlight
import Derived.Conc.CrowdComm
import Derived.Conc.CrowdSel
import Derived.Conc.Token
import Derived.Test.YtgndgbnhkoppmaaUCo2
import Derived.Test.YtgndgbnhkoppmaaUAx10
set_option maxHeartbeats 40000000
set_option linter.unusedVariables false
set_option linter.unusedSimpArgs false
namespace Go.Proofs.Ytgndgbnhkoppmaa
open Go Go.Conc
structure PastO (Own Still:Loc->Prop) (Mem Loose:Nat->Prop) (B:Nat) (K:Nat->Prop) (t:Trace):Prop where
  clean:∀ said,¬ Race said t
  known:∀ i a,touchAt t i=some a->a.loc.isMemory=true->K i\/Own a.loc\/(a.write=false/\Still a.loc/\∃ g,t.g? i=some g/\Loose g)
  wrote:∀ i a,touchAt t i=some a->a.write=true->Still a.loc->∀ g,Mem g->Knows t g i
  own:∀ i a,touchAt t i=some a->Own a.loc->t.g? i=some 0
  hears:∀ g,Mem g->Deaf t g=0
  seen:∀ op∈t,op.act.low B
section
variable {Own Still:Loc->Prop} {Mem Loose Mem' Loose':Nat->Prop} {B h:Nat} {K K':Nat->Prop} {t u:Trace}
theorem PastO.fewer (H:PastO Own Still Mem Loose B K t) (hM:∀ g,Mem' g->Mem g) (hL:∀ g,Loose g->Loose' g):PastO Own Still Mem' Loose' B K t :=
  ⟨H.clean,fun i a ha hm=>(H.known i a ha hm).imp id (Or.imp id fun⟨x,y,g,hg,hl⟩=>⟨x,y,g,hg,hL g hl⟩),fun i a ha hw hS g hg=>H.wrote i a ha hw hS g (hM g hg),H.own,fun g hg=>H.hears g (hM g hg),H.seen⟩
theorem PastO.mono {B':Nat} (H:PastO Own Still Mem Loose B K t) (hB:B<=B'):PastO Own Still Mem Loose B' K t:=⟨H.clean,H.known,H.wrote,H.own,H.hears,fun op hop=>MemAct.low_mono hB (H.seen op hop)⟩
theorem PastO.more {Own':Loc->Prop} (H:PastO Own Still Mem Loose B K t) (hO:∀ l,Own l->Own' l) (hn:∀ i a,touchAt t i=some a->Own' a.loc->t.g? i=some 0):PastO Own' Still Mem Loose B K t :=
  ⟨H.clean,fun i a ha hm=>(H.known i a ha hm).imp id (Or.imp (hO _) id),H.wrote,hn,H.hears,H.seen⟩
theorem PastO.mute (H:PastO Own Still Mem Loose B K t) (hK:∀ i,K i->K' i) (hL:∀ i g,t.g? i=some g->Loose g->K' i\/Loose' g) (hn:∀ op∈u,op.act.touch?=none)
    (hM:∀ g,Mem' g->∀ i,(∀ g0,Mem g0->Knows t g0 i)->Knows (t++u) g i) (hd:∀ g,Mem' g->Deaf (t++u) g=0) (hl:∀ op∈u,op.act.low B):PastO Own Still Mem' Loose' B K' (t++u):=by
  have hold:∀ i a,touchAt (t++u) i=some a->i<t.size/\touchAt t i=some a:=fun i a ha=>by
    obtain⟨x,hx,hxa⟩:=touch_of ha;rcases getElem?_append_cases hx with ⟨hi,hx'⟩|⟨_,hxu⟩
    . exact⟨hi,by rw [touchAt_of hx'];exact hxa⟩
    . rw [hn x hxu] at hxa;cases hxa
  refine⟨fun said=>noRace_appendMute (H.clean said) hn,fun i a ha hm=>?_,fun i a ha hw hS g hg=>?_,fun i a ha hO=>?_,hd,seen_app H.seen hl⟩
  . obtain⟨hi,ha'⟩:=hold i a ha;rcases H.known i a ha' hm with hk|hk|⟨p,q,g,hg,hl⟩
    . exact .inl (hK i hk)
    . exact .inr (.inl hk)
    . rcases hL i g hg hl with hk|hk
      . exact .inl hk
      . exact .inr (.inr ⟨p,q,g,by rw [g?_old hi];exact hg,hk⟩)
  . obtain⟨hi,ha'⟩:=hold i a ha;exact hM g hg i fun g0 hg0=>H.wrote i a ha' hw hS g0 hg0
  . obtain⟨hi,ha'⟩:=hold i a ha;rw [g?_old hi];exact H.own i a ha' hO
theorem PastO.hears_app {g:Nat} (H:PastO Own Still Mem Loose B K t) (hu:∀ op∈u,op.g=g) (hd:Deaf (t++u) g=Deaf t g):∀ g',Mem g'->Deaf (t++u) g'=0:=fun g' hg'=>by
  by_cases e:g'=g
  . subst e;exact hd.trans (H.hears g' hg')
  . exact (Deaf_other t (fun x=>e x.symm) u hu).trans (H.hears g' hg')
theorem PastO.appH (H:PastO Own Still Mem Loose B (Knows t h) t) (hu:∀ op∈u,op.g=h) (hs:∀ op∈u,∀ b,op.act.touch?=some b->(Still b.loc->b.write=false)/\(Own b.loc->h=0)) (hd:Deaf (t++u) h=Deaf t h) (hl:∀ op∈u,op.act.low B) :
    PastO Own Still Mem Loose B (Knows (t++u) h) (t++u):=by
  refine⟨fun said=>noRace_append (H.clean said) hu fun i a ha op hop b hb hc=>?_,fun i a ha hm=>?_,fun i a ha hw hS g hg=>?_,fun i a ha hO=>?_,H.hears_app hu hd,seen_app H.seen hl⟩
  . rcases H.known i a ha hc.2.1 with hk|hO|⟨hw,hS,_⟩
    . exact hk
    . have h0:=(hs op hop b hb).2 (hc.1 ▸ hO);have hg:=H.own i a ha hO;obtain⟨x,hx,hxg⟩:=Option.map_eq_some_iff.1 hg;have:=knows_own hx;rw [hxg,<-h0] at this;exact this
    . have hb0:=(hs op hop b hb).1 (hc.1 ▸ hS);rcases hc.2.2.1 with x|x
      . rw [hw] at x;cases x
      . rw [hb0] at x;cases x
  . obtain⟨x,hx,hxa⟩:=touch_of ha;rcases getElem?_append_cases hx with ⟨hi,hx'⟩|⟨_,hxu⟩
    . rcases H.known i a (by rw [touchAt_of hx'];exact hxa) hm with hk|hk|⟨p,q,g,hg,hl⟩
      . exact .inl (hk.app u)
      . exact .inr (.inl hk)
      . exact .inr (.inr ⟨p,q,g,by rw [g?_old hi];exact hg,hl⟩)
    . have:=knows_own hx;rw [hu x hxu] at this;exact .inl this
  . obtain⟨x,hx,hxa⟩:=touch_of ha;rcases getElem?_append_cases hx with ⟨_,hx'⟩|⟨_,hxu⟩
    . exact (H.wrote i a (by rw [touchAt_of hx'];exact hxa) hw hS g hg).app u
    . rw [(hs x hxu a hxa).1 hS] at hw;cases hw
  . obtain⟨x,hx,hxa⟩:=touch_of ha;rcases getElem?_append_cases hx with ⟨hi,hx'⟩|⟨_,hxu⟩
    . rw [g?_old hi];exact H.own i a (by rw [touchAt_of hx'];exact hxa) hO
    . rw [g?_of hx,hu x hxu,(hs x hxu a hxa).2 hO]
theorem PastO.appL {g:Nat} (H:PastO Own Still Mem Loose B K t) (hK:∀ i,K i->K' i) (hg:Mem g) (hL:Loose g) (hu:∀ op∈u,op.g=g)
    (hr:∀ op∈u,∀ b,op.act.touch?=some b->(Own b.loc/\g=0/\¬ Still b.loc)\/(b.write=false/\Still b.loc/\¬ Own b.loc)) (hd:Deaf (t++u) g=Deaf t g) (hl:∀ op∈u,op.act.low B):PastO Own Still Mem Loose B K' (t++u):=by
  refine⟨fun said=>noRace_append (H.clean said) hu fun i a ha op hop b hb hc=>?_,fun i a ha hm=>?_,fun i a ha hw hS g' hg'=>?_,fun i a ha hO=>?_,H.hears_app hu hd,seen_app H.seen hl⟩
  . rcases hr op hop b hb with ⟨hO,h0,_⟩|⟨hb0,hbS,_⟩
    . have hg:=H.own i a ha (hc.1 ▸ hO);obtain⟨x,hx,hxg⟩:=Option.map_eq_some_iff.1 hg;have:=knows_own hx;rw [hxg,<-h0] at this;exact this
    . rcases hc.2.2.1 with x|x
      . exact H.wrote i a ha x (hc.1 ▸ hbS) g hg
      . rw [hb0] at x;cases x
  . obtain⟨x,hx,hxa⟩:=touch_of ha;rcases getElem?_append_cases hx with ⟨hi,hx'⟩|⟨_,hxu⟩
    . rcases H.known i a (by rw [touchAt_of hx'];exact hxa) hm with hk|hk|⟨p,q,g,hg,hl⟩
      . exact .inl (hK i hk)
      . exact .inr (.inl hk)
      . exact .inr (.inr ⟨p,q,g,by rw [g?_old hi];exact hg,hl⟩)
    . rcases hr x hxu a hxa with ⟨hO,_⟩|⟨h1,h2,_⟩
      . exact .inr (.inl hO)
      . exact .inr (.inr ⟨h1,h2,g,by rw [g?_of hx,hu x hxu],hL⟩)
  . obtain⟨x,hx,hxa⟩:=touch_of ha;rcases getElem?_append_cases hx with ⟨_,hx'⟩|⟨_,hxu⟩
    . exact (H.wrote i a (by rw [touchAt_of hx'];exact hxa) hw hS g' hg').app u
    . rcases hr x hxu a hxa with ⟨_,_,h3⟩|⟨h1,_⟩
      . exact absurd hS h3
      . rw [h1] at hw;cases hw
  . obtain⟨x,hx,hxa⟩:=touch_of ha;rcases getElem?_append_cases hx with ⟨hi,hx'⟩|⟨_,hxu⟩
    . rw [g?_old hi];exact H.own i a (by rw [touchAt_of hx'];exact hxa) hO
    . rcases hr x hxu a hxa with ⟨_,h2,_⟩|⟨_,_,h3⟩
      . rw [g?_of hx,hu x hxu,h2]
      . exact absurd hO h3
end
section
variable {Own Still:Loc->Prop} {Mem Loose:Nat->Prop} {B h j c:Nat} {t u:Trace}
theorem zfB {q r:Nat} {y z:MemOp} (hq:t.size<=q) (hy:(t++u)[q]?=some y) (hz:(t++u)[r]?=some z) (edge:HappensBefore (t++u) q r) {i:Nat} (hk:Knows t y.g i):Knows (t++u) z.g i :=
  ⟨r,z,hz,rfl,.inr ((hk.hb_new hq hy rfl).trans edge)⟩
theorem zgX {m r:Nat} {z:MemOp} (hz:(t++u)[r]?=some z) (edge:HappensBefore (t++u) m r) {i:Nat} (hk:Before t i m):Knows (t++u) z.g i :=
  ⟨r,z,hz,rfl,.inr ((hk.app u).hb edge)⟩
theorem zit (j:Nat) {i g:Nat} (hg:t.g? i=some g) (hl:Loose g):Knows (t++u) j i\/(Loose g/\g≠j):=by
  by_cases e:g=j
  . subst e;obtain⟨x,hx,hxg⟩:=Option.map_eq_some_iff.1 hg;have:=(knows_own hx).app u;rw [hxg] at this;exact .inl this
  . exact .inr ⟨hl,e⟩
theorem PastO.give (H:PastO Own Still Mem Loose B (Knows t h) t) (hh:Mem h) (hj:Mem j) (fh:FuncId) (ph:String) (fj:FuncId) (pj:String) (k cap:Nat) (hc:c<B) :
    PastO Own Still Mem (fun g=>Loose g/\g≠j) B (Knows (t++met h j fh ph fj pj c k cap) j) (t++met h j fh ph fj pj c k cap):=by
  have hq:=met_quiet h j fh ph fj pj c k cap;have e0:(t++met h j fh ph fj pj c k cap)[t.size]?=some { g:=h,fn:=fh,pos:=ph,act:=.send c k }:=by simp [met]
  have e3:(t++met h j fh ph fj pj c k cap)[t.size+3]?=some { g:=j,fn:=fj,pos:=pj,act:=.recvDone c k }:=by simp [met]
  have edge:HappensBefore (t++met h j fh ph fj pj c k cap) t.size (t.size+3) :=
    Relation.TransGen.single (.inr ⟨.handOver (act?_of e0) (act?_of e3),⟨h,g?_of e0,by rw [deaf_old (Nat.le_refl _)];exact H.hears h hh⟩,⟨j,g?_of e3,by rw [deaf_quiet (hq j) 3 (by simp [met])];exact H.hears j hj⟩⟩)
  refine H.mute (fun i hk=>zfB (Nat.le_refl _) e0 e3 edge hk) (fun i g hg hl=>zit j hg hl) (met_mute _ _ _ _ _ _ _ _ _) (fun g hg i hk=>(hk g hg).app _) (fun g hg=>(Deaf_quiet (hq g)).trans (H.hears g hg)) fun op hop=>?_;simp only [met,List.mem_toArray,List.mem_cons,List.not_mem_nil,or_false] at hop;rcases hop with rfl|rfl|rfl|rfl<;>exact hc
theorem PastO.hireGive (H:PastO Own Still Mem Loose B (Knows t h) t) (hh:Mem h) (hc0:Deaf t c=0) (fh:FuncId) (ph:String) (fc:FuncId) :
    PastO Own Still (fun g=>Mem g\/g=c) Loose B (Knows (t++#[{ g:=h,fn:=fh,pos:=ph,act:=.go c },{ g:=c,fn:=fc,pos:=ph,act:=.start }]) c) (t++#[{ g:=h,fn:=fh,pos:=ph,act:=.go c },{ g:=c,fn:=fc,pos:=ph,act:=.start }]):=by
  generalize hu:(#[{ g:=h,fn:=fh,pos:=ph,act:=.go c },{ g:=c,fn:=fc,pos:=ph,act:=.start }]:Trace)=u;have hn:∀ op∈u,op.act.touch?=none:=by
    intro op hop;subst hu;simp only [List.mem_toArray,List.mem_cons,List.not_mem_nil,or_false] at hop;rcases hop with rfl|rfl<;>rfl
  have hq:∀ g,∀ op∈u,∀ d,deafStep g d op=d:=by
    intro g op hop d;subst hu;simp only [List.mem_toArray,List.mem_cons,List.not_mem_nil,or_false] at hop;rcases hop with rfl|rfl<;>rfl
  have e0:(t++u)[t.size]?=some { g:=h,fn:=fh,pos:=ph,act:=.go c }:=by subst hu;simp
  have e1:(t++u)[t.size+1]?=some { g:=c,fn:=fc,pos:=ph,act:=.start }:=by subst hu;simp
  have edge:HappensBefore (t++u) t.size (t.size+1) :=
    Relation.TransGen.single (.inr ⟨.spawn (act?_of e0) (act?_of e1) (g?_of e1),⟨h,g?_of e0,by rw [deaf_old (Nat.le_refl _)];exact H.hears h hh⟩,⟨c,g?_of e1,by rw [deaf_quiet (hq c) 1 (by subst hu;simp)];exact hc0⟩⟩)
  refine H.mute (fun i hk=>zfB (Nat.le_refl _) e0 e1 edge hk) (fun i g hg hl=>.inr hl) hn (fun g hg i hk=>?_) (fun g hg=>(Deaf_quiet (hq g)).trans (hg.elim (H.hears g) fun e=>e ▸ hc0)) fun op hop=>?_
  . rcases hg with hg|rfl
    . exact (hk g hg).app _
    . exact zfB (Nat.le_refl _) e0 e1 edge (hk h hh)
  . subst hu;simp only [List.mem_toArray,List.mem_cons,List.not_mem_nil,or_false] at hop;rcases hop with rfl|rfl<;>trivial
theorem PastO.away {m:Nat} {op:MemOp} (H:PastO Own Still Mem Loose B (Knows t h) t) (hm:t[m]?=some op) (hg:op.g=h) (hlast:∀ q z,t[q]?=some z->z.g=h->m<q->Before t q m):PastO Own Still Mem Loose B (fun i=>Before t i m) t:=by
  refine⟨H.clean,fun i a hi hmem=>(H.known i a hi hmem).imp (fun hk=>?_) id,H.wrote,H.own,H.hears,H.seen⟩;obtain⟨q,z,hq,hz,hb⟩:=hk;rcases Nat.lt_trichotomy q m with hlt|rfl|hgt
  . exact hb.trans (.inr (hb_po hlt hq hm (hz.trans hg.symm)))
  . exact hb
  . exact hb.trans (hlast q z hq hz hgt)
theorem PastO.takeClosed {m:Nat} (H:PastO Own Still Mem Loose B (fun i=>Before t i m) t) (ha:t.act? m=some (.close c)) (hhm:t.heard m) (hj:Mem j) (fj:FuncId) (pj:String) (hc:c<B) :
    PastO Own Still Mem (fun g=>Loose g/\g≠j) B (Knows (t++#[{ g:=j,fn:=fj,pos:=pj,act:=.recvClosed c }]) j) (t++#[{ g:=j,fn:=fj,pos:=pj,act:=.recvClosed c }]):=by
  generalize hu:(#[{ g:=j,fn:=fj,pos:=pj,act:=.recvClosed c }]:Trace)=u;obtain⟨z,hz,_⟩:=Option.map_eq_some_iff.1 (show (t[m]?).map (·.act)=some (.close c) from ha)
  have hlt:=lt_size_of_getElem? hz;have hn:∀ op∈u,op.act.touch?=none:=by
    intro op hop;subst hu;simp only [List.mem_toArray,List.mem_cons,List.not_mem_nil,or_false] at hop;subst hop;rfl
  have hq:∀ g,∀ op∈u,∀ d,deafStep g d op=d:=by
    intro g op hop d;subst hu;simp only [List.mem_toArray,List.mem_cons,List.not_mem_nil,or_false] at hop;subst hop;rfl
  have e0:(t++u)[t.size]?=some { g:=j,fn:=fj,pos:=pj,act:=.recvClosed c }:=by subst hu;simp
  have hhm':(t++u).heard m:=by
    obtain⟨g',hg',hd'⟩:=hhm;exact⟨g',by rw [g?_old hlt];exact hg',by rw [deaf_old (Nat.le_of_lt hlt)];exact hd'⟩
  have edge:HappensBefore (t++u) m t.size :=
    Relation.TransGen.single (.inr ⟨.closed (by simpa [Trace.act?,getElem?_append_old hlt] using ha) (act?_of e0),hhm',⟨j,g?_of e0,by rw [deaf_old (Nat.le_refl _)];exact H.hears j hj⟩⟩)
  refine H.mute (fun i hk=>zgX e0 edge hk) (fun i g hg hl=>zit j hg hl) hn (fun g hg i hk=>(hk g hg).app _) (fun g hg=>(Deaf_quiet (hq g)).trans (H.hears g hg)) fun op hop=>?_;subst hu;simp only [List.mem_toArray,List.mem_cons,List.not_mem_nil,or_false] at hop;subst hop;exact hc
theorem PastO.takeSent {k m:Nat} (H:PastO Own Still Mem Loose B (fun i=>Before t i m) t) (ha:t.act? m=some (.send c k)) (hhm:t.heard m) (hj:Mem j) (fj:FuncId) (pj:String) (cap:Nat) (hc:c<B) :
    PastO Own Still Mem (fun g=>Loose g/\g≠j) B (Knows (t++#[{ g:=j,fn:=fj,pos:=pj,act:=.recv c k cap },{ g:=j,fn:=fj,pos:=pj,act:=.recvDone c k }]) j) (t++#[{ g:=j,fn:=fj,pos:=pj,act:=.recv c k cap },{ g:=j,fn:=fj,pos:=pj,act:=.recvDone c k }]):=by
  generalize hu:(#[{ g:=j,fn:=fj,pos:=pj,act:=.recv c k cap },{ g:=j,fn:=fj,pos:=pj,act:=.recvDone c k }]:Trace)=u;obtain⟨z,hz,_⟩:=Option.map_eq_some_iff.1 (show (t[m]?).map (·.act)=some (.send c k) from ha)
  have hlt:=lt_size_of_getElem? hz;have hn:∀ op∈u,op.act.touch?=none:=by
    intro op hop;subst hu;simp only [List.mem_toArray,List.mem_cons,List.not_mem_nil,or_false] at hop;rcases hop with rfl|rfl<;>rfl
  have hq:∀ g,∀ op∈u,∀ d,deafStep g d op=d:=by
    intro g op hop d;subst hu;simp only [List.mem_toArray,List.mem_cons,List.not_mem_nil,or_false] at hop;rcases hop with rfl|rfl<;>rfl
  have e1:(t++u)[t.size+1]?=some { g:=j,fn:=fj,pos:=pj,act:=.recvDone c k }:=by subst hu;simp
  have hhm':(t++u).heard m:=by
    obtain⟨g',hg',hd'⟩:=hhm;exact⟨g',by rw [g?_old hlt];exact hg',by rw [deaf_old (Nat.le_of_lt hlt)];exact hd'⟩
  have edge:HappensBefore (t++u) m (t.size+1) :=
    Relation.TransGen.single (.inr ⟨.handOver (by simpa [Trace.act?,getElem?_append_old hlt] using ha) (act?_of e1),hhm',⟨j,g?_of e1,by rw [deaf_quiet (hq j) 1 (by subst hu;simp)];exact H.hears j hj⟩⟩)
  refine H.mute (fun i hk=>zgX e1 edge hk) (fun i g hg hl=>zit j hg hl) hn (fun g hg i hk=>(hk g hg).app _) (fun g hg=>(Deaf_quiet (hq g)).trans (H.hears g hg)) fun op hop=>?_;subst hu;simp only [List.mem_toArray,List.mem_cons,List.not_mem_nil,or_false] at hop;rcases hop with rfl|rfl<;>exact hc
end
end Go.Proofs.Ytgndgbnhkoppmaa
namespace Go.Proofs.Ytgndgbnhkoppmaa
open Go Go.Conc
open Go.ConcN (sumTo upd sumTo_upd upd_ne upd_same)
def ownL (OB:Nat->Prop) (l:Loc):Prop:=∃ a,l=.cell a/\OB a.block
def zcf (WB:Nat->Prop) (l:Loc):Prop:=∃ a,l=.cell a/\WB a.block/\3<=a.off
def Rl (OB WB:Nat->Prop) (i:Nat) (w w1:World):Prop:=(∀ a:Addr,WB a.block->3<=a.off->w1.cell? a=w.cell? a)/\(i=0->∀ b,OB b->w1.heap[b]?=w.heap[b]?)
theorem Rl.refl {OB WB:Nat->Prop} {i:Nat} (w:World):Rl OB WB i w w:=⟨fun _ _ _=>rfl,fun _ _ _=>rfl⟩
theorem Rl.trans {OB WB:Nat->Prop} {i:Nat} (a b c:World) (h:Rl OB WB i a b) (h':Rl OB WB i b c):Rl OB WB i a c :=
  ⟨fun x h1 h2=>(h'.1 x h1 h2).trans (h.1 x h1 h2),fun e b hb=>(h'.2 e b hb).trans (h.2 e b hb)⟩
def EvW (OB WB:Nat->Prop) (B i:Nat) (e:Event):Prop:=∃ a:Addr,a.block<B/\((e=⟨.cell a,false,false⟩/\WB a.block/\3<=a.off)\/(i=0/\OB a.block/\∃ wr,e=⟨.cell a,wr,false⟩))
structure Dw (OB WB:Nat->Prop) (B i:Nat) (w w':World) (es:Array Event):Prop where
  only:∀ b,¬ (i=0/\OB b)->w'.heap[b]?=w.heap[b]?
  size:w'.heap.size=w.heap.size
  rest:w'={ w with heap:=w'.heap }
  evs:∀ e∈es,EvW OB WB B i e
def AtS (P:Program) (s:Seat) (g gq:Goroutine):Prop :=
  g.status=.running/\g.frame=gq.frame/\g.callers=gq.callers/\g.dying=gq.dying/\s.home gq/\∀ main w,stepG P main g w=.comm gq s.cases true s.shape w
def SitsO (P:Program) (OB WB:Nat->Prop) (B:Nat) (Iv:Nat->World->Prop) (i:Nat) (s:Seat) (n:Nat) (g:Goroutine) (w:World):Prop :=
  (∃ k,n=k+1/\Conc.Goes P (i==0) (Rl OB WB i) (Dw OB WB B i) (fun g w=>(∃ gq,AtS P s g gq)/\Iv i w) k g w)\/(n=0/\(∃ gy gq,g=parked gq s.cases s.shape/\AtS P s gy gq)/\Iv i w)
def zgZ (P:Program) (OB WB:Nat->Prop) (B:Nat) (Iv:Nat->World->Prop) (T:Trace) (i n:Nat) (g:Goroutine) (w:World):Option Seat->Prop
  | none=>0<i/\QuitsD P n (Deaf T i) g
  | some s=>SitsO P OB WB B Iv i s n g w
section
variable {P:Program} {OB WB:Nat->Prop} {B:Nat} {Iv:Nat->World->Prop}
theorem SitsO.rely (hIv:∀ i w w1,Rl OB WB i w w1->Iv i w->Iv i w1) {i:Nat} {s:Seat} {n:Nat} {g:Goroutine} {w w1:World} (h:SitsO P OB WB B Iv i s n g w) (hr:Rl OB WB i w w1):SitsO P OB WB B Iv i s n g w1:=by
  rcases h with ⟨k,rfl,h⟩|h
  . exact .inl ⟨k,rfl,h.rely Rl.trans hr⟩
  . exact .inr ⟨h.1,h.2.1,hIv _ _ _ hr h.2.2⟩
theorem SitsO.status {i:Nat} {s:Seat} {n:Nat} {g:Goroutine} {w:World} (h:SitsO P OB WB B Iv i s n g w):(g.status=.running/\0<n)\/(g.status=.blocked/\n=0):=by
  rcases h with ⟨k,rfl,hg⟩|⟨rfl,⟨_,gq,rfl,_⟩,_⟩
  . refine .inl ⟨?_,by omega⟩
    cases k with
    | zero=>exact (hg w (Rl.refl w)).1.choose_spec.1
    | succ k=>exact hg.elim (fun x=>(x w (Rl.refl w)).1.choose_spec.1) (·.1)
  . exact .inr ⟨rfl,rfl⟩
theorem SitsO.again {i:Nat} {s:Seat} {n:Nat} {g:Goroutine} {w w1:World} (h:SitsO P OB WB B Iv i s n g w) (hwf:s.Wf) (hc:∀ c,s.has c->∃ cap buf a b tm,w1.heap[c]?=some (.chan cap buf false a b tm)):g.again w1=g:=by
  rcases h with h|⟨rfl,⟨_,gq,rfl,_⟩,_⟩
  . exact again_of_running (.inl ((SitsO.status (.inl h)).elim (·.1) (fun x=>by obtain⟨k,rfl,_⟩:=h;omega))) w1
  . refine again_all_open fun cc hcc=>?_;obtain⟨c,z,rfl⟩:=hwf.recvs cc hcc;obtain⟨cap,buf,a,b,tm,h⟩:=hc c (Seat.has_of_mem hcc);exact⟨c,z,cap,buf,a,b,tm,rfl,h⟩
end
structure CoF (P:Program) (OB WB:Nat->Prop) (B:Nat) (Iv:Nat->World->Prop) (K:Trace->Nat->Prop) (Mem Lo:Nat->Prop) (Inb:Nat->Option Seat) (Sp Dead:Nat->Prop) (T:Trace) (gs:Array Goroutine) (w:World) (q:Nat->Nat):Prop where
  idle:∀ i g,¬ Sp i->gs[i]?=some g->zgZ P OB WB B Iv T i (q i) g w (Inb i)
  chans:∀ i s c,¬ Dead i->Inb i=some s->s.has c->∃ cap k,w.heap[c]?=some (.chan cap #[] false k k false)
  far:∀ i s c,Inb i=some s->s.has c->¬ OB c
  wf:∀ i s,Inb i=some s->s.Wf
  live:∀ i g,Dead i->gs[i]?=some g->g.status=.running
  inj:∀ i i' s s' c,Inb i=some s->Inb i'=some s'->s.has c->s'.has c->i=i'
  above:∀ j,gs.size<=j->Deaf T j=0
  mem:∀ i s,Inb i=some s->Mem i/\∀ c,s.has c->c<B
  nomem:∀ i,Mem i->Inb i≠none\/Sp i
  lo:∀ i s,¬ Sp i->Inb i=some s->Lo i
  past:PastO (ownL OB) (zcf WB) Mem Lo B (K T) T
  apart:∀ b,OB b->¬ WB b
  ivst:∀ i w w1,Rl OB WB i w w1->Iv i w->Iv i w1
  lowB:B<=w.heap.size
section
variable {P:Program} {OB WB:Nat->Prop} {B:Nat} {Iv:Nat->World->Prop} {K:Trace->Nat->Prop} {Mem Lo:Nat->Prop} {Inb:Nat->Option Seat} {Sp Dead:Nat->Prop} {T:Trace} {gs:Array Goroutine} {w:World} {q:Nat->Nat}
structure Side (OB:Nat->Prop) (w w':World):Prop where
  only:∀ b,¬ OB b->w'.heap[b]?=w.heap[b]?
  size:w'.heap.size=w.heap.size
  rest:w'={ w with heap:=w'.heap }
theorem Side.refl (w:World):Side OB w w:=⟨fun _ _=>rfl,rfl,rfl⟩
theorem CoF.fixed (C:CoF P OB WB B Iv K Mem Lo Inb Sp Dead T gs w q) {w1:World} (hS:Side OB w w1) {x:Nat} {y:Goroutine} (hx:¬ Sp x) (hy:gs[x]?=some y):y.again w1=y:=by
  have h:=C.idle x y hx hy;cases e:Inb x with
  | none=>rw [e] at h;exact again_of_running h.2.status w1
  | some s =>
    rw [e] at h;by_cases hD:Dead x
    . exact again_of_running (.inl (C.live x y hD hy)) w1
    . exact SitsO.again h (C.wf x s e) fun c hc=>by
        obtain⟨cap,k,hk⟩:=C.chans x s c hD e hc;exact⟨_,_,_,_,_,by rw [hS.only c (C.far x s c e hc)];exact hk⟩
theorem CoF.noSend (C:CoF P OB WB B Iv K Mem Lo Inb Sp Dead T gs w q) {x:Nat} {y:Goroutine} (hx:¬ Sp x) (hy:gs[x]?=some y) (c:Nat):offersAt y c true=[]:=by
  have h:=C.idle x y hx hy;cases e:Inb x with
  | none =>
    rw [e] at h;exact offersAt_of_not_blocked (fun hb=>by rcases h.2.status with z|z<;>rw [z] at hb<;>cases hb) c true
  | some s =>
    rw [e] at h;rcases h with h|⟨_,⟨_,gq,rfl,_⟩,_⟩
    . have:=(SitsO.status (.inl h)).elim (·.1) (fun z=>by obtain⟨k,hk,_⟩:=h;omega)
      exact offersAt_of_not_blocked (fun hb=>by rw [this] at hb;cases hb) c true
    . exact offersAt_parked_sends (fun cc hcc=>by obtain⟨c',z',rfl⟩:=(C.wf x s e).recvs cc hcc;rfl) _
theorem CoF.at (C:CoF P OB WB B Iv K Mem Lo Inb Sp Dead T gs w q) (d:Nat):CoF P OB WB B Iv K Mem Lo Inb Sp Dead T gs (w.at d) q:=by
  refine⟨fun i g h1 h2=>?_,C.chans,C.far,C.wf,C.live,C.inj,C.above,C.mem,C.nomem,C.lo,C.past,C.apart,C.ivst,C.lowB⟩;have h:=C.idle i g h1 h2;cases e:Inb i with
  | none=>rw [e] at h;exact h
  | some s=>rw [e] at h;exact SitsO.rely C.ivst h ⟨fun _ _ _=>rfl,fun _ _ _=>rfl⟩
theorem zrG {i:Nat} {fn:FuncId} {pos:String} {es:Array Event} (hap:∀ b,OB b->¬ WB b) (h:∀ e∈es,EvW OB WB B i e) :
    (∀ op∈MemOp.ofEvents i fn pos es,op.g=i)/\(∀ op∈MemOp.ofEvents i fn pos es,∀ b,op.act.touch?=some b->(ownL OB b.loc/\i=0/\¬ zcf WB b.loc)\/(b.write=false/\zcf WB b.loc/\¬ ownL OB b.loc))/\(∀ op∈MemOp.ofEvents i fn pos es,op.act.low B)/\∀ t:Trace,Deaf (t++MemOp.ofEvents i fn pos es) i=Deaf t i:=by
  have hno:∀ a:Addr,OB a.block->¬ zcf WB (.cell a):=fun a ha ⟨b,e,hb,_⟩=>by
    simp only [Loc.cell.injEq] at e;subst e;exact hap _ ha hb
  have hno2:∀ a:Addr,WB a.block->¬ ownL OB (.cell a):=fun a ha ⟨b,e,hb⟩=>by
    simp only [Loc.cell.injEq] at e;subst e;exact hap _ hb ha
  refine⟨fun op hop=>by obtain⟨e,_,rfl⟩:=Conc.mem_ofEvents hop;rfl,fun op hop b hb=>?_,fun op hop=>?_,fun t=>?_⟩
  . obtain⟨e,he,rfl⟩:=Conc.mem_ofEvents hop;obtain⟨a,_,⟨rfl,h1,h2⟩|⟨h1,h2,wr,rfl⟩⟩:=h e he
    . simp only [ofEvent_cell0,MemAct.touch?,Option.some.injEq] at hb;subst hb;exact .inr ⟨rfl,⟨a,rfl,h1,h2⟩,hno2 a h1⟩
    . cases wr<;>(simp [MemAct.ofEvent,MemAct.touch?] at hb;subst hb;exact .inl ⟨⟨a,rfl,h2⟩,h1,hno a h2⟩)
  . obtain⟨e,he,rfl⟩:=Conc.mem_ofEvents hop;obtain⟨a,hB,⟨rfl,h1,h2⟩|⟨h1,h2,wr,rfl⟩⟩:=h e he
    . rw [ofEvent_cell0];exact hB
    . cases wr<;>exact hB
  . rw [Deaf_own];exact deafBehind_still (fun e he=>by
      obtain⟨a,_,⟨rfl,_⟩|⟨_,_,wr,rfl⟩⟩:=h e he
      . exact⟨by simp,by simp⟩
      . exact⟨by simp,by simp⟩) _
end
theorem zdH {w w':World} {a:Addr} (h:w'.heap[a.block]?=w.heap[a.block]?):w'.cell? a=w.cell? a:=by
  unfold World.cell?;rw [h]
section
variable {P:Program} {OB WB:Nat->Prop} {B:Nat} {Iv:Nat->World->Prop} {K:Trace->Nat->Prop} {Mem Lo:Nat->Prop} {Inb:Nat->Option Seat} {Sp Dead:Nat->Prop} {T:Trace} {gs:Array Goroutine} {w:World} {q:Nat->Nat}
theorem Side.rl {w':World} (hS:Side OB w w') (hap:∀ b,OB b->¬ WB b) {i x:Nat} (hw0:i≠0->w'=w) (hx:x≠i):Rl OB WB x w w' :=
  ⟨fun a ha _=>zdH (hS.only _ fun hb=>hap _ hb ha),fun e b _=>by rw [hw0 (by omega)]⟩
theorem CoF.put (C:CoF P OB WB B Iv K Mem Lo Inb Sp Dead T gs w q) {i n':Nat} {g':Goroutine} {ops:Array MemOp} {gs':Array Goroutine} {w':World} (hsz:gs'.size=gs.size) (hother:∀ x,x≠i->gs'[x]?=gs[x]?) (hself:gs'[i]?=some g')
    (hops:∀ op∈ops,op.g=i) (hlt:i<gs.size) (hS:Side OB w w') (hw0:i≠0->w'=w) (hlive:Dead i->g'.status=.running) (hidle:zgZ P OB WB B Iv (T++ops) i n' g' w' (Inb i)) (hpast:PastO (ownL OB) (zcf WB) Mem Lo B (K (T++ops)) (T++ops)) :
    CoF P OB WB B Iv K Mem Lo Inb Sp Dead (T++ops) gs' w' (upd q i n'):=by
  refine⟨fun x y hx hy=>?_,fun x s c hD e hc=>?_,C.far,C.wf,fun x y hx hy=>?_,C.inj,fun j hj=>?_,C.mem,C.nomem,C.lo,hpast,C.apart,C.ivst,by rw [hS.size];exact C.lowB⟩
  . by_cases e:x=i
    . subst e;rw [hself] at hy;obtain rfl:=Option.some.inj hy;rw [upd_same];exact hidle
    . rw [hother x e] at hy;rw [upd_ne q n' e];have h:=C.idle x y hx hy;cases es:Inb x with
      | none=>rw [es] at h;exact⟨h.1,by rw [Deaf_other T (fun z=>e z.symm) ops hops];exact h.2⟩
      | some s=>rw [es] at h;exact SitsO.rely C.ivst h (hS.rl C.apart hw0 e)
  . obtain⟨cap,k,hk⟩:=C.chans x s c hD e hc;exact⟨cap,k,by rw [hS.only c (C.far x s c e hc)];exact hk⟩
  . by_cases e:x=i
    . subst e;rw [hself] at hy;obtain rfl:=Option.some.inj hy;exact hlive hx
    . rw [hother x e] at hy;exact C.live x y hx hy
  . rw [Deaf_other T (g':=i) (by omega) ops hops]
    exact C.above j (by omega)
theorem CoF.by_step (hKT:∀ t u i,K t i->K (t++u) i) (C:CoF P OB WB B Iv K Mem Lo Inb Sp Dead T gs w q) {i:Nat} {g:Goroutine} {sl:Option (Nat × Nat)} (hi:gs[i]?=some g) (hsp:¬ Sp i) (hrun:g.status=.running)
    (hsA:∀ x gx w',Sp x->gs[x]?=some gx->Side OB w w'->gx.again w'=gx) (hDs:Dead i->Inb i≠none)
    (hsO:∀ s gq,Inb i=some s->AtS P s g gq->¬ Dead i/\∀ x gx c,Sp x->gs[x]?=some gx->s.has c->offersAt gx c true=[]) :
    ∃ (gs':Array Goroutine) (ops:Array MemOp) (q':Nat->Nat) (w':World),runT P (crowd gs w sl) i=(.next (crowd gs' w' sl),ops)/\gs'.size=gs.size/\(∀ x,Sp x->gs'[x]?=gs[x]?)/\Side OB w w'/\(i≠0->w'=w)/\(∀ x,x≠i->q' x=q x) /\
      (∀ s,Inb i=some s->q' i=0->∃ gq,AtS P s g gq)/\CoF P OB WB B Iv K Mem Lo Inb Sp Dead (T++ops) gs' w' q'/\sumTo gs.size q'<sumTo gs.size q:=by
  have hlt:i<gs.size:=(Array.getElem?_eq_some_iff.1 hi).1;have hne:∀ x,Sp x->x≠i:=fun x hx e=>hsp (e ▸ hx);have hfix:∀ (a a':Goroutine) (w':World),Side OB w w'->∀ (x:Nat) (y:Goroutine),gs[x]?=some y->woken P a a' w' y=y:=fun a a' w' hS x y hy=>woken_of_again (by
    by_cases hx:Sp x
    . exact hsA x y w' hx hy hS
    . exact C.fixed hS hx hy)
  have harr:∀ (a' g':Goroutine) (w':World),Side OB w w'->∀ x:Nat,x≠i->((gs.map (woken P g a' w')).setIfInBounds i g')[x]?=gs[x]?:=by
    intro a' g' w' hS x hx;rw [Array.getElem?_setIfInBounds_ne (fun e=>hx e.symm),Array.getElem?_map];cases e:gs[x]? with
    | none=>rfl
    | some y=>simp [hfix g a' w' hS x y e]
  have hself:∀ (a' g':Goroutine) (w':World),((gs.map (woken P g a' w')).setIfInBounds i g')[i]?=some g':=fun a' g' w'=>Array.getElem?_setIfInBounds_self_of_lt (by simpa using hlt)
  have hsum:∀ m k,q i=m->k<m->sumTo gs.size (upd q i k)<sumTo gs.size q:=by
    intro m k hqi hkm;have h2:sumTo gs.size (upd q i k)+m=sumTo gs.size q+k:=by
      have:=sumTo_upd q k id hlt;simpa [hqi] using this
    omega
  have hid:=C.idle i g hsp hi;cases e:Inb i with
  | none =>
    rw [e] at hid;obtain⟨hpos,hq⟩:=hid;have hi0:(i==0)=false:=by simp;omega
    cases hqi:q i with
    | zero=>rw [hqi] at hq;rw [hq.1] at hrun;cases hrun
    | succ k =>
      rw [hqi] at hq;rcases hq with ⟨hf,_⟩|⟨_,g',es,hm,hstp,hq'⟩
      . rw [hf] at hrun;cases hrun
      have hops:∀ op∈MemOp.ofEvents i g.frame.fn g.frame.place es,op.g=i:=fun op hop=>by obtain⟨e,_,rfl⟩:=Conc.mem_ofEvents hop;rfl
      refine⟨_,_,upd q i k,w,runT_crowd_go (sl:=sl) hi (by rw [hi0];exact hstp w),by simp,fun x hx=>harr _ _ w (Side.refl w) x (hne x hx),Side.refl w,fun _=>rfl,fun x hx=>upd_ne q k hx,fun s hs _=>(by cases hs),?_,hsum _ _ hqi (Nat.lt_succ_self _)⟩
      refine C.put (by simp) (harr _ _ w (Side.refl w)) (hself _ _ _) hops hlt (Side.refl w) (fun _=>rfl) (fun hD=>absurd e (hDs hD)) (by rw [e];exact⟨hpos,by rw [Deaf_own];exact hq'⟩) ?_
      have hnM:¬ Mem i:=fun hM=>(C.nomem i hM).elim (fun z=>absurd e z) (fun z=>absurd z hsp);exact C.past.mute (hKT T _) (fun _ _ _ hl=>.inr hl) (fun op hop=>by obtain⟨e,he,rfl⟩:=Conc.mem_ofEvents hop;exact touch_mute (hm e he)) (fun x hx i hk=>(hk x hx).app _)
        (fun x hx=>by rw [Deaf_other T (g':=i) (fun z=>hnM (z ▸ hx)) _ hops];exact C.past.hears x hx) (fun op hop=>by obtain⟨e,he,rfl⟩:=Conc.mem_ofEvents hop;exact low_mute (hm e he) B)
  | some s =>
    rw [e] at hid;obtain⟨hM,_⟩:=C.mem i s e;obtain⟨k,hqi,hg⟩:∃ k,q i=k+1/\Conc.Goes P (i==0) (Rl OB WB i) (Dw OB WB B i) (fun g w=>(∃ gq,AtS P s g gq)/\Iv i w) k g w:=by
      rcases hid with h|⟨_,⟨_,gq,rfl,_⟩,_⟩
      . exact h
      . cases hrun
    have hcase:((∃ gq,AtS P s g gq)/\Iv i w)\/∃ k' g' w' es,k=k'+1/\stepG P (i==0) g w=.go g' w' es/\Dw OB WB B i w w' es/\Conc.Goes P (i==0) (Rl OB WB i) (Dw OB WB B i) (fun g w=>(∃ gq,AtS P s g gq)/\Iv i w) k' g' w':=by
      cases k with
      | zero=>exact .inl (hg w (Rl.refl w))
      | succ k' =>
        rcases hg with hstop|⟨_,hstep⟩
        . exact .inl (hstop w (Rl.refl w))
        . have hs:=hstep w (Rl.refl w);cases hgo:stepG P (i==0) g w with
          | go g' w' es =>
            rw [hgo,goes_go] at hs;exact .inr ⟨k',g',w',es,rfl,rfl,hs.1,hs.2⟩
          | _=>rw [hgo] at hs;exact hs.elim
    rcases hcase with ⟨⟨gq,hat⟩,hiv⟩|⟨k',g',w',es,rfl,hgo,hD,hG'⟩
    . obtain⟨hnD,hsO'⟩:=hsO s gq e hat;obtain⟨_,_,_,_,_,hstp⟩:=id hat;have hw:∀ cc∈s.cases,NoWays w (gs.setIfInBounds i ph) cc:=by
        intro cc hcc;obtain⟨c,z,rfl⟩:=(C.wf i s e).recvs cc hcc;have hsc:=Seat.has_of_mem hcc;obtain⟨cap,kk,hc⟩:=C.chans i s c hnD e hsc;refine ways_recv_none hc (partners_nil fun x y hy=>?_);rcases getElem?_stand gs i x y hy with ⟨_,rfl⟩|⟨hx,hy'⟩
        . exact offersAt_ph _ _
        . by_cases hSx:Sp x
          . exact hsO' x y c hSx hy' hsc
          . exact C.noSend hSx hy' _
      have hops:∀ op∈MemOp.ofEvents i g.frame.fn g.frame.place #[],op.g=i:=fun op hop=>by obtain⟨e,he,_⟩:=Conc.mem_ofEvents hop;simp at he
      refine⟨_,_,upd q i 0,w,crowd_waits (sl:=sl) hi (hstp (i==0) w) hw,by simp,fun x hx=>Array.getElem?_setIfInBounds_ne (fun z=>hne x hx z.symm),Side.refl w,fun _=>rfl,fun x hx=>upd_ne q 0 hx,fun s' hs' _=>(by obtain rfl:=Option.some.inj hs';exact⟨gq,hat⟩),?_,hsum _ _ hqi (Nat.succ_pos _)⟩
      refine C.put (by simp) (fun x hx=>Array.getElem?_setIfInBounds_ne (fun z=>hx z.symm)) (Array.getElem?_setIfInBounds_self_of_lt hlt) hops hlt (Side.refl w) (fun _=>rfl) (fun hD=>absurd hD hnD) (by rw [e];exact .inr ⟨rfl,⟨g,gq,rfl,hat⟩,hiv⟩) ?_
      rw [show MemOp.ofEvents i g.frame.fn g.frame.place #[]=#[] from rfl]
      rw [Array.append_empty];exact C.past
    . obtain⟨hops,hr,hl,hd⟩:=zrG (i:=i) (fn:=g.frame.fn) (pos:=g.frame.place) C.apart hD.evs;have hS:Side OB w w':=⟨fun b hb=>hD.only b fun h=>hb h.2,hD.size,hD.rest⟩;have hw0:i≠0->w'=w:=fun h0=>by
        rw [hD.rest];have:w'.heap=w.heap:=Array.ext_getElem? fun b=>hD.only b fun h=>h0 h.1;rw [this]
      refine⟨_,_,upd q i (k'+1),w',runT_crowd_go (sl:=sl) hi hgo,by simp,fun x hx=>harr _ _ w' hS x (hne x hx),hS,hw0,fun x hx=>upd_ne q _ hx,fun s' _ h0=>(by rw [upd_same] at h0;omega),?_,hsum _ _ hqi (by omega)⟩
      refine C.put (by simp) (harr _ _ w' hS) (hself _ _ _) hops hlt hS hw0 (fun _=>(SitsO.status (.inl ⟨k',rfl,hG'⟩)).elim (·.1) (fun z=>by omega)) (by rw [e];exact .inl ⟨k',rfl,hG'⟩) ?_
      exact C.past.appL (hKT T _) hM (C.lo i s hsp e) hops hr (hd T) hl
end
end Go.Proofs.Ytgndgbnhkoppmaa
namespace Go.Proofs.Ytgndgbnhkoppmaa
open Go Go.Conc
def WT (w:World) (t:Tape):World:={ w with tape:=t }
inductive XN (P:Program):Nat->Goroutine->World->Goroutine->World->Prop
  | zero {c w}:XN P 0 c w c w
  | succ {n c w c' w' c'' w''} (h:XS P c w c' w') (ht:XN P n c' w' c'' w''):XN P (n+1) c w c'' w''
theorem XSt.count {P:Program} {c c':Goroutine} {w w':World} (h:XSt P c w c' w'):∃ n,XN P n c w c' w':=by
  induction h with
  | refl=>exact⟨0,.zero⟩
  | head x _ ih=>obtain⟨n,hn⟩:=ih;exact⟨n+1,.succ x hn⟩
inductive Tree (P:Program) (End:Goroutine->World->Prop):Goroutine->World->Prop
  | here {c w} (h:End c w):Tree P End c w
  | step {c w} (nx:Tape->Goroutine × World) (h:∀ t,XS P c (WT w t) (nx t).1 (nx t).2) (ht:∀ t,Tree P End (nx t).1 (nx t).2):Tree P End c w
section
variable {P:Program} {End:Goroutine->World->Prop}
theorem zqG {c c1 c2:Goroutine} {w w1 w2:World} (N:NoV w) (h1:XS P c w c1 w1) (h2:XS P c w c2 w2):c1=c2/\w1=w2:=by
  obtain⟨_,_,e1⟩:=h1.2 N;obtain⟨_,_,e2⟩:=h2.2 N;have:=(e1.go true).symm.trans (e2.go true);simp only [GStep.go.injEq] at this;exact⟨this.1,this.2.1⟩
theorem zlk {c c':Goroutine} {w w':World} (N:NoV w) (h:XS P c w c' w'):NoV w':=(h.2 N).1
theorem zpb {c c':Goroutine} {w w':World} (N:NoV w) (h:XS P c w c' w'):w.drawn<=w'.drawn:=(h.2 N).2.choose_spec.drawn
theorem zj4 {c c':Goroutine} {w w':World} (N:NoV w) (h:XS P c w c' w') (t:Tape) (ht:∀ i q,w.drawn<=i->i<w'.drawn->w.tape i q=t i q):XS P c (WT w t) c' (WT w' t):=by
  obtain⟨hr,h⟩:=h;refine⟨hr,fun _=>?_⟩;obtain⟨N',es,x⟩:=h N;refine⟨N',es,x.drawn,?_,fun main=>x.tape t ht main,fun t' ht' main=>x.tape t' (fun i q h1 h2=>(ht i q h1 h2).trans (ht' i q h1 h2)) main,fun B R main w2 S hd=>?_⟩
  . have:=x.keep;unfold WT;rw [this]
  . obtain⟨w',h1,h2,h3⟩:=x.move B R main w2 ⟨S.size,S.low,S.same,S.dead,S.cold,S.novw⟩ fun i q hi=>by
      rw [ht _ _ (by omega) hi]
      exact hd i q hi
    exact⟨w',h1,⟨h2.size,h2.low,h2.same,h2.dead,h2.cold,h2.novw⟩,h3⟩
theorem zrK {n:Nat} {c c':Goroutine} {w w':World} (h:XN P n c w c' w'):NoV w->∀ t:Tape,(∀ i q,w.drawn<=i->w.tape i q=t i q)->XN P n c (WT w t) c' (WT w' t):=by
  induction h with
  | zero=>intro _ t _;exact .zero
  | succ x _ ih =>
    intro N t ht;refine .succ (zj4 N x t fun i q h1 _=>ht i q h1) (ih (zlk N x) t fun i q h1=>?_);obtain⟨_,_,e⟩:=x.2 N;rw [e.keep];exact ht i q (Nat.le_trans e.drawn h1)
theorem zsK {n:Nat} {c c1:Goroutine} {w w1:World} (h1:XN P n c w c1 w1):∀ {c2 w2},NoV w->XN P n c w c2 w2->c1=c2/\w1=w2:=by
  induction h1 with
  | zero=>intro c2 w2 _ h;cases h;exact⟨rfl,rfl⟩
  | succ x _ ih =>
    intro c2 w2 N h;cases h with
    | succ y h =>
      obtain⟨rfl,rfl⟩:=zqG N x y;exact ih (zlk N x) h
def All (P:Program) (End:Goroutine->World->Prop) (c:Goroutine) (w:World):Prop:=∀ t,∃ n c' w',XN P n c (WT w t) c' w'/\End c' w'
theorem zpC (hE:∀ c w t,End c w->End c (WT w t)) {c:Goroutine} {w:World} (N:NoV w) (hA:All P End c w) (hT:¬ Tree P End c w) :
    ∃ t c' w',XS P c (WT w t) c' w'/\NoV w'/\All P End c' w'/\¬ Tree P End c' w':=by
  have hne:¬ End c w:=fun h=>hT (.here h);have hfirst:∀ t,∃ p:Goroutine × World,XS P c (WT w t) p.1 p.2:=fun t=>by
    obtain⟨n,c',w',hn,he⟩:=hA t;cases hn with
    | zero=>exact absurd (hE _ _ w.tape he) hne
    | succ x _=>exact⟨(_,_),x⟩
  have hex:∃ t,¬ Tree P End (hfirst t).choose.1 (hfirst t).choose.2:=Classical.byContradiction fun hno=>hT (.step (fun t=>(hfirst t).choose) (fun t=>(hfirst t).choose_spec) fun t=>Classical.byContradiction fun h=>hno ⟨t,h⟩);obtain⟨t,ht⟩:=hex;have hx:=(hfirst t).choose_spec;generalize (hfirst t).choose=p at ht hx;obtain⟨c',w'⟩:=p;have N':NoV w':=zlk (show NoV (WT w t) from N) hx
  refine⟨t,c',w',hx,N',fun t'=>?_,ht⟩
  let t2:Tape:=fun i q=>if i<w'.drawn then t i q else t' i q
  have hx2:XS P c (WT w t2) c' (WT w' t2):=zj4 (show NoV (WT w t) from N) hx t2 fun i q _ h2=>by simp [t2,h2,WT]
  obtain⟨n,e,we,hn,he⟩:=hA t2;cases hn with
  | zero=>exact absurd (hE _ _ w.tape he) hne
  | succ y hm =>
    obtain⟨rfl,rfl⟩:=zqG (show NoV (WT w t2) from N) y hx2
    exact⟨_,e,WT we t',zrK hm N' t' fun i q h1=>by
      have h1:w'.drawn<=i:=h1;simp [t2,WT,Nat.not_lt.2 h1],hE _ _ t' he⟩
theorem zky (hE:∀ c w t,End c w->End c (WT w t)) {c:Goroutine} {w:World} (N:NoV w) (hA:All P End c w):Tree P End c w:=by
  refine Classical.byContradiction fun hT=>?_
  let S:={ s:Goroutine × World // NoV s.2/\All P End s.1 s.2/\¬ Tree P End s.1 s.2 }
  have hstep:∀ s:S,∃ q:Tape × S,XS P s.1.1 (WT s.1.2 q.1) q.2.1.1 q.2.1.2:=fun s=>by
    obtain⟨t,c',w',h1,h2⟩:=zpC hE s.2.1 s.2.2.1 s.2.2.2;exact⟨(t,⟨(c',w'),h2⟩),h1⟩
  let sq:Nat->S:=fun n=>Nat.rec ⟨(c,w),N,hA,hT⟩ (fun _ s=>(hstep s).choose.2) n
  let tp:Nat->Tape:=fun n=>(hstep (sq n)).choose.1
  have hs:∀ n,XS P (sq n).1.1 (WT (sq n).1.2 (tp n)) (sq (n+1)).1.1 (sq (n+1)).1.2:=fun n=>(hstep (sq n)).choose_spec;have hd1:∀ n,(sq n).1.2.drawn<=(sq (n+1)).1.2.drawn:=fun n=>show (WT (sq n).1.2 (tp n)).drawn<=_ from zpb (show NoV (WT (sq n).1.2 (tp n)) from (sq n).2.1) (hs n)
  have hd:∀ n m,n<=m->(sq n).1.2.drawn<=(sq m).1.2.drawn:=fun n m h=>by
    induction h with
    | refl=>exact Nat.le_refl _
    | step _ ih=>exact Nat.le_trans ih (hd1 _)
  let T:Tape:=fun i q=>open Classical in if h:∃ k,(sq k).1.2.drawn<=i/\i<(sq (k+1)).1.2.drawn then tp h.choose i q else 0
  have hTk:∀ k i q,(sq k).1.2.drawn<=i->i<(sq (k+1)).1.2.drawn->tp k i q=T i q:=fun k i q h1 h2=>by
    have hex:∃ k,(sq k).1.2.drawn<=i/\i<(sq (k+1)).1.2.drawn:=⟨k,h1,h2⟩;have hk:hex.choose=k:=by
      obtain⟨h3,h4⟩:=hex.choose_spec;rcases Nat.lt_trichotomy hex.choose k with h|h|h
      . have:=hd (hex.choose+1) k h;omega
      . exact h
      . have:=hd (k+1) hex.choose h;omega
    have:T i q=tp hex.choose i q:=dif_pos hex;rw [this,hk]
  have hsT:∀ n,XS P (sq n).1.1 (WT (sq n).1.2 T) (sq (n+1)).1.1 (WT (sq (n+1)).1.2 T):=fun n=>zj4 (show NoV (WT (sq n).1.2 (tp n)) from (sq n).2.1) (hs n) T fun i q h1 h2=>hTk n i q h1 h2
  have hn:∀ n k m,m=k+n->XN P n (sq k).1.1 (WT (sq k).1.2 T) (sq m).1.1 (WT (sq m).1.2 T):=fun n=>by
    induction n with
    | zero=>intro k m h;subst h;exact .zero
    | succ n ih=>intro k m h;exact .succ (hsT k) (ih (k+1) m (by omega))
  obtain⟨n,e,we,h1,h2⟩:=hA T;obtain⟨rfl,rfl⟩:=zsK (h1:XN P n (sq 0).1.1 (WT (sq 0).1.2 T) e we) (show NoV (WT (sq 0).1.2 T) from N) (hn n 0 n (by omega))
  exact (sq n).2.2.2 (.here (hE _ (WT (sq n).1.2 T) (sq n).1.2.tape h2))
end
theorem zq8 {P:Program} {c c':Goroutine} {w w':World} (h:XSt P c w c' w'):NoV w->NoV w':=by
  induction h with
  | refl=>exact id
  | head x _ ih=>exact fun N=>ih (zlk N x)
section
variable {P:Program} {σ:Type} {X:Face P σ}
theorem zjg {fr:Frame} {w:World} {v:Value} (N:NoV w) (h:fr.leaving P w (.returned v)) (t:Tape):fr.leaving P (WT w t) (.returned v):=by
  obtain⟨h1,h2,h3,fn,h4,h5⟩:=h;refine⟨h1,h2,h3,fn,h4,?_⟩;have h6:(results fn fr.tmps).runT P w #[]=(.ok v w,(results fn fr.tmps).events P w #[]):=by rw [Sem.runT_eq,h5]
  have h7:=ziZ (zdZ fn fr.tmps) N h6 t (fun i q h1 h2=>absurd h2 (by omega))
  rw [Sem.runT_eq,Prod.mk.injEq] at h7;exact h7.1
theorem zgK {F:Emb} {b:Frame} {cs:List Frame} {c:Conf σ} {w:World} {g:Goroutine} (N:NoV w) (h:zc5 P F b cs c w g) (t:Tape):zc5 P F b cs c (WT w t) g:=by
  cases c with
  | run todo tmps hh S=>exact h
  | done v hh S =>
    obtain⟨fr,h1,h2,h3⟩:=h;exact⟨fr,h1,h2,zjg N h3 t⟩
theorem zjG {F:Emb} {w0 w:World} {M:Nat->Prop} {c:Conf σ} (h:InvC X F w0 M c w) (t:Tape):InvC X F (WT w0 t) M c (WT w t):=by
  obtain⟨I,hl⟩:=h;exact⟨⟨⟨I.holds.row,I.holds.apart⟩,X.rep_kept _ _ _ _ I.rep (Nat.le_refl _) (fun _ _=>rfl),I.vst,I.hst,I.hk,I.hand,I.klim,⟨I.kept.os,rfl,I.kept.output,I.kept.size,I.kept.block⟩,I.own,I.fown,I.sep⟩,hl⟩
theorem Goes.tree {fn:Func} {A:Conf σ->Prop} {c:Conf σ} (G:Goes X fn A c) {b:Frame} {cs:List Frame} {F:Emb} {w0 w:World} {M:Nat->Prop} {g:Goroutine} (hb:P.funcs[b.fn]?=some fn) (hk:b.kind=.normal) (hS:zc5 P F b cs c w g) (hI:InvC X F w0 M c w) (N:NoV w) :
    Tree P (fun g' w'=>NoV w'/\∃ c' F',A c'/\zc5 P F' b cs c' w' g'/\InvC X F' (WT w0 w'.tape) M c' w'/\Same (Kn (heap c).next (X.cnt (st c))) F F'/\X.cnt (st c)<=X.cnt (st c')/\(heap c).next<=(heap c').next) g w:=by
  refine zky (fun g' w' t h=>?_) N fun t=>?_
  . obtain⟨N',c',F',h1,h2,h3,h4⟩:=h;exact⟨N',c',F',h1,zgK N' h2 t,zjG h3 t,h4⟩
  . obtain⟨c',F',w',g',h1,h2,h3,h4,h5⟩:=G.simul b cs F (WT w0 t) (WT w t) M g hb hk (zgK N hS t) (zjG hI t);obtain⟨n,hn⟩:=h2.count;refine⟨n,g',w',hn,zq8 h2 N,c',F',h1,h3,?_,h5⟩;have ht:w'.tape=t:=h4.1.kept.tape;rw [ht];exact h4
end
end Go.Proofs.Ytgndgbnhkoppmaa
namespace Go.Proofs.Ytgndgbnhkoppmaa
open Go Go.Conc
open Go.ConcN (sumTo upd sumTo_upd upd_ne upd_same)
theorem zjb {P:Program} {main:Bool} {R:World->World->Prop} {D D':World->World->Array Event->Prop} {Stop:Goroutine->World->Prop} (hD:∀ w w' es,D w w' es->D' w w' es):∀ {n:Nat} {g:Goroutine} {w:World},Conc.Goes P main R D Stop n g w->Conc.Goes P main R D' Stop n g w
  | 0,_,_,h=>h
  | n+1,g,w,h=>by
    rcases h with h|⟨hs,h⟩
    . exact .inl h
    . refine .inr ⟨hs,fun w₁ h₁=>?_⟩;have:=h w₁ h₁;cases hgo:stepG P main g w₁ with
      | go g' w' es =>
        rw [hgo,goes_go] at this;rw [goes_go];exact⟨hD _ _ _ this.1,zjb hD this.2⟩
      | _=>rw [hgo] at this;exact this.elim
section
variable {P:Program} {OB WB:Nat->Prop} {B:Nat} {Iv:Nat->World->Prop} {K:Trace->Nat->Prop} {Mem Lo:Nat->Prop} {Inb:Nat->Option Seat} {Sp Dead:Nat->Prop} {T:Trace} {gs:Array Goroutine} {w:World} {q:Nat->Nat}
theorem EvW.mono {B' i:Nat} (hB:B<=B') {e:Event} (h:EvW OB WB B i e):EvW OB WB B' i e:=by
  obtain⟨a,h1,h2⟩:=h;exact⟨a,by omega,h2⟩
theorem SitsO.mono {B' i:Nat} {s:Seat} {n:Nat} {g:Goroutine} (hB:B<=B') (h:SitsO P OB WB B Iv i s n g w):SitsO P OB WB B' Iv i s n g w:=by
  rcases h with ⟨k,h1,h2⟩|h
  . exact .inl ⟨k,h1,zjb (fun _ _ _ d=>⟨d.only,d.size,d.rest,fun e he=>(d.evs e he).mono hB⟩) h2⟩
  . exact .inr h
theorem CoF.idleB {B':Nat} (hB:B<=B') (C:CoF P OB WB B Iv K Mem Lo Inb Sp Dead T gs w q) (i:Nat) (g:Goroutine) (h1:¬ Sp i) (h2:gs[i]?=some g):zgZ P OB WB B' Iv T i (q i) g w (Inb i):=by
  have h:=C.idle i g h1 h2;cases e:Inb i with
  | none=>rw [e] at h;exact h
  | some s=>rw [e] at h;exact SitsO.mono hB h
theorem CoF.memB {B':Nat} (hB:B<=B') (C:CoF P OB WB B Iv K Mem Lo Inb Sp Dead T gs w q) (i:Nat) (s:Seat) (e:Inb i=some s):Mem i/\∀ c,s.has c->c<B':=⟨(C.mem i s e).1,fun c hc=>Nat.lt_of_lt_of_le ((C.mem i s e).2 c hc) hB⟩
theorem CoF.mono {B':Nat} (hB:B<=B') (hB':B'<=w.heap.size) (C:CoF P OB WB B Iv K Mem Lo Inb Sp Dead T gs w q):CoF P OB WB B' Iv K Mem Lo Inb Sp Dead T gs w q:=by
  refine⟨fun i g h1 h2=>?_,C.chans,C.far,C.wf,C.live,C.inj,C.above,fun i s e=>⟨(C.mem i s e).1,fun c hc=>by have:=(C.mem i s e).2 c hc;omega⟩,C.nomem,C.lo,C.past.mono hB,C.apart,C.ivst,hB'⟩
  have h:=C.idle i g h1 h2;cases e:Inb i with
  | none=>rw [e] at h;exact h
  | some s=>rw [e] at h;exact SitsO.mono hB h
theorem CoF.awake (C:CoF P OB WB B Iv K Mem Lo Inb Sp Dead T gs w q) (hs:∀ x g,Sp x->gs[x]?=some g->g.status=.running\/g.status=.blocked):∀ g∈gs,awake g:=by
  intro g hg;obtain⟨i,hi,rfl⟩:=Array.mem_iff_getElem.1 hg;have hgi:gs[i]?=some gs[i]:=Array.getElem?_eq_getElem hi;by_cases e:Sp i
  . exact awake_of ((hs i _ e hgi).elim .inl fun x=>.inr (.inl x))
  . have hid:=C.idle i _ e hgi;cases es:Inb i with
    | none=>rw [es] at hid;exact awake_of (hid.2.status.elim .inl fun x=>.inr (.inr x))
    | some s=>rw [es] at hid;exact awake_of ((SitsO.status hid).elim (fun x=>.inl x.1) fun x=>.inr (.inl x.1))
def RingO (P:Program) (OB WB:Nat->Prop) (B:Nat) (Iv:Nat->World->Prop) (Mem:Nat->Prop) (Inb:Nat->Option Seat) (h:Nat) (T:Trace) (gs:Array Goroutine) (w:World) (q:Nat->Nat):Prop :=
  CoF P OB WB B Iv (fun t=>Knows t h) Mem (fun g=>g≠h/\(Inb g).isSome) Inb (·=h) (fun _=>False) T gs w q
structure zgG (OB WB:Nat->Prop) (Inb:Nat->Option Seat) (h:Nat) (BB RR:Nat->Prop):Prop where
  own:∀ b,OB b->h≠0->BB b
  waits:∀ b,WB b->BB b\/RR b
  chans:∀ i s c,Inb i=some s->s.has c->BB c
theorem zqw {BB RR:Nat->Prop} {n h:Nat} {fn:FuncId} {pos:String} {es:Array Event} (F:zgG OB WB Inb h BB RR) (hB:n<=B) (he:∀ e∈es,Own1 BB RR n e) :
    (∀ op∈MemOp.ofEvents h fn pos es,op.g=h)/\(∀ op∈MemOp.ofEvents h fn pos es,∀ b,op.act.touch?=some b->(zcf WB b.loc->b.write=false)/\(ownL OB b.loc->h=0))/\(∀ op∈MemOp.ofEvents h fn pos es,op.act.low B)/\∀ t:Trace,Deaf (t++MemOp.ofEvents h fn pos es) h=Deaf t h:=by
  refine⟨fun op hop=>by obtain⟨e,_,rfl⟩:=Conc.mem_ofEvents hop;rfl,fun op hop b hb=>?_,fun op hop=>?_,fun t=>?_⟩
  . obtain⟨e,he',rfl⟩:=Conc.mem_ofEvents hop;rcases he e he' with rfl|⟨hsy,a,hloc,h1,h2,h3⟩
    . simp [MemAct.ofEvent,MemAct.touch?] at hb
    . obtain⟨l,wr,sy⟩:=e;simp only at hsy hloc h2;subst hsy hloc;have hbl:b.loc=.cell a/\b.write=wr:=by
        cases wr<;>(simp [MemAct.ofEvent,MemAct.touch?] at hb;subst hb;exact⟨rfl,rfl⟩)
      rw [hbl.1,hbl.2];refine⟨fun⟨a',e,ha,_⟩=>?_,fun⟨a',e,ha⟩=>?_⟩
      . simp only [Loc.cell.injEq] at e;subst e;rcases F.waits _ ha with hx|hx
        . exact absurd hx h1
        . cases wr
          . rfl
          . exact absurd hx (h2 rfl)
      . simp only [Loc.cell.injEq] at e;subst e;by_cases h0:h=0
        . exact h0
        . exact absurd (F.own _ ha h0) h1
  . obtain⟨e,he',rfl⟩:=Conc.mem_ofEvents hop;rcases he e he' with rfl|⟨hsy,a,hloc,h1,h2,h3⟩
    . exact trivial
    . obtain⟨l,wr,sy⟩:=e;simp only at hsy hloc;subst hsy hloc;cases wr<;>exact Nat.lt_of_lt_of_le h3 hB
  . rw [Deaf_own];exact deafBehind_still (fun e he'=>by
      rcases he e he' with rfl|⟨hsy,a,hloc,_⟩
      . exact⟨by simp,by simp⟩
      . exact⟨by rw [hloc];simp,by rw [hloc];simp⟩) _
end
section
variable {P:Program} {OB WB:Nat->Prop} {B:Nat} {Iv:Nat->World->Prop} {K:Trace->Nat->Prop} {Mem Lo:Nat->Prop} {Inb:Nat->Option Seat} {Sp Dead:Nat->Prop} {T:Trace} {gs:Array Goroutine} {w:World} {q:Nat->Nat} {h:Nat} {BB RR:Nat->Prop}
theorem CoF.fixed' (C:CoF P OB WB B Iv K Mem Lo Inb Sp Dead T gs w q) {w1:World} (hS:∀ i s c,Inb i=some s->s.has c->w1.heap[c]?=w.heap[c]?) {x:Nat} {y:Goroutine} (hx:¬ Sp x) (hy:gs[x]?=some y):y.again w1=y:=by
  have h:=C.idle x y hx hy;cases e:Inb x with
  | none=>rw [e] at h;exact again_of_running h.2.status w1
  | some s =>
    rw [e] at h;by_cases hD:Dead x
    . exact again_of_running (.inl (C.live x y hD hy)) w1
    . exact SitsO.again h (C.wf x s e) fun c hc=>by
        obtain⟨cap,k,hk⟩:=C.chans x s c hD e hc;exact⟨_,_,_,_,_,by rw [hS x s c e hc];exact hk⟩
theorem RingO.own (C:RingO P OB WB B Iv Mem Inb h T gs w q) (F:zgG OB WB Inb h BB RR) {a a':Goroutine} {w':World} {es:Array Event} (ha:gs[h]?=some a) (hfr:∀ b,BB b\/RR b->w'.heap[b]?=w.heap[b]?) (he:∀ e∈es,Own1 BB RR w'.heap.size e) (hwz:w.heap.size<=w'.heap.size) :
    RingO P OB WB (max B w'.heap.size) Iv Mem Inb h (T++MemOp.ofEvents h a.frame.fn a.frame.place es) ((gs.map (woken P a a' w')).setIfInBounds h a') w' q/\((gs.map (woken P a a' w')).setIfInBounds h a')[h]?=some a':=by
  have hlt:h<gs.size:=(Array.getElem?_eq_some_iff.1 ha).1;have hBm:B<=max B w'.heap.size:=Nat.le_max_left _ _;obtain⟨hops,hs,hl,hdf⟩:=zqw (B:=max B w'.heap.size) (h:=h) (fn:=a.frame.fn) (pos:=a.frame.place) F (Nat.le_max_right _ _) he;have hch:∀ i s c,Inb i=some s->s.has c->w'.heap[c]?=w.heap[c]?:=fun i s c hi hc=>hfr c (.inl (F.chans i s c hi hc));have hrl:∀ x,x≠h->Rl OB WB x w w':=fun x hx=>⟨fun ad had _=>zdH (hfr _ (F.waits _ had)),fun e b hb=>hfr b (.inl (F.own b hb (by omega)))⟩
  refine⟨⟨fun x y hx hy=>?_,fun i s c _ hi hc=>?_,C.far,C.wf,fun _ _ hx=>hx.elim,C.inj,fun j hj=>?_,CoF.memB hBm C,C.nomem,C.lo,PastO.appH (C.past.mono hBm) hops hs (hdf T) hl,C.apart,C.ivst,Nat.max_le.2 ⟨Nat.le_trans C.lowB hwz,Nat.le_refl _⟩⟩,Array.getElem?_setIfInBounds_self_of_lt (by simpa using hlt)⟩
  . rw [Array.getElem?_setIfInBounds_ne (fun e=>hx e.symm),Array.getElem?_map] at hy;obtain⟨yq,hyq,rfl⟩:=Option.map_eq_some_iff.1 hy;rw [woken_of_again (CoF.fixed' C hch hx hyq)];have hi:=CoF.idleB hBm C x yq hx hyq;cases es':Inb x with
    | none=>rw [es'] at hi;exact⟨hi.1,by rw [Deaf_other T (fun z=>hx z.symm) _ hops];exact hi.2⟩
    | some s=>rw [es'] at hi;exact SitsO.rely C.ivst hi (hrl x hx)
  . obtain⟨cap,k,hk⟩:=C.chans i s c (fun z=>z) hi hc;exact⟨cap,k,by rw [hch i s c hi hc];exact hk⟩
  . simp only [Array.size_setIfInBounds,Array.size_map] at hj;rw [Deaf_other T (g':=h) (by omega) _ hops]
    exact C.above j hj
theorem zqq {w0 w:World} (S:Shade BB RR w0 w) (t:Tape):Shade BB RR (WT w0 t) w:=⟨S.size,S.low,S.same,S.dead,S.cold,S.novw⟩
theorem zpe {w0 w:World} (S:Shade BB RR w0 w) (d:Nat):Shade BB RR w0 (w.at d):=⟨S.size,S.low,S.same,S.dead,S.cold,S.novw⟩
theorem zhU {w0 w w':World} (S:Shade BB RR w0 w) (hs:w'.heap.size=w.heap.size) (ho:∀ b,¬ BB b->w'.heap[b]?=w.heap[b]?):Shade BB RR w0 w' :=
  ⟨by rw [hs];exact S.size,fun b hb=>by rw [hs];exact S.low b hb,fun b h1 h2=>(S.same b h1 h2).trans (ho b h1).symm,S.dead,fun b h1 h2=>by rw [ho b h2];exact S.cold b h1 h2,S.novw⟩
structure Step2 (OB BB RR:Nat->Prop) (h:Nat) (w w':World):Prop where
  keep:∀ b,BB b\/RR b->¬ (OB b/\h≠0)->w'.heap[b]?=w.heap[b]?
  size:w.heap.size<=w'.heap.size
  os:w'.os=w.os
  tape:w'.tape=w.tape
  output:w'.output=w.output
theorem Step2.refl (w:World):Step2 OB BB RR h w w:=⟨fun _ _ _=>rfl,Nat.le_refl _,rfl,rfl,rfl⟩
theorem Step2.trans {a b c:World} (x:Step2 OB BB RR h a b) (y:Step2 OB BB RR h b c):Step2 OB BB RR h a c :=
  ⟨fun b h1 h2=>(y.keep b h1 h2).trans (x.keep b h1 h2),Nat.le_trans x.size y.size,y.os.trans x.os,y.tape.trans x.tape,y.output.trans x.output⟩
structure SOs (w w':World):Prop where
  os:w'.os=w.os
  tape:w'.tape=w.tape
  output:w'.output=w.output
theorem SOs.refl (w:World):SOs w w:=⟨rfl,rfl,rfl⟩
theorem SOs.trans {a b c:World} (x:SOs a b) (y:SOs b c):SOs a c:=⟨y.os.trans x.os,y.tape.trans x.tape,y.output.trans x.output⟩
theorem SOs.side {w w':World} {d:Nat} (h:w'={ w.at d with heap:=w'.heap }):SOs w w':=⟨(congrArg World.os h).trans rfl,(congrArg World.tape h).trans rfl,(congrArg World.output h).trans rfl⟩
theorem SOs.of {w w':World} {d:Nat} (h:w'={ w.at d with heap:=w'.heap,drawn:=w'.drawn }):SOs w w':=⟨(congrArg World.os h).trans rfl,(congrArg World.tape h).trans rfl,(congrArg World.output h).trans rfl⟩
def Reach (P:Program) (m:Machine) (t:Trace) (Q:Machine->Trace->Prop):Prop:=∃ N m' t',runNT P N m t=(.next m',t')/\SOs m.world m'.world/\Q m' t'
theorem Reach.here {m:Machine} {t:Trace} {Q:Machine->Trace->Prop} (h:Q m t):Reach P m t Q:=⟨0,m,t,rfl,.refl _,h⟩
theorem Reach.head {m m':Machine} {t:Trace} {ops:Trace} {Q:Machine->Trace->Prop} (hs:stepT P m=(.next m',ops)) (h:Reach P m' (t++ops) Q) (ho:SOs m.world m'.world:=by exact⟨rfl,rfl,rfl⟩):Reach P m t Q:=by
  obtain⟨N,m2,t2,hr,ho2,hq⟩:=h;exact⟨N+1,m2,t2,by simp only [runNT,hs];exact hr,ho.trans ho2,hq⟩
theorem Reach.bind {m:Machine} {t:Trace} {Q Q':Machine->Trace->Prop} (h:Reach P m t Q) (hq:∀ m' t',Q m' t'->Reach P m' t' Q'):Reach P m t Q':=by
  obtain⟨N,m1,t1,h1,ho1,h2⟩:=h;obtain⟨N',m2,t2,h3,ho2,h4⟩:=hq m1 t1 h2;exact⟨N+N',m2,t2,runNT_then h1 h3,ho1.trans ho2,h4⟩
theorem ziN {End:Goroutine->World->Prop} (hrunE:∀ g w,End g w->g.status=.running) {a:Goroutine} {w0:World} (hT:Tree P End a w0):∀ (n:Nat) {B:Nat} {T:Trace} {gs:Array Goroutine} {w:World} {q:Nat->Nat} {sl:Option (Nat × Nat)},sumTo gs.size q=n->gs[h]?=some a->Shade BB RR w0 w->zgG OB WB Inb h BB RR->RingO P OB WB B Iv Mem Inb h T gs w q ->
    Reach P (crowd gs w sl) T fun m' T'=>∃ gs' a' w0' w' sl' q' B',m'=crowd gs' w' sl'/\gs'.size=gs.size/\gs'[h]?=some a'/\End a' w0'/\Shade BB RR w0' w'/\Step2 OB BB RR h w w'/\RingO P OB WB B' Iv Mem Inb h T' gs' w' q':=by
  induction hT with
  | here he=>intro n B T gs w q sl _ ha S F C;exact .here ⟨gs,_,_,w,sl,q,B,rfl,rfl,ha,he,S,Step2.refl w,C⟩
  | @step c w0 nx hx ht ih =>
    intro n
    induction n using Nat.strongRecOn with
    | _ n ihn =>
      intro B T gs w q sl hn ha S F C;have hrun:c.status=.running:=(hx w.tape).1;obtain⟨i,g,d,sl',hi,hg,hst⟩:=crowd_pick (P:=P) (w:=w) (sl:=sl) (CoF.awake C fun x g hx hgx=>by subst hx;rw [ha] at hgx;obtain rfl:=Option.some.inj hgx;exact .inl hrun) ⟨h,c,ha,hrun⟩
      have Cd:RingO P OB WB B Iv Mem Inb h T gs (w.at d) q:=CoF.at C d;have Sd:=zpe S d;by_cases e:i=h
      . subst e;obtain rfl:g=c:=by rw [ha] at hi;exact (Option.some.inj hi).symm
        let t:Tape:=fun k qq=>w.tape (d+(k - w0.drawn)) qq
        obtain⟨_,es,x⟩:=(hx t).2 (show NoV (WT w0 t) from S.nov)
        obtain⟨w',h1,h2,h3,h4,h5,_,h7⟩:=x.move BB RR (i==0) (w.at d) (zqq Sd t) fun k qq _=>by
          show w.tape (d+(w0.drawn+k - w0.drawn)) qq=w.tape (d+k) qq;rw [Nat.add_sub_cancel_left]
        obtain⟨C',ha'⟩:=RingO.own (a':=(nx t).1) Cd F ha h4 h7 h3;refine .head (ho:=by exact⟨by show w'.os=_;rw [h5];rfl,by show w'.tape=_;rw [h5];rfl,by show w'.output=_;rw [h5];rfl⟩) (by rw [hst];exact runT_crowd_go (sl:=sl') ha h1) ?_
        refine (ih t _ rfl ha' h2 F C').bind fun m' T'=>?_;rintro ⟨gs',a',w0',w2,sl2,q',B',rfl,k1,k2,k3,k4,k5,k6⟩;have k0:Step2 OB BB RR i w w':=⟨fun b hb _=>h4 b hb,h3,by rw [h5];rfl,by rw [h5];rfl,by rw [h5];rfl⟩
        exact .here ⟨gs',a',w0',w2,sl2,q',B',rfl,by simpa using k1,k2,k3,k4,k0.trans k5,k6⟩
      . obtain⟨gs',ops,q',w',hrt,hsz',hsp,hS,hw0,_,_,C',hlt⟩:=CoF.by_step (sl:=sl') (fun t u i=>Knows.app u) Cd hi e hg
          (fun x gx w' hx hgx _=>by subst hx;rw [ha] at hgx;obtain rfl:=Option.some.inj hgx;exact again_of_running (.inl hrun) _) (fun hD=>hD.elim)
          (fun s gq _ _=>⟨fun hD=>hD,fun x gx c hx hgx _=>by subst hx;rw [ha] at hgx;obtain rfl:=Option.some.inj hgx;exact offersAt_of_not_blocked (by rw [hrun];simp) _ _⟩)
        refine .head (ho:=by exact .side hS.rest) (by rw [hst];exact hrt) ?_
        have hOB:∀ b,¬ BB b->w'.heap[b]?=(w.at d).heap[b]?:=fun b hb=>by
          by_cases h0:i=0
          . exact hS.only b fun ho=>hb (F.own b ho (by omega))
          . rw [hw0 h0]
        refine (ihn (sumTo gs'.size q') (by rw [hsz',<-hn];exact hlt) rfl (by rw [hsp h rfl];exact ha) (zhU Sd hS.size hOB) F C').bind fun m' T'=>?_
        rintro ⟨gs2,a',w0',w2,sl2,q2,B',rfl,k1,k2,k3,k4,k5,k6⟩;have k0:Step2 OB BB RR h w w':=⟨fun b _ ho=>(by
          by_cases h0:i=0
          . exact hS.only b fun z=>ho ⟨z,by omega⟩
          . rw [hw0 h0];rfl),Nat.le_of_eq hS.size.symm,by rw [hS.rest];rfl,by rw [hS.rest];rfl,by rw [hS.rest];rfl⟩
        exact .here ⟨gs2,a',w0',w2,sl2,q2,B',rfl,by omega,k2,k3,k4,k0.trans k5,k6⟩
end
end Go.Proofs.Ytgndgbnhkoppmaa
namespace Go.Proofs.Ytgndgbnhkoppmaa
open Go Go.Conc
section
variable {P:Program} {gs:Array Goroutine} {w w₁:World} {sl:Option (Nat × Nat)} {i j k kj:Nat} {g gq gj:Goroutine} {es:Array Event} {cases cs:Array CommCase} {shape shj:CommShape} {blocking:Bool}
  {c cap s r:Nat} {buf:Array Value} {closed tm:Bool} {v z zj:Value}
theorem zez (hi:gs[i]?=some g) (h:stepG P (i==0) g w=.comm gq cases blocking shape w₁ es) (hk:cases[k]?=some (scase c v z))
    (ho:∀ (m:Nat) (c':CommCase),m≠k->cases[m]?=some c'->NoWays w₁ (gs.setIfInBounds i ph) c') (hc:w₁.heap[c]?=some (.chan cap buf false s s tm))
    (hij:j≠i) (hj:gs[j]?=some (parked gj cs shj)) (hkj:cs[kj]?=some (rcase c zj)) (hp:partners (gs.setIfInBounds i ph) c false=[(j,kj)]) :
    runT P (crowd gs w sl) i=(.next (crowd ((gs.setIfInBounds j (gj.finishComm P cs shj kj v true)).setIfInBounds i (gq.finishComm P cases shape k undef false)) (w₁.setChan c cap buf false (s+1) (s+1) tm) sl),
      MemOp.ofEvents i g.frame.fn g.frame.place es++met i j gq.frame.fn gq.frame.place gj.frame.fn gj.frame.place c s cap):=by
  have hw:ways w₁ (gs.setIfInBounds i ph) (scase c v z)=[.partner j kj]:=by simp [ways,scase,hc,hp]
  have hj':=stand_get (i:=i) hij hj;have hfp:=finishPartner_at P (gs.setIfInBounds i ph) hj' (cs:=cs) (sh:=shj) rfl kj v;have hgd:(gs.setIfInBounds i ph).getD j default=parked gj cs shj:=by rw [Array.getD_eq_getD_getElem?,hj'];rfl
  rw [runT_crowd_comm hi h];unfold communicate;simp only [ready_one hk (by rw [hw];simp) ho,hw]
  rw [if_neg]
  . simp [choose,Sem.run,Question.forced,bind,Sem.bind,pure,scase,crowd,hc,hfp,hgd,set_stand2,finishComm_parked,rcase,parked,hkj,World.setChan,met];rfl
  . rw [Bool.not_eq_true];exact any_ill (made_of_one hk (made_send v z hc) ho)
theorem zhq (hi:gs[i]?=some g) (h:stepG P (i==0) g w=.comm gq cases blocking shape w₁ es) (hk:cases[k]?=some (rcase c z))
    (ho:∀ (m:Nat) (c':CommCase),m≠k->cases[m]?=some c'->NoWays w₁ (gs.setIfInBounds i ph) c')
    (hc:w₁.heap[c]?=some (.chan cap #[] closed s s tm)) (hij:j≠i) (hj:gs[j]?=some (parked gj cs shj)) (hkj:cs[kj]?=some (scase c v zj)) (hp:partners (gs.setIfInBounds i ph) c true=[(j,kj)]) :
    runT P (crowd gs w sl) i=(.next (crowd ((gs.setIfInBounds j (gj.finishComm P cs shj kj undef false)).setIfInBounds i (gq.finishComm P cases shape k v true)) (w₁.setChan c cap #[] closed (s+1) (s+1) tm) sl),
      MemOp.ofEvents i g.frame.fn g.frame.place es++met j i gj.frame.fn gj.frame.place gq.frame.fn gq.frame.place c s cap):=by
  have hw:ways w₁ (gs.setIfInBounds i ph) (rcase c z)=[.partner j kj]:=by simp [ways,rcase,hc,hp]
  have hj':=stand_get (i:=i) hij hj;have hfp:=finishPartner_at P (gs.setIfInBounds i ph) hj' (cs:=cs) (sh:=shj) rfl kj undef;have hgd:(gs.setIfInBounds i ph).getD j default=parked gj cs shj:=by rw [Array.getD_eq_getD_getElem?,hj'];rfl
  have hov:offeredValue (gs.setIfInBounds i ph) j kj=v:=by simp [offeredValue,hj',parked,hkj,scase]
  rw [runT_crowd_comm hi h];unfold communicate;simp only [ready_one hk (by rw [hw];simp) ho,hw]
  rw [if_neg]
  . simp [choose,Sem.run,Question.forced,bind,Sem.bind,pure,rcase,crowd,hc,hfp,hgd,hov,set_stand2,finishComm_parked,scase,parked,hkj,World.setChan,met];rfl
  . rw [Bool.not_eq_true];exact any_ill (made_of_one hk (made_recv z hc) ho)
theorem zdR {g:Goroutine} {sh:CommShape} (hk:cs[k]?=some (scase c v z)) (hu:∀ (m:Nat) (cc:CommCase),m≠k->cs[m]?=some cc->cc.chan≠.chan (some c)):offersAt (parked g cs sh) c true=[k]:=by
  simp only [offersAt,parked];have hz:∀ m:Nat,cs.zipIdx.toList[m]?=(cs[m]?).map fun x=>(x,m):=by intro m;simp
  have:=filter_map_one (id:CommCase × Nat->CommCase × Nat) (fun (x:CommCase × Nat)=>x.1.send.isSome==true && (match x.1.chan with|.chan (some r')=>r'==c|_=>false)) cs.zipIdx.toList k (scase c v z,k) (by rw [hz,hk];rfl) (by simp [scase])
    (fun m x hm hx=>by
      rw [hz] at hx;cases e:cs[m]? with
      | none=>rw [e] at hx;cases hx
      | some y =>
        rw [e] at hx;simp only [Option.map_some,Option.some.injEq] at hx;subst hx;have hne:=hu m y hm e;simp only [id,Bool.and_eq_false_iff];right;split
        . rename_i r' e';simp only [beq_eq_false_iff_ne];intro er;exact hne (er ▸ e')
        . rfl)
  simp only [List.map_id,id] at this;exact (congrArg (List.map fun x=>x.snd) this).trans rfl
end
end Go.Proofs.Ytgndgbnhkoppmaa
namespace Go.Proofs.Ytgndgbnhkoppmaa
open Go Go.Conc
open Go.ConcN (sumTo upd sumTo_upd upd_ne upd_same)
section
variable {P:Program} {OB WB:Nat->Prop} {B:Nat} {Iv:Nat->World->Prop} {K:Trace->Nat->Prop} {Mem Lo:Nat->Prop} {Inb:Nat->Option Seat} {Sp Dead:Nat->Prop} {T:Trace} {gs:Array Goroutine} {w:World} {q:Nat->Nat} {h j c kk kh:Nat}
theorem Side.trans {a b c:World} (h:Side OB a b) (h':Side OB b c):Side OB a c :=
  ⟨fun x hx=>(h'.only x hx).trans (h.only x hx),h'.size.trans h.size,by rw [h'.rest,h.rest]⟩
structure SideD (OB:Nat->Prop) (w w':World):Prop where
  only:∀ b,¬ OB b->w'.heap[b]?=w.heap[b]?
  size:w'.heap.size=w.heap.size
  rest:w'={ w with heap:=w'.heap,drawn:=w'.drawn }
theorem SideD.refl (w:World):SideD OB w w:=⟨fun _ _=>rfl,rfl,rfl⟩
theorem SideD.trans {a b c:World} (h:SideD OB a b) (h':SideD OB b c):SideD OB a c :=
  ⟨fun x hx=>(h'.only x hx).trans (h.only x hx),h'.size.trans h.size,by rw [h'.rest,h.rest]⟩
theorem SideD.at (w:World) (d:Nat):SideD OB w (w.at d):=⟨fun _ _=>rfl,rfl,rfl⟩
theorem Side.d {a b:World} (h:Side OB a b):SideD OB a b:=⟨h.only,h.size,by have:=h.rest;rw [this]⟩
theorem Side.by' {a b:World} {i h:Nat} (hs:Side OB a b) (h0:i≠0->b=a) (hi:i≠h):SideD (fun x=>OB x/\h≠0) a b:=by
  by_cases e:i=0
  . exact⟨fun x hx=>hs.only x fun hb=>hx ⟨hb,by omega⟩,hs.size,hs.d.rest⟩
  . rw [h0 e];exact SideD.refl a
theorem CoF.noRecvAt (C:CoF P OB WB B Iv K Mem Lo Inb Sp Dead T gs w q) {x:Nat} {y:Goroutine} (hx:¬ Sp x) (hy:gs[x]?=some y) {c:Nat} (hc:∀ s,Inb x=some s->¬ s.has c):offersAt y c false=[]:=by
  have h:=C.idle x y hx hy;cases e:Inb x with
  | none =>
    rw [e] at h;exact offersAt_of_not_blocked (fun hb=>by rcases h.2.status with z|z<;>rw [z] at hb<;>cases hb) c false
  | some s =>
    rw [e] at h;rcases h with h|⟨_,⟨_,gq,rfl,_⟩,_⟩
    . have:=(SitsO.status (.inl h)).elim (·.1) (fun z=>by obtain⟨k,hk,_⟩:=h;omega)
      exact offersAt_of_not_blocked (fun hb=>by rw [this] at hb;cases hb) c false
    . refine offersAt_parked_off (fun cc hcc ec=>?_) _;obtain⟨c',z',rfl⟩:=(C.wf x s e).recvs cc hcc;simp only [rcase,Value.chan.injEq,Option.some.injEq] at ec;subst ec;exact hc s e (Seat.has_of_mem hcc)
theorem SitsO.at_iv {i:Nat} {s s':Seat} {n:Nat} {g gq:Goroutine} (h:SitsO P OB WB B Iv i s n g w) (hat:AtS P s' g gq):Iv i w:=by
  rcases h with ⟨k,rfl,hg⟩|⟨_,_,h⟩
  . cases k with
    | zero=>exact (hg w (Rl.refl w)).2
    | succ k =>
      rcases hg with hg|⟨_,hg⟩
      . exact (hg w (Rl.refl w)).2
      . have:=hg w (Rl.refl w);rw [hat.2.2.2.2.2 (i==0) w] at this;exact this.elim
  . exact h
theorem zf6 {g:Goroutine} {cs:Array CommCase} {sh:CommShape} {w:World} (h:∀ (m:Nat) (cc:CommCase),cs[m]?=some cc->∃ c cap buf s r tm,cc.chan=.chan (some c)/\w.heap[c]?=some (.chan cap buf false s r tm)):(parked g cs sh).again w=parked g cs sh:=by
  simp [Goroutine.again,parked];intro x hx;obtain⟨c,cap,buf,s,r,tm,e,hc⟩:=h x cs[x] (Array.getElem?_eq_getElem hx);rw [e];simp [hc]
theorem zes {x c:Nat} {w:World} (hO:¬ OB c) (hW:¬ WB c) (cap:Nat) (buf:Array Value) (cl:Bool) (a b:Nat) (tm:Bool):Rl OB WB x w (w.setChan c cap buf cl a b tm) :=
  ⟨fun ad had _=>zdH (heap_setChan_ne w cap buf cl a b tm fun e=>hW (e ▸ had)),fun _ y hy=>heap_setChan_ne w cap buf cl a b tm fun e=>hO (e ▸ hy)⟩
theorem RingO.pass (C:RingO P OB WB B Iv Mem Inb h T gs w q) {s:Seat} (hj:Inb j=some s) (hsc:s.has c) (hWc:¬ WB c) {cap k:Nat} {o:Obj}
    (hc:w.heap[c]?=some o) {gs':Array Goroutine} {T':Trace} {H':Goroutine} (hsz:gs'.size=gs.size) (hoth:∀ x,x≠h->x≠j->gs'[x]?=gs[x]?) (hH:gs'[h]?=some H') (hDeaf:∀ x,Deaf T' x=Deaf T x)
    {Inb':Nat->Option Seat} (hI:∀ x,x≠h->Inb' x=Inb x) (hIh:Inb' h=Inb h\/Inb' h=none) {nh:Nat} (hafter:zgZ P OB WB B Iv T' h nh H' (w.setChan c cap #[] false (k+1) (k+1) false) (Inb' h))
    (hpast:PastO (ownL OB) (zcf WB) Mem (fun g=>(g≠h/\(Inb g).isSome)/\g≠j) B (Knows T' j) T') :
    RingO P OB WB B Iv (fun g=>Mem g/\(Inb' g≠none\/g=j)) Inb' j T' gs' (w.setChan c cap #[] false (k+1) (k+1) false) (upd q h nh):=by
  have hsub:∀ i s',Inb' i=some s'->Inb i=some s':=by
    intro i s' e;by_cases hi:i=h
    . subst hi;rcases hIh with z|z
      . rw [<-z];exact e
      . rw [z] at e;cases e
    . rw [<-hI i hi];exact e
  refine⟨fun x y hx hy=>?_,fun i s' c' _ e hc'=>?_,fun i s' c' e=>C.far i s' c' (hsub _ _ e),fun i s' e=>C.wf i s' (hsub _ _ e),fun _ _ hx=>hx.elim,fun i i' sx sv c' eq ez=>C.inj i i' sx sv c' (hsub _ _ eq) (hsub _ _ ez),fun x hx=>by rw [hDeaf];exact C.above x (by omega),
    fun i s' e=>⟨⟨(C.mem i s' (hsub _ _ e)).1,.inl (by rw [e];simp)⟩,(C.mem i s' (hsub _ _ e)).2⟩,fun i hM=>hM.2,fun i s' hi e=>⟨hi,by rw [e];rfl⟩,?_,C.apart,C.ivst,by simpa [World.setChan] using C.lowB⟩
  . by_cases e:x=h
    . subst e;rw [hH] at hy;obtain rfl:=Option.some.inj hy;rw [upd_same];exact hafter
    . rw [hoth x e hx] at hy;rw [upd_ne q nh e,hI x e];have hi:=C.idle x y e hy;cases es:Inb x with
      | none=>rw [es] at hi;exact⟨hi.1,by rw [hDeaf];exact hi.2⟩
      | some s'=>rw [es] at hi;exact SitsO.rely C.ivst hi (zes (C.far j s c hj hsc) hWc _ _ _ _ _ _)
  . by_cases ec:c=c'
    . exact⟨cap,k+1,by rw [<-ec];exact heap_setChan_self w hc _ _ _ _ _ _⟩
    . obtain⟨cap',k',hk'⟩:=C.chans i s' c' (fun z=>z) (hsub _ _ e) hc';exact⟨cap',k',by rw [heap_setChan_ne w _ _ _ _ _ _ ec];exact hk'⟩
  . exact hpast.fewer (fun g hg=>hg.1) fun g ⟨⟨hgh,hs⟩,hgj⟩=>⟨hgj,by rw [hI g hgh];exact hs⟩
def zqA (P:Program) (OB WB:Nat->Prop) (B:Nat) (Iv:Nat->World->Prop) (Mem:Nat->Prop) (Inb':Nat->Option Seat) (h j:Nat) (s:Seat) (c kk n:Nat) (w:World) (v:Value) (m:Machine) (t:Trace):Prop :=
  ∃ (gs':Array Goroutine) (gq:Goroutine) (w1:World) (k:Nat) (sl':Option (Nat × Nat)) (q':Nat->Nat),m=crowd gs' (w1.setChan c 0 #[] false (k+1) (k+1) false) sl'/\gs'.size=n/\gs'[j]?=some (gq.finishComm P s.cases s.shape kk v true)/\s.home gq/\SideD (fun b=>OB b/\h≠0) w w1/\Iv j w1 /\
    w1.heap[c]?=some (.chan 0 #[] false k k false)/\RingO P OB WB B Iv (fun g=>Mem g/\(Inb' g≠none\/g=j)) Inb' j t gs' (w1.setChan c 0 #[] false (k+1) (k+1) false) q'
theorem zsM {a aq:Goroutine} {cases:Array CommCase} {shape:CommShape} {s:Seat} {v z z':Value} (hjh:j≠h) (hj:Inb j=some s) (hk:s.cases[kk]?=some (rcase c z)) (hMh:Mem h) (hrun:a.status=.running) (hWc:¬ WB c)
    (hcomm:∀ main w,stepG P main a w=.comm aq cases true shape w) (hkh:cases[kh]?=some (scase c v z')) (hoth:∀ (m:Nat) (c':CommCase),m≠kh->cases[m]?=some c'->∃ s' c2 z2,c'=rcase c2 z2/\Inb h=some s'/\s'.has c2)
    {Inb':Nat->Option Seat} (hI:∀ x,x≠h->Inb' x=Inb x) (hIh:Inb' h=Inb h\/Inb' h=none) {nh:Nat} (w0:World)
    (hafter:∀ T' w1 k,Deaf T' h=0->SideD (fun b=>OB b/\h≠0) w0 w1->Iv j w1->zgZ P OB WB B Iv T' h nh (aq.finishComm P cases shape kh undef false) (w1.setChan c 0 #[] false (k+1) (k+1) false) (Inb' h)) :
    ∀ (n:Nat) {T:Trace} {gs:Array Goroutine} {w:World} {q:Nat->Nat} {sl:Option (Nat × Nat)} {k:Nat} (pk:Bool),n=sumTo gs.size q+(if pk then 0 else 1)->j<gs.size->SideD (fun b=>OB b/\h≠0) w0 w->w.heap[c]?=some (.chan 0 #[] false k k false)->gs[h]?=some (if pk then parked aq cases shape else a) ->
      (pk=true->0<q j)->RingO P OB WB B Iv Mem Inb h T gs w q->Reach P (crowd gs w sl) T (zqA P OB WB B Iv Mem Inb' h j s c kk gs.size w0 v):=by
  intro n
  induction n using Nat.strongRecOn with
  | _ n ih =>
    intro T gs w q sl k pk hn hjlt hw0 hc ha hpk C;have hsc:s.has c:=⟨kk,z,hk⟩;have hwf:=C.wf j s hj;obtain⟨hMj,hcB'⟩:=C.mem j s hj;have hcB:=hcB' c hsc;have hu:∀ (m:Nat) (cc:CommCase),m≠kk->s.cases[m]?=some cc->cc.chan≠.chan (some c):=by
      intro m cc hm hcc ec;obtain⟨cq,zq,rfl⟩:=hwf.recvs cc (Array.mem_of_getElem? hcc);simp only [rcase,Value.chan.injEq,Option.some.injEq] at ec;subst ec;exact hm (hwf.apart m kk _ _ _ hcc hk)
    have huh:∀ (m:Nat) (cc:CommCase),m≠kh->cases[m]?=some cc->cc.chan≠.chan (some c):=by
      intro m cc hm hcc ec;obtain⟨s',c2,z2,rfl,h1,h2⟩:=hoth m cc hm hcc;simp only [rcase,Value.chan.injEq,Option.some.injEq] at ec;subst ec;exact hjh (C.inj j h s s' _ hj h1 hsc h2)
    obtain⟨gj,hgj⟩:∃ gj,gs[j]?=some gj:=⟨gs[j]'(by omega),Array.getElem?_eq_getElem (by omega)⟩
    have hlth:h<gs.size:=(Array.getElem?_eq_some_iff.1 ha).1;have hSj:SitsO P OB WB B Iv j s (q j) gj w:=by have:=C.idle j gj hjh hgj;rwa [hj] at this
    have hsome:∃ (i:Nat) (g:Goroutine),gs[i]?=some g/\g.status=.running:=by
      cases pk with
      | false=>exact⟨h,a,ha,hrun⟩
      | true=>exact⟨j,gj,hgj,(SitsO.status hSj).elim (·.1) (fun z=>by have:=hpk rfl;omega)⟩
    obtain⟨i,g,d,sl',hi,hg,hst⟩:=crowd_pick (P:=P) (w:=w) (sl:=sl) (CoF.awake C fun x g hx hgx=>by
      subst hx;rw [ha] at hgx;obtain rfl:=Option.some.inj hgx;cases pk
      . exact .inl hrun
      . exact .inr rfl) hsome
    have Cd:RingO P OB WB B Iv Mem Inb h T gs (w.at d) q:=CoF.at C d;have hcd:(w.at d).heap[c]?=some (.chan 0 #[] false k k false):=hc;have hwd:SideD (fun b=>OB b/\h≠0) w0 (w.at d):=hw0.trans (SideD.at w d);have hfar:=C.far j s c hj hsc
    -- the further cases have no way
    have hno:∀ (m:Nat) (c':CommCase),m≠kh->cases[m]?=some c'->NoWays (w.at d) (gs.setIfInBounds h ph) c':=by
      intro m c' hm hc';obtain⟨s',c2,z2,rfl,h1,h2⟩:=hoth m c' hm hc';obtain⟨capq,kx,hcq⟩:=Cd.chans h s' c2 (fun z=>z) h1 h2;refine ways_recv_none hcq (partners_nil fun x y hy=>?_);rcases getElem?_stand gs h x y hy with ⟨_,rfl⟩|⟨hx,hy'⟩
      . exact offersAt_ph _ _
      . exact CoF.noSend Cd hx hy' _
    -- behind either meeting
    have fin:∀ (gs':Array Goroutine) (opsq:Array MemOp) (gq:Goroutine),gs'.size=gs.size->(∀ x,x≠h->x≠j->gs'[x]?=gs[x]?)->gs'[h]?=some (aq.finishComm P cases shape kh undef false)->gs'[j]?=some (gq.finishComm P s.cases s.shape kk v true)->s.home gq->Iv j w->opsq=#[] ->
        zqA P OB WB B Iv Mem Inb' h j s c kk gs.size w0 v (crowd gs' ((w.at d).setChan c 0 #[] false (k+1) (k+1) false) sl') (T++(opsq++met h j aq.frame.fn aq.frame.place gq.frame.fn gq.frame.place c k 0)):=by
      intro gs' opsq gq hsz' hoth' hH hJ hhome hivj e0;subst e0;rw [Array.empty_append];have hDeaf:∀ x,Deaf (T++met h j aq.frame.fn aq.frame.place gq.frame.fn gq.frame.place c k 0) x=Deaf T x:=fun x=>Deaf_quiet (met_quiet _ _ _ _ _ _ _ _ _ x);have p2:=PastO.give C.past hMh hMj aq.frame.fn aq.frame.place gq.frame.fn gq.frame.place k 0 hcB;have hivj':Iv j (w.at d):=C.ivst j w (w.at d) ⟨fun _ _ _=>rfl,fun _ _ _=>rfl⟩ hivj;exact⟨gs',gq,w.at d,k,sl',upd q h nh,rfl,hsz',hJ,hhome,hwd,hivj',hc,RingO.pass Cd hj hsc hWc hcd hsz' hoth' hH hDeaf hI hIh (hafter _ _ _ (by rw [hDeaf];exact C.past.hears h hMh) hwd hivj') p2⟩
    by_cases e:i=h
    . subst e;cases pk with
      | true=>rw [ha] at hi;obtain rfl:=Option.some.inj hi;cases hg
      | false =>
        obtain rfl:g=a:=by rw [ha] at hi;exact (Option.some.inj hi).symm
        have hoff:∀ (x:Nat) (y:Goroutine),x≠j->(gs.setIfInBounds i ph)[x]?=some y->offersAt y c false=[]:=by
          intro x y hxj hy;rcases getElem?_stand gs i x y hy with ⟨_,rfl⟩|⟨hx,hy'⟩
          . exact offersAt_ph _ _
          . exact CoF.noRecvAt Cd hx hy' fun s' hs' hc'=>hxj (C.inj x j s' s c hs' hj hc' hsc)
        rcases hSj with ⟨kq,hq,hG⟩|⟨hq0,⟨gy,gq,rfl,hat⟩,hivj⟩
        . -- j is on its way: the holder is parked
          have hjr:gj.status=.running:=(SitsO.status (.inl ⟨kq,hq,hG⟩:SitsO P OB WB B Iv j s (q j) gj w)).elim (·.1) (fun z=>by omega)
          have hp:partners (gs.setIfInBounds i ph) c false=[]:=partners_nil fun x y hy=>by
            by_cases hxj:x=j
            . subst hxj;rw [stand_get hjh hgj] at hy;obtain rfl:=Option.some.inj hy;exact offersAt_of_not_blocked (by rw [hjr];simp) _ _
            . exact hoff x y hxj hy
          have hw:∀ cc∈cases,NoWays (w.at d) (gs.setIfInBounds i ph) cc:=by
            intro cc hcc;obtain⟨m,hm,rfl⟩:=Array.mem_iff_getElem.1 hcc;by_cases hmk:m=kh
            . subst hmk;have:cases[m]=scase c v z':=by simpa [hm] using hkh
              rw [this];exact ways_send_none hcd (Nat.le_refl _) hp
            . exact hno m _ hmk (Array.getElem?_eq_getElem hm)
          have hsetH:=crowd_waits (sl:=sl') hi (hcomm (i==0) (w.at d)) hw;rw [show MemOp.ofEvents i g.frame.fn g.frame.place #[]=#[] from rfl] at hsetH
          refine .head (by rw [hst];exact hsetH) ?_
          have C':RingO P OB WB B Iv Mem Inb i (T++#[]) (gs.setIfInBounds i (parked aq cases shape)) (w.at d) q:=by
            rw [Array.append_empty];refine⟨fun y gg hy hgg=>Cd.idle y gg hy (by rw [Array.getElem?_setIfInBounds_ne (fun e=>hy e.symm)] at hgg;exact hgg),Cd.chans,Cd.far,Cd.wf,fun _ _ z=>z.elim,Cd.inj,fun j hj=>Cd.above j (by simpa using hj),Cd.mem,Cd.nomem,Cd.lo,Cd.past,Cd.apart,Cd.ivst,Cd.lowB⟩
          have:=ih (sumTo (gs.setIfInBounds i (parked aq cases shape)).size q+0) (by simp at hn ⊢;omega) (sl:=sl') (k:=k) true (by simp) (by simpa using hjlt) hwd hcd (Array.getElem?_setIfInBounds_self_of_lt hlth) (fun _=>by omega) C'
          simpa using this
        . -- j is parked: the meeting
          have hp:partners (gs.setIfInBounds i ph) c false=[(j,kk)]:=by
            rw [partners_one (stand_get hjh hgj) fun x y hxj hy=>hoff x y hxj hy,offersAt_parked_at hk hu];rfl
          refine .head (by rw [hst];exact zez (sl:=sl') hi (hcomm (i==0) (w.at d)) hkh hno hcd hjh hgj hk hp) (.here ?_)
          exact fin _ _ gq (by simp) (fun x hx hxj=>by rw [Array.getElem?_setIfInBounds_ne (fun z=>hx z.symm),Array.getElem?_setIfInBounds_ne (fun z=>hxj z.symm)]) (Array.getElem?_setIfInBounds_self_of_lt (by simpa using hlth))
            (by rw [Array.getElem?_setIfInBounds_ne (fun z=>hjh z.symm),Array.getElem?_setIfInBounds_self_of_lt (by omega)]) hat.2.2.2.2.1 hivj rfl
    . by_cases ej:i=j/\pk=true/\∃ gq,AtS P s g gq
      . -- j comes to its receive and meets the parked holder
        obtain⟨rfl,rfl,gq,hat⟩:=ej;obtain rfl:g=gj:=by rw [hgj] at hi;exact (Option.some.inj hi).symm
        have hivj:=hSj.at_iv hat;obtain⟨_,_,_,_,hhome,hstp⟩:=hat;have hp:partners (gs.setIfInBounds i ph) c true=[(h,kh)]:=by
          rw [partners_one (stand_get (Ne.symm hjh) ha) fun x y hxh hy=>by
            rcases getElem?_stand gs i x y hy with ⟨_,rfl⟩|⟨_,hy'⟩
            . exact offersAt_ph _ _
            . exact CoF.noSend Cd hxh hy' _]
          simp only [if_true];rw [zdR hkh huh];rfl
        have ho:∀ (m:Nat) (c':CommCase),m≠kk->s.cases[m]?=some c'->NoWays (w.at d) (gs.setIfInBounds i ph) c':=by
          intro m c' hm hc';obtain⟨cq,zq,rfl⟩:=hwf.recvs c' (Array.mem_of_getElem? hc');have hne:c≠cq:=fun ec=>hu m _ hm hc' (by rw [ec];rfl)
          obtain⟨capq,kx,hcq⟩:=Cd.chans i s cq (fun z=>z) hj ⟨m,zq,hc'⟩;refine ways_recv_none hcq (partners_nil fun x y hy=>?_);rcases getElem?_stand gs i x y hy with ⟨_,rfl⟩|⟨_,hy'⟩
          . exact offersAt_ph _ _
          . by_cases hxh:x=h
            . subst hxh;rw [ha] at hy';obtain rfl:=Option.some.inj hy';simp only [if_true];refine offersAt_parked_off (fun cc hcc ec=>?_) _;obtain⟨mm,hmm,rfl⟩:=Array.mem_iff_getElem.1 hcc;by_cases hmk:mm=kh
              . subst hmk;have:cases[mm]=scase c v z':=by simpa [hmm] using hkh
                rw [this] at ec;simp only [scase,Value.chan.injEq,Option.some.injEq] at ec;exact hne ec
              . obtain⟨s',c3,z3,h0,h1,h2⟩:=hoth mm _ hmk (Array.getElem?_eq_getElem hmm);rw [h0] at ec;simp only [rcase,Value.chan.injEq,Option.some.injEq] at ec;subst ec;exact hjh (C.inj i x s s' _ hj h1 ⟨m,zq,hc'⟩ h2)
            . exact CoF.noSend Cd hxh hy' _
        have hmeet:=zhq (sl:=sl') hi (hstp (i==0) (w.at d)) hk ho hcd (Ne.symm hjh) ha hkh hp;rw [show MemOp.ofEvents i g.frame.fn g.frame.place #[]=#[] from rfl] at hmeet
        refine .head (by rw [hst];exact hmeet) (.here ?_)
        exact fin _ #[] gq (by simp) (fun x hx hxj=>by rw [Array.getElem?_setIfInBounds_ne (fun z=>hxj z.symm),Array.getElem?_setIfInBounds_ne (fun z=>hx z.symm)])
          (by rw [Array.getElem?_setIfInBounds_ne hjh,Array.getElem?_setIfInBounds_self_of_lt hlth]) (by rw [Array.getElem?_setIfInBounds_self_of_lt (by simp;omega)]) hhome hivj rfl
      . have hopen:∀ w',Side OB (w.at d) w'->∀ (m:Nat) (cc:CommCase),cases[m]?=some cc->∃ c cap buf s r tm,cc.chan=.chan (some c)/\w'.heap[c]?=some (.chan cap buf false s r tm):=by
          intro w' hS m cc hcc;by_cases hmk:m=kh
          . subst hmk;rw [hkh] at hcc;obtain rfl:=Option.some.inj hcc;exact⟨c,_,_,_,_,_,rfl,by rw [hS.only c hfar];exact hcd⟩
          . obtain⟨s',c3,z3,rfl,h1,h2⟩:=hoth m _ hmk hcc;obtain⟨capq,kx,hcq⟩:=Cd.chans h s' c3 (fun z=>z) h1 h2;exact⟨c3,_,_,_,_,_,rfl,by rw [hS.only c3 (C.far h s' c3 h1 h2)];exact hcq⟩
        have hsA:∀ x gx w',x=h->gs[x]?=some gx->Side OB (w.at d) w'->gx.again w'=gx:=by
          intro x gx w' hx hgx hS;subst hx;rw [ha] at hgx;obtain rfl:=Option.some.inj hgx;cases pk with
          | false=>exact again_of_running (.inl hrun) _
          | true=>exact zf6 (hopen w' hS)
        have hsO:∀ s' gq,Inb i=some s'->AtS P s' g gq->¬ False/\∀ x gx c',x=h->gs[x]?=some gx->s'.has c'->offersAt gx c' true=[]:=by
          intro s' gq hs' hat;refine⟨fun hD=>hD,?_⟩;intro x gx c' hx hgx hc';subst hx;rw [ha] at hgx;obtain rfl:=Option.some.inj hgx;cases pk with
          | false=>exact offersAt_of_not_blocked (by simp [hrun]) _ _
          | true =>
            simp only [if_true];refine offersAt_parked_off (fun cc hcc ec=>?_) _;obtain⟨mm,hmm,rfl⟩:=Array.mem_iff_getElem.1 hcc;by_cases hmk:mm=kh
            . subst hmk;have:cases[mm]=scase c v z':=by simpa [hmm] using hkh
              rw [this] at ec;simp only [scase,Value.chan.injEq,Option.some.injEq] at ec;have hij:i=j:=C.inj i j s' s c hs' hj (ec ▸ hc') hsc;subst hij;rw [hj] at hs';obtain rfl:=Option.some.inj hs';exact ej ⟨rfl,rfl,gq,hat⟩
            . obtain⟨s3,c3,z3,h0,h1,h2⟩:=hoth mm _ hmk (Array.getElem?_eq_getElem hmm);rw [h0] at ec;simp only [rcase,Value.chan.injEq,Option.some.injEq] at ec;subst ec;exact e (C.inj i x s' s3 _ hs' h1 hc' h2)
        obtain⟨gs',ops,q',w',hrt,hsz',hsp,hS,hw0',hqo,hq0,C',hlt⟩:=CoF.by_step (sl:=sl') (fun t u i=>Knows.app u) Cd hi e hg hsA (fun hD=>hD.elim) hsO;refine .head (ho:=by exact .side hS.rest) (by rw [hst];exact hrt) ?_
        have:=ih (sumTo gs'.size q'+(if pk then 0 else 1)) (by rw [hsz',hn];omega) (sl:=sl') (k:=k) pk rfl (by omega) (hwd.trans (hS.by' hw0' e)) (by rw [hS.only c hfar];exact hcd) (by rw [hsp h rfl];exact ha) (fun hp=>?_) C'
        . rw [hsz'] at this;exact this
        . subst hp;by_cases hij:j=i
          . subst hij;rcases Nat.eq_zero_or_pos (q' j) with h0|h0
            . obtain⟨gq,hat⟩:=hq0 s hj h0;exact absurd ⟨rfl,rfl,gq,hat⟩ ej
            . exact h0
          . rw [hqo j hij];exact hpk rfl
end
section
variable {P:Program} {OB WB:Nat->Prop} {B:Nat} {Iv:Nat->World->Prop} {K:Trace->Nat->Prop} {Mem Lo:Nat->Prop} {Inb:Nat->Option Seat} {Sp Dead:Nat->Prop} {T:Trace} {gs:Array Goroutine} {w:World} {q:Nat->Nat} {h j c kk kh:Nat}
theorem RingO.reseat (C:RingO P OB WB B Iv Mem Inb h T gs w q) (hMh:Mem h) (s:Seat) (hwf:s.Wf) (hopen:∀ c,s.has c->∃ cap k,w.heap[c]?=some (.chan cap #[] false k k false)) (hfar:∀ c,s.has c->¬ OB c) (hlow:∀ c,s.has c->c<B)
    (hfresh:∀ i s' c,i≠h->Inb i=some s'->s'.has c->¬ s.has c):RingO P OB WB B Iv Mem (fun i=>if i=h then some s else Inb i) h T gs w q:=by
  have hne:∀ i s',i≠h->(if i=h then some s else Inb i)=some s'->Inb i=some s':=fun i s' hi e=>by rwa [if_neg hi] at e
  have hself:∀ s',(if h=h then some s else Inb h)=some s'->s'=s:=fun s' e=>by rw [if_pos rfl] at e;exact (Option.some.inj e).symm
  refine⟨fun x y hx hy=>?_,fun i s' c _ e hc=>?_,fun i s' c e hc=>?_,fun i s' e=>?_,fun _ _ hx=>hx.elim,fun i i' sx sv c eq ez h1 h2=>?_,C.above,fun i s' e=>?_,fun i hM=>?_,fun i s' hi e=>⟨hi,by show (if i=h then some s else Inb i).isSome=true;rw [e];rfl⟩,?_,C.apart,C.ivst,C.lowB⟩
  . show zgZ P OB WB B Iv T x (q x) y w (if x=h then some s else Inb x)
    rw [if_neg hx];exact C.idle x y hx hy
  . by_cases hi:i=h
    . subst hi;obtain rfl:=hself s' e;exact hopen c hc
    . exact C.chans i s' c (fun z=>z) (hne i s' hi e) hc
  . by_cases hi:i=h
    . subst hi;obtain rfl:=hself s' e;exact hfar c hc
    . exact C.far i s' c (hne i s' hi e) hc
  . by_cases hi:i=h
    . subst hi;obtain rfl:=hself s' e;exact hwf
    . exact C.wf i s' (hne i s' hi e)
  . by_cases hi:i=h
    . by_cases hi':i'=h
      . rw [hi,hi']
      . subst hi;obtain rfl:=hself sx eq;exact absurd h1 (hfresh i' sv c hi' (hne i' sv hi' ez) h2)
    . by_cases hi':i'=h
      . subst hi';obtain rfl:=hself sv ez;exact absurd h2 (hfresh i sx c hi (hne i sx hi eq) h1)
      . exact C.inj i i' sx sv c (hne i sx hi eq) (hne i' sv hi' ez) h1 h2
  . by_cases hi:i=h
    . subst hi;obtain rfl:=hself s' e;exact⟨hMh,hlow⟩
    . exact C.mem i s' (hne i s' hi e)
  . by_cases hi:i=h
    . exact .inr hi
    . rcases C.nomem i hM with z|z
      . exact .inl (by show (if i=h then some s else Inb i)≠none;rw [if_neg hi];exact z)
      . exact .inr z
  . refine C.past.fewer (fun g hg=>hg) fun g ⟨h1,h2⟩=>⟨h1,?_⟩;show (if g=h then some s else Inb g).isSome=true
    rw [if_neg h1];exact h2
theorem zsX {a a' child:Goroutine} (hMh:Mem h) (hrun:a.status=.running) (hspawn:∀ main w,stepG P main a w=.spawn a' child w) (hnone:∀ i,gs.size<=i->Inb i=none) (hIh:Inb h≠none) {nh:Nat} (w0:World)
    (hafter:∀ T' w1,Deaf T' h=0->SideD (fun b=>OB b/\h≠0) w0 w1->zgZ P OB WB B Iv T' h nh a' w1 (Inb h)) :
    ∀ (n:Nat) {T:Trace} {gs':Array Goroutine} {w:World} {q:Nat->Nat} {sl:Option (Nat × Nat)},n=sumTo gs'.size q->gs'.size=gs.size->SideD (fun b=>OB b/\h≠0) w0 w->gs'[h]?=some a->RingO P OB WB B Iv Mem Inb h T gs' w q ->
      Reach P (crowd gs' w sl) T fun m' T'=>∃ gs2 w1 sl' q',m'=crowd gs2 w1 sl'/\gs2.size=gs.size+1/\gs2[gs.size]?=some child/\SideD (fun b=>OB b/\h≠0) w0 w1/\RingO P OB WB B Iv (fun g=>Mem g\/g=gs.size) Inb gs.size T' gs2 w1 q':=by
  intro n
  induction n using Nat.strongRecOn with
  | _ n ih =>
    intro T gs' w q sl hn hsz hw0 ha C;have hlth:h<gs'.size:=(Array.getElem?_eq_some_iff.1 ha).1;obtain⟨i,g,d,sl',hi,hg,hst⟩:=crowd_pick (P:=P) (w:=w) (sl:=sl) (CoF.awake C fun x g hx hgx=>by subst hx;rw [ha] at hgx;obtain rfl:=Option.some.inj hgx;exact .inl hrun) ⟨h,a,ha,hrun⟩
    have Cd:RingO P OB WB B Iv Mem Inb h T gs' (w.at d) q:=CoF.at C d;have hwd:SideD (fun b=>OB b/\h≠0) w0 (w.at d):=hw0.trans (SideD.at w d);by_cases e:i=h
    . subst e;obtain rfl:g=a:=by rw [ha] at hi;exact (Option.some.inj hi).symm
      have hops:=runT_crowd_spawn (sl:=sl') hi (hspawn (i==0) (w.at d));have hDn:∀ x,Deaf (T++#[{ g:=i,fn:=g.frame.fn,pos:=g.frame.place,act:=.go gs'.size },{ g:=gs'.size,fn:=child.frame.fn,pos:=g.frame.place,act:=.start }]) x=Deaf T x:=fun x=>Deaf_quiet fun op hop dd=>by
        simp only [List.mem_toArray,List.mem_cons,List.not_mem_nil,or_false] at hop;rcases hop with rfl|rfl<;>rfl
      have p2:=PastO.hireGive C.past hMh (C.above gs'.size (Nat.le_refl _)) g.frame.fn g.frame.place child.frame.fn;refine .head (by rw [hst];exact hops) (.here ⟨_,w.at d,sl',upd q i nh,rfl,by simp [hsz],by rw [Array.getElem?_push,if_pos (by simp [hsz])],hwd,?_⟩)
      have hT:(((MemOp.ofEvents i g.frame.fn g.frame.place #[]).push { g:=i,fn:=g.frame.fn,pos:=g.frame.place,act:=.go gs'.size }).push { g:=gs'.size,fn:=child.frame.fn,pos:=g.frame.place,act:=.start }:Trace)=#[{ g:=i,fn:=g.frame.fn,pos:=g.frame.place,act:=.go gs'.size },{ g:=gs'.size,fn:=child.frame.fn,pos:=g.frame.place,act:=.start }]:=rfl;rw [hT];rw [<-hsz];refine⟨fun x y hx hy=>?_,Cd.chans,Cd.far,Cd.wf,fun _ _ z=>z.elim,Cd.inj,fun x hx=>?_,fun i s e=>⟨.inl (Cd.mem i s e).1,(Cd.mem i s e).2⟩,fun x hM=>?_,fun x s hx e=>⟨hx,by rw [e];rfl⟩,?_,Cd.apart,Cd.ivst,Cd.lowB⟩
      . rw [Array.getElem?_push] at hy;simp only [Array.size_setIfInBounds] at hy;rw [if_neg hx] at hy;by_cases ex:x=i
        . subst ex;rw [Array.getElem?_setIfInBounds_self_of_lt hlth] at hy;obtain rfl:=Option.some.inj hy;rw [upd_same];exact hafter _ _ (by rw [hDn];exact C.past.hears x hMh) hwd
        . rw [Array.getElem?_setIfInBounds_ne (fun z=>ex z.symm)] at hy;rw [upd_ne q nh ex];have hid:=Cd.idle x y ex hy;cases es:Inb x with
          | none=>rw [es] at hid;exact⟨hid.1,by rw [hDn];exact hid.2⟩
          | some s=>rw [es] at hid;exact hid
      . rw [hDn];simp only [Array.size_push,Array.size_setIfInBounds] at hx;exact Cd.above x (by omega)
      . rcases hM with hM|hM
        . rcases Cd.nomem x hM with z|z
          . exact .inl z
          . exact .inl (by rw [z];exact hIh)
        . exact .inr hM
      . exact p2.fewer (fun g hg=>hg) fun g hg=>⟨fun e=>by
          have:=hnone g (by omega)
          rw [this] at hg;exact absurd hg.2 (by simp),hg.2⟩
    . obtain⟨gs2,ops,q',w',hrt,hsz',hsp,hS,hw0',_,_,C',hlt⟩:=CoF.by_step (sl:=sl') (fun t u i=>Knows.app u) Cd hi e hg
        (fun x gx w' hx hgx _=>by subst hx;rw [ha] at hgx;obtain rfl:=Option.some.inj hgx;exact again_of_running (.inl hrun) _) (fun hD=>hD.elim)
        (fun s gq _ _=>⟨fun hD=>hD,fun x gx c hx hgx _=>by subst hx;rw [ha] at hgx;obtain rfl:=Option.some.inj hgx;exact offersAt_of_not_blocked (by rw [hrun];simp) _ _⟩)
      exact .head (ho:=by exact .side hS.rest) (by rw [hst];exact hrt) (ih (sumTo gs2.size q') (by rw [hsz',hn];exact hlt) rfl (by omega) (hwd.trans (hS.by' hw0' e)) (by rw [hsp h rfl];exact ha) C')
end
end Go.Proofs.Ytgndgbnhkoppmaa
