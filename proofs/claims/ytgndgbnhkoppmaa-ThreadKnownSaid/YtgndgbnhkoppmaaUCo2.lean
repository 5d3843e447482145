/-
  The abstract machine, part 4: how it goes; that each of its runs is one of the model's.
  No condition: definitions and laws.
-/
import Derived.Test.YtgndgbnhkoppmaaUAx3
import Derived.Conc.Own3
import Derived.Conc.Own4
import Derived.Conc.Own5
import Derived.Conc.Listed
import Derived.Conc.CompanyDraw
import Derived.Scope
set_option maxHeartbeats 40000000
set_option linter.unusedVariables false
set_option linter.unusedSimpArgs false
namespace Go.Proofs.Ytgndgbnhkoppmaa
open Go
def zrc:Obj:=.chan 0 #[] true 0 0 false
structure Shade (B R:Nat->Prop) (w0 w:World):Prop where
  size:w0.heap.size=w.heap.size
  low:∀ b,B b\/R b->b<w.heap.size
  same:∀ b,¬ B b->¬ R b->w0.heap[b]?=w.heap[b]?
  dead:∀ b,B b->w0.heap[b]?=some zrc
  cold:∀ b,R b->¬ B b->∃ c el fr,w.heap[b]?=some (.cells c el fr)/\w0.heap[b]?=some (.cells c el (0,c.size))
  novw:∀ b o,¬ B b->w0.heap[b]?=some o->zhV o=false
def Own1 (B R:Nat->Prop) (n:Nat) (e:Event):Prop:=e=⟨.mark .noRoom,false,true⟩\/e.sync=false/\∃ a:Addr,e.loc=.cell a/\¬ B a.block/\(e.write=true->¬ R a.block)/\a.block<n
theorem zaK {w:World} {a:Addr} {v:Value} (h:w.cell? a=some v):∃ c el fr,w.heap[a.block]?=some (.cells c el fr)/\a.spot.isSome=false/\c[a.off]?=some v:=by
  unfold World.cell? at h;split at h
  . rename_i c el fr hb;split at h
    . cases h
    . rename_i hs;exact⟨c,el,fr,hb,by simpa using hs,h⟩
  . cases h
theorem Shade.cell {B R:Nat->Prop} {w0 w:World} (S:Shade B R w0 w) {a:Addr} {v:Value} (h:w0.cell? a=some v):w.cell? a=some v/\¬ B a.block/\a.block<w.heap.size:=by
  obtain⟨c,el,fr,hb,hs,hc⟩:=zaK h;have hB:¬ B a.block:=fun hB=>by
    have hd:=S.dead _ hB;rw [hd] at hb;cases hb
  have hlt:a.block<w.heap.size:=by rw [<-S.size];exact (Array.getElem?_eq_some_iff.1 hb).1
  refine⟨?_,hB,hlt⟩;by_cases hR:R a.block
  . obtain⟨c',el',fr',h1,h2⟩:=S.cold _ hR hB;rw [h2] at hb;cases hb;simp [World.cell?,h1,hs,hc]
  . have:=S.same _ hB hR;rw [hb] at this;simp [World.cell?,<-this,hs,hc]
theorem Shade.far {B R:Nat->Prop} {w0 w:World} (S:Shade B R w0 w) (P:Program) (a:Addr) (t:Bool):(∃ h,w0.farLoad P a t=.error h)/\∀ v,∃ h,w0.farStore P a v t=.error h:=by
  have hv:∀ at_ u,w0.heap[a.block]?≠some (.view at_ u):=fun at_ u hb=>by
    by_cases hB:B a.block
    . have hd:=S.dead _ hB;rw [hd] at hb;cases hb
    . have:=S.novw _ _ hB hb;cases this
  constructor
  . unfold World.farLoad;split
    . rename_i at_ u hb;exact absurd hb (hv at_ u)
    . exact⟨_,rfl⟩
  . intro v;unfold World.farStore;split
    . rename_i at_ u hb;exact absurd hb (hv at_ u)
    . exact⟨_,rfl⟩
theorem Shade.unfrozen {B R:Nat->Prop} {w0 w:World} (S:Shade B R w0 w) {a:Addr} {v u:Value} (h:w0.cell? a=some v) (hf:w0.frozen? a=false):¬ R a.block/\w.frozen? a=false/\Shade B R (w0.setCell a u) (w.setCell a u):=by
  obtain⟨c,el,fr,hb,hs,hc⟩:=zaK h;obtain⟨h1,hB,hlt⟩:=S.cell h;have hR:¬ R a.block:=fun hR=>by
    obtain⟨c',el',fr',h3,h4⟩:=S.cold _ hR hB;rw [h4] at hb;cases hb;have h5:a.off<c.size:=(Array.getElem?_eq_some_iff.1 hc).1;simp [World.frozen?,h4] at hf;omega
  have hsm:=S.same _ hB hR;refine⟨hR,?_,?_⟩
  . unfold World.frozen? at hf ⊢;rw [<-hsm];exact hf
  . have hget:∀ (x:World) b,(x.setCell a u).heap[b]?=if a.block=b then (x.heap[b]?).map (fun|.cells c elem frozen=>.cells (if a.spot.isSome then c else c.setIfInBounds a.off u) elem frozen|o=>o) else x.heap[b]?:=fun x b=>by
      unfold World.setCell;simp only [Array.getElem?_modify];split
      . rfl
      . rfl
    have hsz:∀ x:World,(x.setCell a u).heap.size=x.heap.size:=fun x=>by simp [World.setCell]
    refine⟨by rw [hsz,hsz];exact S.size,fun b hb=>by rw [hsz];exact S.low b hb,fun b h3 h4=>?_,fun b h3=>?_,fun b h3 h4=>?_,fun b o h3 h4=>?_⟩
    . rw [hget,hget,S.same b h3 h4]
    . have hne:a.block≠b:=fun e=>hB (e ▸ h3);rw [hget,if_neg hne];exact S.dead b h3
    . have hne:a.block≠b:=fun e=>hR (e ▸ h3);rw [hget,hget,if_neg hne,if_neg hne];exact S.cold b h3 h4
    . rw [hget] at h4;split at h4
      . rename_i e;subst e;rw [hb] at h4;simp only [Option.map_some,Option.some.injEq] at h4;subst h4;rfl
      . exact S.novw b o h3 h4
theorem Shade.push {B R:Nat->Prop} {w0 w:World} (S:Shade B R w0 w) (o:Obj) (ho:zhV o=false):Shade B R { w0 with heap:=w0.heap.push o } { w with heap:=w.heap.push o }:=by
  have hl:∀ b,b<w.heap.size->(w0.heap.push o)[b]?=w0.heap[b]?/\(w.heap.push o)[b]?=w.heap[b]?:=fun b hb=>by
    rw [Array.getElem?_push,if_neg (by rw [S.size];omega),Array.getElem?_push,if_neg (by omega)];exact⟨rfl,rfl⟩
  refine⟨by simp [S.size],fun b hb=>?_,fun b h3 h4=>?_,fun b h3=>?_,fun b h3 h4=>?_,fun b x h3 h4=>?_⟩
  . have:=S.low b hb;simp only [Array.size_push];omega
  . show (w0.heap.push o)[b]?=(w.heap.push o)[b]?;rw [Array.getElem?_push,Array.getElem?_push,S.size,S.same b h3 h4]
  . show (w0.heap.push o)[b]?=_;rw [(hl b (S.low b (.inl h3))).1];exact S.dead b h3
  . show ∃ c el fr,(w.heap.push o)[b]?=_/\(w0.heap.push o)[b]?=_;rw [(hl b (S.low b (.inr h3))).1,(hl b (S.low b (.inr h3))).2];exact S.cold b h3 h4
  . have h4:(w0.heap.push o)[b]?=some x:=h4;rw [Array.getElem?_push] at h4;split at h4
    . cases h4;exact ho
    . exact S.novw b x h3 h4
theorem zbc {α:Type} {P:Program} {s:Sem α}:∀ {w:World} {es:Array Event} {a:α} {w':World} {es':Array Event},Dead s->s.runT P w es=(.ok a w',es')->False:=by
  induction s with
  | pure a=>intro w es a' w' es' D _;exact D
  | halt x=>intro w es a' w' es' _ h;simp only [Sem.runT] at h;cases h
  | load m ad k ih =>
    intro w es a' w' es' D h;simp only [Sem.runT] at h;split at h
    . exact ih _ (D _) h
    . split at h
      . exact ih _ (D _) h
      . cases h
  | store m ad v k ih =>
    intro w es a' w' es' D h;cases v<;>simp only [Sem.runT] at h<;>first
      | (cases h;done)
      | (split at h
         . split at h
           . cases h
           . exact ih D h
         . split at h
           . exact ih D h
           . cases h)
  | new o k ih=>intro w es a' w' es' D h;simp only [Sem.runT] at h;exact ih _ (D _) h
  | shape r k ih=>intro w es a' w' es' D h;simp only [Sem.runT] at h;exact ih _ (D _) h
  | freeze a n k ih=>intro w es a' w' es' D h;simp only [Sem.runT] at h;exact ih D h
  | frozen a k ih=>intro w es a' w' es' D h;simp only [Sem.runT] at h;exact ih _ (D _) h
  | getObj r k ih =>
    intro w es a' w' es' D h;simp only [Sem.runT] at h;split at h
    . cases h
    . exact ih _ (D _) h
    . cases h
  | setObj r o k ih =>
    intro w es a' w' es' D h;simp only [Sem.runT] at h;split at h
    . cases h
    . exact ih D h
    . cases h
  | choose q k ih =>
    intro w es a' w' es' D h;simp only [Sem.runT] at h;split at h
    . exact ih _ (D _) h
    . exact ih _ (D _) h
  | sys c k ih=>intro w es a' w' es' D h;simp only [Sem.runT] at h;exact ih _ (D _) h
  | program k ih=>intro w es a' w' es' D h;simp only [Sem.runT] at h;exact ih _ (D _) h
  | mark m k ih=>intro w es a' w' es' D h;simp only [Sem.runT] at h;exact ih D h
def NoV (w:World):Prop:=∀ (b:Nat) o,w.heap[b]?=some o->zhV o=false
theorem NoV.far {w:World} (N:NoV w) (P:Program) (a:Addr) (t:Bool):(∃ h,w.farLoad P a t=.error h)/\∀ v,∃ h,w.farStore P a v t=.error h:=by
  have hv:∀ at_ u,w.heap[a.block]?≠some (.view at_ u):=fun at_ u hb=>by
    have:=N _ _ hb;cases this
  constructor
  . unfold World.farLoad;split
    . rename_i at_ u hb;exact absurd hb (hv at_ u)
    . exact⟨_,rfl⟩
  . intro v;unfold World.farStore;split
    . rename_i at_ u hb;exact absurd hb (hv at_ u)
    . exact⟨_,rfl⟩
theorem NoV.set {w:World} (N:NoV w) (a:Addr) (u:Value):NoV (w.setCell a u):=by
  intro b o hb;unfold World.setCell at hb;simp only [Array.getElem?_modify] at hb;split at hb
  . cases hx:w.heap[b]? with
    | none=>rw [hx] at hb;cases hb
    | some x =>
      rw [hx] at hb;simp only [Option.map_some,Option.some.injEq] at hb;subst hb;have:=N b x hx;cases x<;>first|rfl|exact this
  . exact N b o hb
theorem NoV.push {w:World} (N:NoV w) (x:Obj) (hx:zhV x=false):NoV { w with heap:=w.heap.push x }:=by
  intro b o hb;simp only [Array.getElem?_push] at hb;split at hb
  . cases hb;exact hx
  . exact N b o hb
theorem zfA {α:Type} {P:Program} {s:Sem α}:∀ {w:World} {es:Array Event} {a:α} {w':World} {es':Array Event},Tame P s->NoV w->s.runT P w es=(.ok a w',es')->w.drawn<=w'.drawn/\w'={ w with heap:=w'.heap,drawn:=w'.drawn }/\NoV w':=by
  induction s with
  | pure a=>intro w es a' w' es' _ N h;simp only [Sem.runT,Prod.mk.injEq,Result.ok.injEq] at h;obtain⟨⟨_,rfl⟩,_⟩:=h;exact⟨Nat.le_refl _,rfl,N⟩
  | halt x=>intro w es a' w' es' _ N h;simp only [Sem.runT] at h;cases h
  | load m ad k ih =>
    intro w es a' w' es' D N h;simp only [Sem.runT] at h;split at h
    . exact ih _ (D.2 _) N h
    . obtain⟨⟨x,hx⟩,_⟩:=N.far P ad (m==.atomic);rw [hx] at h;cases h
  | store m ad v k ih =>
    intro w es a' w' es' D N h;have hfar:=(N.far P ad (m==.atomic)).2;have hgo:∀ v es2,k.runT P (w.setCell ad v) es2=(.ok a' w',es')->w.drawn<=w'.drawn/\w'={ w with heap:=w'.heap,drawn:=w'.drawn }/\NoV w':=fun v es2 h3=>ih (w:=w.setCell ad v) D.2 (N.set ad v) h3
    cases v<;>simp only [Sem.runT] at h<;>first
      | (cases h;done)
      | (split at h
         . split at h
           . cases h
           . exact hgo _ _ h
         . split at h
           . rename_i hw;obtain⟨x,hx⟩:=hfar _;rw [hx] at hw;cases hw
           . cases h)
  | new o k ih=>intro w es a' w' es' D N h;simp only [Sem.runT] at h;exact ih (w:={ w with heap:=w.heap.push o }) _ (D.2 _) (N.push o D.1) h
  | choose q k ih =>
    intro w es a' w' es' D N h;simp only [Sem.runT] at h;split at h
    . exact ih _ (D _) N h
    . obtain⟨h1,h2,h3⟩:=ih (w:={ w with drawn:=w.drawn+1 }) _ (D _) N h
      exact⟨by simp only at h1;omega,h2,h3⟩
  | program k ih=>intro w es a' w' es' D N h;simp only [Sem.runT] at h;exact ih _ D N h
  | mark m k ih=>intro w es a' w' es' D N h;simp only [Sem.runT] at h;exact ih D.2 N h
  | shape r k ih=>intro w es a' w' es' D N h;exact (zbc (s:=.shape r k) D h).elim
  | freeze a n k ih=>intro w es a' w' es' D N h;exact (zbc (s:=.freeze a n k) D h).elim
  | frozen a k ih=>intro w es a' w' es' D N h;exact (zbc (s:=.frozen a k) D h).elim
  | getObj r k ih=>intro w es a' w' es' D N h;exact (zbc (s:=.getObj r k) D h).elim
  | setObj r o k ih=>intro w es a' w' es' D N h;exact (zbc (s:=.setObj r o k) D h).elim
  | sys c k ih=>intro w es a' w' es' D N h;exact (zbc (s:=.sys c k) D h).elim
theorem Shade.nov {B R:Nat->Prop} {w0 w:World} (S:Shade B R w0 w):NoV w0:=by
  intro b o hb;by_cases h:B b
  . have hd:=S.dead b h;rw [hd] at hb;cases hb;rfl
  . exact S.novw b o h hb
theorem ziZ {α:Type} {P:Program} {s:Sem α}:∀ {w:World} {es:Array Event} {a:α} {w':World} {es':Array Event},Tame P s->NoV w->s.runT P w es=(.ok a w',es')->∀ t:Tape,(∀ i q,w.drawn<=i->i<w'.drawn->w.tape i q=t i q) ->
    s.runT P { w with tape:=t } es=(.ok a { w' with tape:=t },es'):=by
  induction s with
  | pure a=>intro w es a' w' es' _ N h t _;simp only [Sem.runT,Prod.mk.injEq,Result.ok.injEq] at h ⊢;obtain⟨⟨rfl,rfl⟩,rfl⟩:=h;exact⟨⟨rfl,rfl⟩,rfl⟩
  | halt x=>intro w es a' w' es' _ N h;simp only [Sem.runT] at h;cases h
  | load m ad k ih =>
    intro w es a' w' es' D N h t ht;simp only [Sem.runT] at h ⊢;rw [show World.cell? { w with tape:=t } ad=w.cell? ad from rfl]
    split at h
    . exact ih _ (D.2 _) N h t ht
    . obtain⟨⟨x,hx⟩,_⟩:=N.far P ad (m==.atomic);rw [hx] at h;cases h
  | store m ad v k ih =>
    intro w es a' w' es' D N h t ht;have hfar:=(N.far P ad (m==.atomic)).2;cases v<;>simp only [Sem.runT] at h ⊢<;>first
      | (cases h;done)
      | (rw [show World.cell? { w with tape:=t } ad=w.cell? ad from rfl]
         split at h
         . split at h
           . cases h
           . rename_i hf;rw [if_neg (show ¬ World.frozen? { w with tape:=t } ad=true from hf)]
             exact ih (w:=w.setCell ad _) D.2 (N.set _ _) h t ht
         . split at h
           . rename_i hw;obtain⟨x,hx⟩:=hfar _;rw [hx] at hw;cases hw
           . cases h)
  | new o k ih=>intro w es a' w' es' D N h t ht;simp only [Sem.runT] at h ⊢;exact ih (w:={ w with heap:=w.heap.push o }) _ (D.2 _) (N.push o D.1) h t ht
  | choose q k ih =>
    intro w es a' w' es' D N h t ht;simp only [Sem.runT] at h ⊢;split at h
    . rename_i hq;rw [if_pos hq];exact ih _ (D _) N h t ht
    . rename_i hq;rw [if_neg hq];have hm:=(zfA (w:={ w with drawn:=w.drawn+1 }) (D _) N h).1
      simp only at hm;rw [<-ht w.drawn q (Nat.le_refl _) (by omega)]
      exact ih _ (D _) (show NoV { w with drawn:=w.drawn+1 } from N) h t fun i q h1 h2=>ht i q (by simp only at h1;omega) h2
  | program k ih=>intro w es a' w' es' D N h t ht;simp only [Sem.runT] at h ⊢;exact ih _ D N h t ht
  | mark m k ih=>intro w es a' w' es' D N h t ht;simp only [Sem.runT] at h ⊢;exact ih D.2 N h t ht
  | shape r k ih=>intro w es a' w' es' D N h;exact (zbc (s:=.shape r k) D h).elim
  | freeze a n k ih=>intro w es a' w' es' D N h;exact (zbc (s:=.freeze a n k) D h).elim
  | frozen a k ih=>intro w es a' w' es' D N h;exact (zbc (s:=.frozen a k) D h).elim
  | getObj r k ih=>intro w es a' w' es' D N h;exact (zbc (s:=.getObj r k) D h).elim
  | setObj r o k ih=>intro w es a' w' es' D N h;exact (zbc (s:=.setObj r o k) D h).elim
  | sys c k ih=>intro w es a' w' es' D N h;exact (zbc (s:=.sys c k) D h).elim
theorem zkJ {α:Type} (P:Program) {B R:Nat->Prop} (s:Sem α):∀ {w0 w:World} {es:Array Event} {a:α} {w0':World} {es':Array Event},Tame P s->Shade B R w0 w->s.runT P w0 es=(.ok a w0',es')->(∀ i q,w0.drawn+i<w0'.drawn->w0.tape (w0.drawn+i) q=w.tape (w.drawn+i) q) ->
    ∃ w',s.runT P w es=(.ok a w',es')/\Shade B R w0' w'/\w.heap.size<=w'.heap.size/\(∀ b,B b\/R b->w'.heap[b]?=w.heap[b]?)/\(w'={ w with heap:=w'.heap,drawn:=w'.drawn })/\w'.drawn+w0.drawn=w.drawn+w0'.drawn/\∃ u:List Event,es'=es++u.toArray/\∀ e∈u,Own1 B R w'.heap.size e:=by
  induction s with
  | pure a =>
    intro w0 w es a' w0' es' _ S h hd;simp only [Sem.runT,Prod.mk.injEq,Result.ok.injEq] at h;obtain⟨⟨rfl,rfl⟩,rfl⟩:=h;exact⟨w,rfl,S,Nat.le_refl _,fun _ _=>rfl,rfl,rfl,[],by simp,fun e he=>by cases he⟩
  | load m ad k ih =>
    intro w0 w es a' w0' es' T S h hd;obtain⟨rfl,T⟩:=T;simp only [Sem.runT] at h ⊢;cases hc:w0.cell? ad with
    | none =>
      obtain⟨⟨x,hx⟩,_⟩:=S.far P ad (Mode.plain==.atomic);rw [hc] at h;simp only [hx] at h;cases h
    | some v =>
      obtain⟨h1,hB,hlt⟩:=S.cell hc;rw [hc] at h;rw [h1];obtain⟨w',h2,S',hsz,hfr,hws,hdr,u,rfl,hu⟩:=ih v (T v) S h hd;refine⟨w',h2,S',hsz,hfr,hws,hdr,⟨.cell ad,false,Mode.plain==.atomic⟩::u,by simp,fun e he=>?_⟩
      rcases List.mem_cons.1 he with rfl|he
      . exact .inr ⟨rfl,ad,rfl,hB,fun h=>by (cases h),by omega⟩
      . exact hu e he
  | store m ad v k ih =>
    intro w0 w es a' w0' es' T S h hd;obtain⟨rfl,T⟩:=T;have hcell:∀ {x},Sem.runT P (.store .plain ad v k) x es=Sem.runT P (.store .plain ad v k) x es:=fun {x}=>rfl;cases v with
    | agg cs=>simp only [Sem.runT] at h;cases h
    | tuple cs=>simp only [Sem.runT] at h;cases h
    | _ =>
      simp only [Sem.runT] at h ⊢;cases hc:w0.cell? ad with
      | none =>
        rw [hc] at h;obtain⟨_,hx⟩:=S.far P ad (Mode.plain==.atomic);generalize hz:World.farStore P w0 ad _ _=z at h;have hx':∃ x,z=.error x:=by rw [<-hz];exact hx _
        obtain⟨x,rfl⟩:=hx';cases h
      | some v' =>
        rw [hc] at h;cases hf:w0.frozen? ad with
        | true=>simp only [hf,if_true] at h;cases h
        | false =>
          simp only [hf,Bool.false_eq_true,if_false] at h;obtain⟨h1,hB,hlt⟩:=S.cell hc;obtain⟨hR,hf',S'⟩:=S.unfrozen (u:=_) hc hf;rw [h1];simp only [hf',Bool.false_eq_true,if_false];obtain⟨w',h2,S2,hsz,hfr,hws,hdr,u,rfl,hu⟩:=ih T S' h hd;refine⟨w',h2,S2,by simpa [World.setCell] using hsz,fun b hb=>?_,hws,hdr,⟨.cell ad,true,Mode.plain==.atomic⟩::u,by simp,fun e he=>?_⟩
          . rw [hfr b hb];have hne:ad.block≠b:=fun e=>by
              rcases hb with hb|hb
              . exact hB (e ▸ hb)
              . exact hR (e ▸ hb)
            unfold World.setCell;simp only [Array.getElem?_modify,if_neg hne]
          . rcases List.mem_cons.1 he with rfl|he
            . have:w.heap.size<=w'.heap.size:=by simpa [World.setCell] using hsz
              exact .inr ⟨rfl,ad,rfl,hB,fun _=>hR,by omega⟩
            . exact hu e he
  | new o k ih =>
    intro w0 w es a' w0' es' T S h hd;simp only [Sem.runT] at h ⊢;rw [S.size] at h;obtain⟨w',h2,S',hsz,hfr,hws,hdr,u,rfl,hu⟩:=ih _ (T.2 _) (S.push o T.1) h hd;refine⟨w',h2,S',by simp at hsz;omega,fun b hb=>?_,hws,hdr,u,rfl,hu⟩
    rw [hfr b hb];have:=S.low b hb;rw [Array.getElem?_push,if_neg (by omega)]
  | choose q k ih =>
    intro w0 w es a' w0' es' T S h hd;simp only [Sem.runT] at h ⊢;split at h
    . rename_i hq;simp only [hq,if_true];exact ih _ (T _) S h hd
    . rename_i hq;simp only [hq];have hm:=(zfA (w:={ w0 with drawn:=w0.drawn+1 }) (T _) S.nov h).1
      rw [show w0.tape w0.drawn q=w.tape w.drawn q from hd 0 q (by simp only at hm;omega)] at h
      obtain⟨w',h2,S',hsz,hfr,hws,hdr,u,h3,hu⟩:=ih _ (T _) (w0:={ w0 with drawn:=w0.drawn+1 }) (w:={ w with drawn:=w.drawn+1 }) ⟨S.size,S.low,S.same,S.dead,S.cold,S.novw⟩ h (fun i q hi=>by
        show w0.tape (w0.drawn+1+i) q=w.tape (w.drawn+1+i) q;rw [Nat.add_assoc,Nat.add_assoc];exact hd (1+i) q (by simp only at hi;omega))
      exact⟨w',h2,S',hsz,hfr,hws,by simp only at hdr;omega,u,h3,hu⟩
  | program k ih =>
    intro w0 w es a' w0' es' T S h hd;simp only [Sem.runT] at h ⊢;exact ih P T S h hd
  | halt x =>
    intro w0 w es a' w0' es' _ S h;simp only [Sem.runT] at h;cases h
  | shape r k ih =>
    intro w0 w es a' w0' es' T S h;exact (zbc (s:=.shape r k) T h).elim
  | freeze a n k ih =>
    intro w0 w es a' w0' es' T S h;exact (zbc (s:=.freeze a n k) T h).elim
  | frozen a k ih =>
    intro w0 w es a' w0' es' T S h;exact (zbc (s:=.frozen a k) T h).elim
  | getObj r k ih =>
    intro w0 w es a' w0' es' T S h;exact (zbc (s:=.getObj r k) T h).elim
  | setObj r o k ih =>
    intro w0 w es a' w0' es' T S h;exact (zbc (s:=.setObj r o k) T h).elim
  | sys c k ih =>
    intro w0 w es a' w0' es' T S h;exact (zbc (s:=.sys c k) T h).elim
  | mark m k ih =>
    intro w0 w es a' w0' es' T S h hd;obtain⟨rfl,T⟩:=T;simp only [Sem.runT] at h ⊢;obtain⟨w',h2,S',hsz,hfr,hws,hdr,u,rfl,hu⟩:=ih T S h hd;refine⟨w',h2,S',hsz,hfr,hws,hdr,⟨.mark .noRoom,false,true⟩::u,by simp,fun e he=>?_⟩
    rcases List.mem_cons.1 he with rfl|he
    . exact .inl rfl
    . exact hu e he
end Go.Proofs.Ytgndgbnhkoppmaa
namespace Go.Proofs.Ytgndgbnhkoppmaa
open Go Go.Conc
structure XSo (P:Program) (c:Goroutine) (w0:World) (c':Goroutine) (w0':World) (es:Array Event):Prop where
  drawn:w0.drawn<=w0'.drawn
  keep:w0'={ w0 with heap:=w0'.heap,drawn:=w0'.drawn }
  go:∀ main,stepG P main c w0=.go c' w0' es
  tape:∀ t:Tape,(∀ i q,w0.drawn<=i->i<w0'.drawn->w0.tape i q=t i q)->∀ main,stepG P main c { w0 with tape:=t }=.go c' { w0' with tape:=t } es
  move:∀ (B R:Nat->Prop) (main:Bool) (w:World),Shade B R w0 w->(∀ i q,w0.drawn+i<w0'.drawn->w0.tape (w0.drawn+i) q=w.tape (w.drawn+i) q) ->
      ∃ w',stepG P main c w=.go c' w' es/\Shade B R w0' w'/\w.heap.size<=w'.heap.size/\(∀ b,B b\/R b->w'.heap[b]?=w.heap[b]?)/\(w'={ w with heap:=w'.heap,drawn:=w'.drawn }) /\
        w'.drawn+w0.drawn=w.drawn+w0'.drawn/\∀ e∈es,Own1 B R w'.heap.size e
def XS (P:Program) (c:Goroutine) (w0:World) (c':Goroutine) (w0':World):Prop :=
  c.status=.running/\(NoV w0->NoV w0'/\∃ es,XSo P c w0 c' w0' es)
section
variable {P:Program} {c c':Goroutine} {w0 w0':World} {b:Frame} {a:Act} {k:List Item} {cs:List Frame} {ops:Array Oper} {i:Nat} {rest:List Nat} {o:Oper}
theorem zcj (hr:c.status=.running) (h:∀ main w,stepG P main c w=.go c' w) (w0:World):XS P c w0 c' w0 :=
  ⟨hr,fun N=>⟨N,#[],Nat.le_refl _,rfl,fun main=>h main w0,fun t _ main=>h main _,fun B R main w S _=>⟨w,h main w,S,Nat.le_refl _,fun _ _=>rfl,rfl,rfl,fun e he=>by simp at he⟩⟩⟩
theorem zk3 {α:Type} {s:Sem α} {x:α} {fn:FuncId} (hr:c.status=.running) (T:Tame P s) (hs:s.run P w0=.ok x w0') (h:∀ main w w',s.run P w=.ok x w'->stepG P main c w=.go c' w' (seen P fn (s.events P w #[]))):XS P c w0 c' w0':=by
  have h1:s.runT P w0 #[]=(.ok x w0',s.events P w0 #[]):=by rw [Sem.runT_eq,hs]
  refine⟨hr,fun N=>?_⟩;obtain⟨hdr,hk,N'⟩:=zfA T N h1;refine⟨N',_,hdr,hk,fun main=>h main w0 w0' hs,fun t ht main=>?_,fun B R main w S hd=>?_⟩
  . have h2:=ziZ T N h1 t ht;rw [Sem.runT_eq,Prod.mk.injEq] at h2;rw [h main _ _ h2.1,h2.2]
  . obtain⟨w',h2,S',hsz,hfr,hws,hdr,u,hu,hO⟩:=zkJ P s T S h1 hd;rw [Sem.runT_eq,Prod.mk.injEq] at h2;refine⟨w',?_,S',hsz,hfr,hws,hdr,fun e he=>?_⟩
    . rw [h main w w' h2.1,h2.2]
    . have:=mem_seen he;rw [hu] at this;exact hO e (by simpa using this)
theorem zo6 {v:Value} (ho:ops[i]?=some o) (hw:Region.wanted o (yielded ops a.tmps)=true) (hk:b.kind≠.early) (T:Tame P (execOp a.eval o)) (hr:(execOp a.eval o).run P w0=.ok (.value v) w0') :
    XS P (G (b.at a (.inRegion ops (i::rest)::k)) cs) w0 (G (b.at (a.put o.dst v) (.inRegion ops rest::k)) cs) w0' :=
  zk3 (fn:=b.fn) rfl T hr fun main w w' h=>stepG_value ho hw hk h
theorem zq6 (ho:ops[i]?=some o) (hw:Region.wanted o (yielded ops a.tmps)=true) (hk:b.kind≠.early) (T:Tame P (execOp a.eval o)) (hr:(execOp a.eval o).run P w0=.ok .skip w0') :
    XS P (G (b.at a (.inRegion ops (i::rest)::k)) cs) w0 (G (b.at (a.put o.dst undef) (.inRegion ops rest::k)) cs) w0' :=
  zk3 (fn:=b.fn) rfl T hr fun main w w' h=>stepG_none ho hw hk h
theorem zld {f:FuncId} {args:Array Value} (ho:ops[i]?=some o) (hw:Region.wanted o (yielded ops a.tmps)=true) (hk:b.kind≠.early) (T:Tame P (execOp a.eval o)) (hr:(execOp a.eval o).run P w0=.ok (.enter f args) w0') :
    XS P (G (b.at a (.inRegion ops (i::rest)::k)) cs) w0 (G (Frame.enter P f args .normal) (b.at a (.inRegion ops (i::rest)::k)::cs)) w0' :=
  zk3 (fn:=b.fn) rfl T hr fun main w w' h=>stepG_enter ho hw hk h
theorem zgo (ho:ops[i]?=some o) (hw:Region.wanted o (yielded ops a.tmps)=false) (w0:World) :
    XS P (G (b.at a (.inRegion ops (i::rest)::k)) cs) w0 (G (b.at (a.put o.dst undef) (.inRegion ops rest::k)) cs) w0 :=
  zcj rfl (fun main w=>stepG_unwanted ho hw) w0
theorem zrD {id:Nat} (w0:World):XS P (G (b.at a (.code (.region id ops true)::k)) cs) w0 (G (b.at a (.inRegion ops (Region.schedule (P.follows .mixedOrders) ops (w0.tape w0.drawn (.order b.fn id)))::k)) cs) { w0 with drawn:=w0.drawn+1 }:=by
  refine⟨rfl,fun N=>⟨N,#[],Nat.le_succ _,rfl,fun main=>stepG_region_draw,fun t ht main=>?_,fun B R main w S hd=>?_⟩⟩
  . rw [stepG_region_draw];rw [ht w0.drawn _ (Nat.le_refl _) (Nat.lt_succ_self _)]
  . refine⟨{ w with drawn:=w.drawn+1 },?_,⟨S.size,S.low,S.same,S.dead,S.cold,S.novw⟩,Nat.le_refl _,fun _ _=>rfl,rfl,by simp only;omega,fun e he=>by simp at he⟩
    rw [stepG_region_draw];rw [show w0.tape w0.drawn _=w.tape w.drawn _ from hd 0 _ (by simp)]
theorem zpE {fr c:Frame} {v:Value} {fn:Func} (hf:P.funcs[fr.fn]?=some fn) (T:Tame P (results fn fr.tmps)) (h:fr.leaving P w0 (.returned v)):XS P (G fr (c::cs)) w0 (G (c.finish v) cs) w0:=by
  obtain⟨hm,hd,hk,fn',hf',hr⟩:=h;rw [hf] at hf';cases hf';refine zk3 (fn:=fr.fn) rfl T hr fun main w w' h=>?_;simp [G,stepG,unwind,doReturn,hm,hd,hk,hf,h,GStep.after]
end
inductive XSt (P:Program):Goroutine->World->Goroutine->World->Prop
  | refl {c w}:XSt P c w c w
  | head {c w c' w' c'' w''} (h:XS P c w c' w') (ht:XSt P c' w' c'' w''):XSt P c w c'' w''
theorem XSt.one {P:Program} {c c':Goroutine} {w w':World} (h:XS P c w c' w'):XSt P c w c' w':=.head h .refl
theorem XSt.trans {P:Program} {c c' c'':Goroutine} {w w' w'':World} (h:XSt P c w c' w') (h':XSt P c' w' c'' w''):XSt P c w c'' w'':=by
  induction h with
  | refl=>exact h'
  | head x _ ih=>exact .head x (ih h')
end Go.Proofs.Ytgndgbnhkoppmaa
namespace Go.Proofs.Ytgndgbnhkoppmaa
open Go Go.RowKit
def Peek {α:Type}:Sem α->Prop
  | .pure _=>True
  | .halt _=>True
  | .shape _ k=>∀ x,Peek (k x)
  | .frozen _ k=>∀ b,Peek (k b)
  | _=>False
section
variable {P:Program}
theorem zb6 (v:Value):Tame P (asIntOf v):=by unfold asIntOf;split<;>exact trivial
theorem zbG (v:Value):Tame P (asAddr v):=by
  unfold asAddr;split
  . exact trivial
  . exact zb1 _
  . exact trivial
theorem zlW {α β:Type} {s:Sem α} {f:α->Sem β} (h:Peek s) (hf:∀ a,Peek (f a)):Peek (s.bind f):=by
  induction s with
  | pure a=>exact hf a
  | halt _=>trivial
  | shape r k ih=>exact fun x=>ih x (h x)
  | frozen a k ih=>exact fun x=>ih x (h x)
  | _=>exact h.elim
theorem ziY {α β:Type} {s:Sem α} {f:α->Sem β} (h:Peek s) (hf:∀ a,Peek (f a)):Peek (s >>= f):=zlW h hf
theorem zlC {α β:Type} {s:Sem α} {f:α->Sem β} (h:Peek s) (ht:∀ a,Tame P (f a)) (hd:∀ a,Dead (f a)):Tame P (s.bind f):=by
  cases s with
  | pure a=>exact ht a
  | halt _=>trivial
  | shape r k=>exact fun x=>Dead.after' hd
  | frozen a k=>exact fun x=>Dead.after' hd
  | _=>exact h.elim
theorem zdq {α β:Type} {s:Sem α} {f:α->Sem β} (h:Peek s) (ht:∀ a,Tame P (f a)) (hd:∀ a,Dead (f a)):Tame P (s >>= f):=zlC h ht hd
theorem zlw (a:Addr) (n:Nat):Peek (Builtin.holdsCells a n):=by
  unfold Builtin.holdsCells;refine ziY (fun x=>trivial) fun x=>?_;split<;>exact trivial
theorem zbJ (size sLen n:Nat) (base:Option Addr) (x:Value):Peek (Builtin.mayShare size sLen n base x):=by
  unfold Builtin.mayShare
  repeat' (first|exact trivial|exact zlw _ _|exact (fun _=>trivial:Peek (frozen _))|(refine ziY ?_ fun _=>?_)|split|dsimp only)
theorem zcn:Tame P (mark Mark.noRoom):=⟨rfl,trivial⟩
theorem zbe {α:Type} (k:IntKind) (i:Int) (n:Int) (e:BoundsCode):Tame P (boundsPanic k i n e:Sem α):=by
  unfold boundsPanic
  repeat' (first|exact trivial|exact zb1 _|exact zbX _|(refine zao ?_ fun _=>?_)|split|dsimp only)
theorem zkv (ats:Array TypeId) (ty:TypeId) (args:Array Value):Tame P (Builtin.append_ ats ty args):=by
  unfold Builtin.append_;split
  . refine zao (zaA _) fun d=>?_;split
    . split
      . refine zao (za2 _) fun sz=>?_;dsimp only;split
        . refine zao (zaA _) fun d=>zao (zjt _) fun zeros=>?_;cases zeros
          . simp only [Bool.false_eq_true,if_false,Bool.not_false,if_true,false_or];refine zao (zb4 _) fun n=>?_
            repeat' (first|exact trivial|exact zaA _|exact zbh _|exact za2 _|exact za5 _|exact zbq _ _ _|exact zaY _ _ _|exact zbj _ _|exact zb7 _|exact zcn|exact zbe _ _ _ _|exact zbX _|exact zb1 _|exact zb5 _|exact zb6 _|exact zbG _|exact zb4 _|exact za4 _ _|exact zcm _|(refine zdq (zbJ _ _ _ _ _) (fun _=>?_) (fun _=>?_))|(refine zao ?_ fun _=>?_)|split|dsimp only)
          . simp only [if_true,Bool.not_true,Bool.false_eq_true,if_false,true_or,and_true];refine zao (zb5 _) fun n=>?_
            repeat' (first|exact trivial|exact zaA _|exact zbh _|exact za2 _|exact za5 _|exact zbq _ _ _|exact zaY _ _ _|exact zbj _ _|exact zb7 _|exact zcn|exact zbe _ _ _ _|exact zbX _|exact zb1 _|exact zb5 _|exact zb6 _|exact zbG _|exact zb4 _|exact za4 _ _|exact zcm _|(refine zdq (zbJ _ _ _ _ _) (fun _=>?_) (fun _=>?_))|(refine zao ?_ fun _=>?_)|split|dsimp only)
        . refine zao (zjt _) fun zeros=>?_;cases zeros
          . simp only [Bool.false_eq_true,if_false,Bool.not_false,if_true,false_or];refine zao (zb4 _) fun n=>?_
            repeat' (first|exact trivial|exact zaA _|exact zbh _|exact za2 _|exact za5 _|exact zbq _ _ _|exact zaY _ _ _|exact zbj _ _|exact zb7 _|exact zcn|exact zbe _ _ _ _|exact zbX _|exact zb1 _|exact zb5 _|exact zb6 _|exact zbG _|exact zb4 _|exact za4 _ _|exact zcm _|(refine zdq (zbJ _ _ _ _ _) (fun _=>?_) (fun _=>?_))|(refine zao ?_ fun _=>?_)|split|dsimp only)
          . simp only [if_true,Bool.not_true,Bool.false_eq_true,if_false,true_or,and_true];refine zao (zb5 _) fun n=>?_
            repeat' (first|exact trivial|exact zaA _|exact zbh _|exact za2 _|exact za5 _|exact zbq _ _ _|exact zaY _ _ _|exact zbj _ _|exact zb7 _|exact zcn|exact zbe _ _ _ _|exact zbX _|exact zb1 _|exact zb5 _|exact zb6 _|exact zbG _|exact zb4 _|exact za4 _ _|exact zcm _|(refine zdq (zbJ _ _ _ _ _) (fun _=>?_) (fun _=>?_))|(refine zao ?_ fun _=>?_)|split|dsimp only)
      . exact trivial
    . exact trivial
  . exact trivial
theorem zhp (t:TypeId) (l c:Value):Tame P (Instr.makeSlice t l c):=by
  unfold Instr.makeSlice
  repeat' (first|exact trivial|exact zaA _|exact zbh _|exact za2 _|exact za5 _|exact zbq _ _ _|exact zaY _ _ _|exact zbj _ _|exact zb7 _|exact zcn|exact zbe _ _ _ _|exact zbX _|exact zb1 _|exact zb5 _|exact zb6 _|exact zbG _|exact zb4 _|exact za4 _ _|exact zcm _|(refine zdq (zbJ _ _ _ _ _) (fun _=>?_) (fun _=>?_))|(refine zao ?_ fun _=>?_)|split|dsimp only)
theorem zgu (v:Value) (n:Nat) (e):Tame P (Instr.sliceBound v n e):=by
  unfold Instr.sliceBound
  repeat' (first|exact trivial|exact zaA _|exact zbh _|exact za2 _|exact za5 _|exact zbq _ _ _|exact zaY _ _ _|exact zbj _ _|exact zb7 _|exact zcn|exact zbe _ _ _ _|exact zbX _|exact zb1 _|exact zb5 _|exact zb6 _|exact zbG _|exact zb4 _|exact za4 _ _|exact zcm _|(refine zdq (zbJ _ _ _ _ _) (fun _=>?_) (fun _=>?_))|(refine zao ?_ fun _=>?_)|split|dsimp only)
theorem zdP (b:Bool) (l c:Nat) (lo hi mx:Option Value):Tame P (Instr.sliceBounds b l c lo hi mx):=by
  unfold Instr.sliceBounds
  repeat' (first|exact trivial|exact zgu _ _ _|(refine zao ?_ fun _=>?_)|split|dsimp only)
theorem zl9 (t:TypeId) (x:Value) (lo hi mx:Option Value):Tame P (Instr.slice t x lo hi mx):=by
  unfold Instr.slice
  repeat' (first|exact trivial|exact zaA _|exact za2 _|exact zbG _|exact zdP _ _ _ _ _ _|(refine zao ?_ fun _=>?_)|split|dsimp only)
end
section
variable {P:Program} {F:Emb} {ρ e:Operand->Value} {w:World}
theorem zhX {s:Sem Value} (h:Tame P s):Tame P (do pure (Next.value (<-s)):Sem Next):=zao h fun _=>trivial
theorem zsn {s:Sem Unit} (h:Tame P s):Tame P (do s;pure Next.skip:Sem Next):=zao h fun _=>trivial
theorem ziO (t:TypeId) (x:Value) (lo hi mx:Option Value):Tame P (Instr.sliceAt t x lo hi mx):=by
  unfold Instr.sliceAt
  repeat' (first|exact trivial|exact zl9 _ _ _ _ _|exact zaA _|exact zdF _|exact za2 _|exact zdP _ _ _ _ _ _|(refine zao ?_ fun _=>?_)|split|dsimp only)
theorem zd0 (o:Oper) (args:Array Operand) (ats:Array TypeId) (h:o.op=.call { callee:=.builtin .append,args:=args,argTypes:=ats }):Tame P (execOp ρ o):=by
  obtain⟨dst,op,ty,pos,after,guard⟩:=o;subst h;simp only [execOp,resolve];refine zfb (a:=_) rfl ?_;exact zao (zkv _ _ _) fun _=>trivial
theorem zno {o:Oper} {h:AHeap} {n:Nat} {v:Value} {ob:Option Blk} (hv:newA P e h n o.op=some (v,ob)):Tame P (execOp ρ o):=by
  cases ho:o.op<;>rw [ho] at hv<;>first
    | (cases hv;done)
    | skip
  . simp only [execOp,ho];exact zhX (zmp _)
  . simp only [execOp,ho];exact zhX (zpQ _ _)
  . simp only [execOp,ho];exact zhX (zgR _ _ _)
  . simp only [execOp,ho];exact zhX (zhp _ _ _)
  . simp only [execOp,ho];exact zhX (ziO _ _ _ _ _)
  . rename_i c;obtain⟨cal,args,ats⟩:=c;cases cal with
    | builtin b =>
      cases b<;>first
        | (cases hv;done)
        | exact zd0 o _ _ ho
    | _=>cases hv
theorem zo0 {o:Oper} {h h':AHeap} {v:Value} (hv:wrA P e h o.op=some (v,h')):Tame P (execOp ρ o):=by
  cases ho:o.op<;>rw [ho] at hv<;>first
    | (cases hv;done)
    | skip
  . simp only [execOp,ho];exact zsn (ziV _ _ _)
  . rename_i c;obtain⟨cal,args,ats⟩:=c;cases cal with
    | builtin b =>
      cases b<;>first
        | (cases hv;done)
        | exact zd0 o _ _ ho
    | _=>cases hv
theorem zoF {h:AHeap} {o:Oper} {v:Value} (H:Holds F h w) (hok:∀ x∈o.op.operands,ρ x=ren F (e x)) (hv:valA P e h o.op=some v):Tame P (execOp ρ o):=by
  cases hl:o.isLd with
  | false=>exact zb8 (zm0 H hok hl hv)
  | true =>
    cases ho:o.op<;>simp only [Oper.isLd,ho] at hl<;>first
      | (cases hl;done)
      | (simp only [execOp,ho];exact zhX (zki _ _))
theorem zom (tmps:Array Value) (r:ResultVar):Tame P (match r with|.tmp t=>pure (tmps.getD t undef)|.cell a t=>do loadVar t (<-asAddr (tmps.getD a undef)):Sem Value):=by
  cases r with
  | tmp t=>exact trivial
  | cell a t=>exact zao (zbG _) fun _=>zfP _ _
theorem znr {α β:Type} {f:α->Sem β} (hf:∀ a,Tame P (f a)) (xs:Array α):Tame P (xs.mapM f):=by
  rw [Array.mapM_eq_mapM_toList];refine zqy ?_;generalize xs.toList=l
  induction l with
  | nil=>exact trivial
  | cons a l ih =>
    rw [List.mapM_cons];exact zao (hf a) fun _=>zao ih fun _=>trivial
theorem zdZ (fn:Func) (tmps:Array Value):Tame P (results fn tmps):=by
  unfold results;exact zao (znr (fun r=>zom tmps r) _) fun _=>trivial
end
end Go.Proofs.Ytgndgbnhkoppmaa
namespace Go.Proofs.Ytgndgbnhkoppmaa
open Go Go.Conc
def TCalls (P:Program) (f:FuncId) (args:Array Value) (w:World) (R:Ending->World->Prop):Prop :=
  ∀ cs,∃ e w' fr,R e w'/\XSt P (G (Frame.enter P f args .normal) cs) w (G fr cs) w'/\fr.fn=f/\fr.leaving P w' e
theorem TCalls.mono {P:Program} {f:FuncId} {args:Array Value} {w:World} {R R':Ending->World->Prop} (h:TCalls P f args w R) (hr:∀ e w',R e w'->R' e w'):TCalls P f args w R':=fun cs=>by
  obtain⟨e,w',fr,h1,h2⟩:=h cs;exact⟨e,w',fr,hr _ _ h1,h2⟩
theorem znv {P:Program} {fr c:Frame} {cs:List Frame} {w:World} {v:Value} (h:fr.leaving P w (.returned v)):XS P (G fr (c::cs)) w (G (c.finish v) cs) w:=by
  obtain⟨_,_,_,fn,hf,_⟩:=id h;exact zpE hf (zdZ _ _) h
def VB:Nat:=1099511627776
def Same (K:Nat->Prop) (F F':Emb):Prop:=∀ n,K n->F.blk n=F'.blk n/\F.base n=F'.base n/\F.slack n=F'.slack n
theorem Same.refl (K:Nat->Prop) (F:Emb):Same K F F:=fun _ _=>⟨rfl,rfl,rfl⟩
theorem Same.symm {K:Nat->Prop} {F F':Emb} (h:Same K F F'):Same K F' F:=fun n k=>⟨(h n k).1.symm,(h n k).2.1.symm,(h n k).2.2.symm⟩
theorem Same.trans {K:Nat->Prop} {F F' F'':Emb} (h:Same K F F') (h':Same K F' F''):Same K F F'':=fun n k=>⟨(h n k).1.trans (h' n k).1,(h n k).2.1.trans (h' n k).2.1,(h n k).2.2.trans (h' n k).2.2⟩
theorem Same.mono {K K':Nat->Prop} {F F':Emb} (h:Same K F F') (hk:∀ n,K' n->K n):Same K' F F':=fun n k=>h n (hk n k)
def Kn (next cnt:Nat) (n:Nat):Prop:=n<next\/(VB<=n/\n<VB+cnt)
def Stab (K:Nat->Prop) (F:Emb) (v:Value):Prop:=∀ F',Same K F F'->ren F' v=ren F v
theorem Stab.move {K K':Nat->Prop} {F F':Emb} {v:Value} (h:Stab K F v) (hs:Same K F F') (hk:∀ n,K n->K' n):Stab K' F' v :=
  fun F'' h'=>(h F'' (hs.trans (h'.mono hk))).trans (h F' hs).symm
theorem Stab.plain {K:Nat->Prop} {F:Emb} {v:Value} (h:zac v=true):Stab K F v:=fun F' _=>(zaC F' h).trans (zaC F h).symm
def Clo (K:Nat->Prop) (v:Value):Prop:=∀ F F':Emb,Same K F F'->ren F v=ren F' v
theorem Clo.stab {K:Nat->Prop} {v:Value} (h:Clo K v) (F:Emb):Stab K F v:=fun F' hs=>(h F F' hs).symm
theorem Clo.plain {K:Nat->Prop} {v:Value} (h:zac v=true):Clo K v:=fun F F' _=>(zaC F h).trans (zaC F' h).symm
def Hand (c:Nat) (v:Value):Prop:=Clo (fun n=>VB<=n/\n<VB+c) v
theorem Hand.plain {c:Nat} {v:Value} (h:zac v=true):Hand c v:=Clo.plain h
structure Kept (w0:World) (M:Nat->Prop) (w:World):Prop where
  os:w.os=w0.os
  tape:w.tape=w0.tape
  output:w.output=w0.output
  size:w0.heap.size<=w.heap.size
  block:∀ b,b<w0.heap.size->¬ M b->w.heap[b]?=w0.heap[b]?
theorem Kept.refl (w:World) (M:Nat->Prop):Kept w M w:=⟨rfl,rfl,rfl,Nat.le_refl _,fun _ _ _=>rfl⟩
theorem Kept.trans {w0 w w':World} {M M':Nat->Prop} (h:Kept w0 M w) (h':Kept w M' w') (hm:∀ b,b<w0.heap.size->M' b->M b):Kept w0 M w' :=
  ⟨h'.os.trans h.os,h'.tape.trans h.tape,h'.output.trans h.output,Nat.le_trans h.size h'.size,fun b hb hn =>
    (h'.block b (Nat.lt_of_lt_of_le hb h.size) (fun k=>hn (hm b hb k))).trans (h.block b hb hn)⟩
structure Face (P:Program) (σ:Type) where
  mix:P.follows .mixedOrders=true
  cnt:σ->Nat
  rep:Emb->σ->World->Prop
  fp:Emb->σ->Nat->Prop
  prim:FuncId->Array Value->σ->Value->σ->Prop
  rep_same:∀ F F' S w,Same (fun n=>VB<=n/\n<VB+cnt S) F F'->rep F S w->rep F' S w/\∀ b,fp F' S b->fp F S b
  rep_kept:∀ F S w w',rep F S w->w.heap.size<=w'.heap.size->(∀ b,fp F S b->w'.heap[b]?=w.heap[b]?)->rep F S w'
  fp_low:∀ F S w b,rep F S w->fp F S b->b<w.heap.size
  prim_hand:∀ f args S v S',prim f args S v S'->cnt S<=cnt S'/\Hand (cnt S') v
  prim_ok:∀ f args S v S' F w,prim f args S v S'->rep F S w->TCalls P f (args.map (ren F)) w fun e w'=>∃ F',Same (fun n=>n<VB+cnt S) F F'/\e=.returned (ren F' v)/\rep F' S' w' /\
    Kept w (fp F S) w'/\∀ b,fp F' S' b->fp F S b\/w.heap.size<=b
inductive Conf (σ:Type) where
  | run (todo:List Item) (tmps:List Value) (h:AHeap) (S:σ)
  | done (v:Value) (h:AHeap) (S:σ)
def ctl (tmps:List Value):List Item->Option (List Item)
  | .code .skip::k|.code (.label _)::k|.inBlock _::k=>some k
  | .code (.seq a b)::k=>some (.code a::.code b::k)
  | .code (.cond c x y)::k=>(match evA tmps c with|.bool b=>some (.code (if b then x else y)::k)|_=>none)
  | .code (.block id b)::k=>some (.code b::.inBlock id::k)
  | .code (.loop b)::k|.inLoop b::k=>some (.code b::.inLoop b::k)
  | .code (.exit id)::k=>exitTo id k
  | .code (.goto l)::k=>gotoIn l k
  | .code (.region _ ops false)::k=>some (.inRegion ops (List.range ops.size)::k)
  | .inRegion _ []::k=>some k
  | .code (.scope b)::k=>some (.code b::.inScope b::k)
  | .inScope _::k=>some k
  | _=>none
def retB:List Item->Bool
  | []|.code .ret::_=>true
  | _=>false
def zaF (P:Program) (tmps:List Value) (h:AHeap):ResultVar->Option Value
  | .tmp t=>some (tmps.getD t undef)
  | .cell a t=>(match tmps.getD a undef with|.pointer (some ad)=>zf4 P h t ad|_=>none)
def resA (P:Program) (fn:Func) (tmps:List Value) (h:AHeap):Option Value:=match fn.results.toList with
  | []=>some (.tuple #[])
  | [r]=>zaF P tmps h r
  | [r,q]=>(match zaF P tmps h r,zaF P tmps h q with|some x,some y=>some (.tuple #[x,y])|_,_=>none)
  | [r,q,s]=>(match zaF P tmps h r,zaF P tmps h q,zaF P tmps h s with|some x,some y,some z=>some (.tuple #[x,y,z])|_,_,_=>none)
  | [r,q,s,u]=>(match zaF P tmps h r,zaF P tmps h q,zaF P tmps h s,zaF P tmps h u with|some x,some y,some z,some a=>some (.tuple #[x,y,z,a])|_,_,_,_=>none)
  | _=>none
def putL (dst:Option Tmp) (v:Value) (tmps:List Value):List Value:=match dst with
  | some d=>tmps.set d v
  | none=>tmps
def zaj (ops:Array Oper) (tmps:List Value) (j:Nat):Option Bool:=match ((ops[j]?).bind (·.dst)).bind (tmps[·]?) with
  | some (.bool b)=>some b
  | _=>none
def zag (fn:Func) (c:Code) (args:Array Value):List Item × List Value:=([.code c],args.toList++List.replicate (fn.ntmps - args.size) undef)
def zc1 (r:Nat->Nat):Emb:=⟨r,fun _=>0,fun _=>0⟩
def goB (fn : Func) : Bool := fn.body.isSome && !(fn.name == "runtime.NumGoroutine")
structure zsx (cnt:Nat) (E:Emb) (h hc:AHeap):Prop where
  clo:∀ n b,hc.get n=some b->∀ v∈b.cells,Clo (Kn hc.next cnt) v
  low:∀ n b,hc.get n=some b->n<hc.next
  row:∀ n b,hc.get n=some b->∃ b0,h.get (E.blk n)=some b0/\b0.elem=b.elem /\
    ((b0.cells=b.cells.map (ren E)/\E.base n=0/\E.slack n=0/\(b.grow=b0.grow\/b.grow=none)/\(b.ro=false->b0.ro=false)) \/
     (b.ro=true/\b.grow=none/\∃ l r,b0.cells=l++b.cells.map (ren E)++r/\l.length=E.base n))
  apart:∀ n m b c,hc.get n=some b->hc.get m=some c->n≠m->b.ro=false->E.blk n≠E.blk m
  lim:hc.next<=VB
  hand:∀ n,VB<=n->E.blk n=n/\E.base n=0/\E.slack n=0
structure Back (cnt:Nat) (E Q:Emb) (h hc h1 h':AHeap) (ex:List Nat) (v0 v:Value):Prop where
  next:h'.next=h.next+ex.length
  lent:∀ n,n<hc.next->Q.blk n=E.blk n/\Q.base n=E.base n/\Q.slack n=E.slack n
  more:∀ j n,ex[j]?=some n->hc.next<=n/\n<VB/\Q.blk n=h.next+j/\Q.base n=0/\Q.slack n=0
  hand:∀ n,VB<=n->Q.blk n=n/\Q.base n=0/\Q.slack n=0
  told:v=ren Q v0
  clo:Clo (fun n=>(∃ b,hc.get n=some b)\/n∈ex\/(VB<=n/\n<VB+cnt)) v0
  rows:∀ n b,h1.get n=some b->((∃ b0,hc.get n=some b0/\b0.ro=false)\/n∈ex)->∀ u∈b.cells,Clo (fun n=>(∃ b,hc.get n=some b)\/n∈ex\/(VB<=n/\n<VB+cnt)) u
  fresh:∀ j n,ex[j]?=some n->h'.get (h.next+j)=(h1.get n).map fun b=>{ b with cells:=b.cells.map (ren Q) }
  old:∀ m,(m<h.next\/h'.next<=m)->(h'.get m=h.get m/\∀ n b,hc.get n=some b->b.ro=false->E.blk n≠m) \/
    ∃ n b0,hc.get n=some b0/\b0.ro=false/\E.blk n=m/\h'.get m=(h1.get n).map fun b=>{ b with cells:=b.cells.map (ren Q) }
  own:∀ n b,h1.get n=some b->((∃ b0,hc.get n=some b0/\b0.ro=false)\/n∈ex)->b.ro=false
  nodup:ex.Nodup
def zax (o:Oper):Bool:=match o.op with|.call c=>(match c.callee with|.builtin _=>false|_=>true)|_=>false
def zc8 (o:Oper):Bool:=match o.op with|.store ..=>true|_=>false
def zfX (o:Oper):Bool:=match o.op with|.alloc _|.box ..|.buildSlice ..|.makeSlice ..|.slice ..=>true|.call c=>(match c.callee with|.builtin .append=>true|_=>false)|_=>false
def zea (o:Oper):Bool:=match o.op with|.load ..|.slice ..=>true|_=>false
def zeQ (o:Oper):Bool:=zax o || zc8 o || zfX o || zea o
def wrB (W:List Nat) (i:Nat) (o:Oper):Bool:=zc8 o || W.contains i
def farB (W:List Nat) (i:Nat):Bool:=W.contains (i+1000000)
def farU (W:List Nat) (n:Nat):Nat:=match W.find? (fun x=>Nat.ble 2000000 x) with|some x=>x - 2000000|none=>n
def zbA (W:List Nat) (i:Nat) (o:Oper):Bool:=zeQ o && !farB W i
def zq0 (W:List Nat) (ops:Array Oper) (ms:List Nat) (i j:Nat):Bool:=match ops[i]?,ops[j]? with
  | some oi,some oj =>
    let meet:=(match oi.dst with|some d=>(zcp ops oj).contains d|none=>false) || (match oj.dst with|some d=>(zcp ops oi).contains d|none=>false) ||
      (wrB W i oi && zbA W j oj) || (zbA W i oi && wrB W j oj) || (zax oi && zax oj) || (farB W i && wrB W j oj && Nat.ble (farU W ops.size) j)
    !meet || (ms.getD j 0).testBit i
  | _,_=>false
def zlQ (W:List Nat) (ops:Array Oper):Bool:=Region.noSelect ops && (List.range ops.size).all fun j=>(match ops[j]? with|none=>true|some oj=>(zcY oj).all (fun d=>decide (d<j)) && (!wrB W j oj || zbA W j oj)) && (!farB W j || Nat.blt j (farU W ops.size)) && (List.range j).all fun i=>zq0 W ops (zas ops.toList []) i j
def Op0 {P:Program} {σ:Type} (X:Face P σ) (o:Oper) (e:Operand->Value) (h:AHeap) (S:σ) (v:Value) (h':AHeap) (S':σ):Prop :=
  (valA P e h o.op=some v/\h'=h/\S'=S)\/(∃ ob,newA P e h h.next o.op=some (v,ob)/\h'=h.addO ob/\S'=S)\/(wrA P e h o.op=some (v,h')/\S'=S) \/
  (∃ f g args,zaW P e o.op=some (f,args)/\P.funcs[f]?=some g/\goB g=true/\X.prim f args S v S'/\h'=h)
structure CallOK {P:Program} {σ:Type} (X:Face P σ) (o:Oper) (e:Operand->Value) (h:AHeap) (S:σ) (v:Value) (h':AHeap) (S':σ) (f:FuncId) (g:Func) (c:Code) (zs:Array Value) (E Q:Emb) (hc h1:AHeap) (ex:List Nat) (v0:Value):Prop where
  call:zaW P e o.op=some (f,zs.map (ren E))
  func:P.funcs[f]?=some g
  go:goB g=true
  body:g.body=some c
  lends:zsx (X.cnt S) E h hc
  clo:∀ u∈zs.toList,Clo (Kn hc.next (X.cnt S)) u
  back:Back (X.cnt S') E Q h hc h1 h' ex v0 v
inductive Kind where
  | skip
  | far
  | op (wr:Bool)
  | call (wr:Bool) (f:FuncId) (g:Func) (c:Code) (zs:Array Value) (E Q:Emb) (hc h1:AHeap) (ex:List Nat) (v0:Value)
  | callD (f:FuncId) (g:Func) (c:Code) (args:Array Value)
structure DRec (σ:Type) where
  tmps:List Value
  h:AHeap
  S:σ
  v:Value
  born:List (Nat × Nat)
  kind:Kind
def visH (n0:Nat) (born:List (Nat × Nat)) (mask:Nat) (h:AHeap):AHeap:=⟨fun n=>if n<n0\/born.any (fun p=>p.2==n && mask.testBit p.1)=true then (h.get n).map (fun b=>{ b with ro:=true }) else none,h.next⟩
def zdC (h hv:AHeap):AHeap:=⟨fun n=>if h.next<=n then (if n<hv.next then hv.get n else none) else h.get n,hv.next⟩
def zex (i a b:Nat):List (Nat × Nat):=(List.range' a (b - a)).map fun n=>(i,n)
def atN (hf:AHeap) (n:Nat):AHeap:=⟨hf.get,n⟩
def GoodK {P:Program} {σ:Type} (X:Face P σ) (W:List Nat) (ops:Array Oper) (n0:Nat) (hf:AHeap) (i:Nat) (o:Oper) (p q:DRec σ):Prop :=
  q.tmps=putL o.dst p.v p.tmps/\match p.kind with
  | .skip=>Region.wanted o (zaj ops p.tmps)=false/\p.v=undef/\q.h=p.h/\q.S=p.S/\q.born=p.born
  | .far=>Region.wanted o (zaj ops p.tmps)=true/\o.op.operands.all zaN=true/\wrB W i o=false/\farB W i=true/\valA P (evA p.tmps) hf o.op=some p.v/\q.h=p.h/\q.S=p.S/\q.born=p.born
  | .op wr=>farB W i=false/\Region.wanted o (zaj ops p.tmps)=true/\o.op.operands.all zaN=true/\(q.h.next=p.h.next\/q.h.next<=VB)/\q.born=zex i p.h.next q.h.next++p.born /\
    (if wr then wrB W i o=true/\Op0 X o (evA p.tmps) p.h p.S p.v q.h q.S
     else wrB W i o=false/\∃ hv,Op0 X o (evA p.tmps) (visH n0 p.born ((zas ops.toList []).getD i 0) p.h) p.S p.v hv q.S/\q.h=zdC p.h hv)
  | .call wr f g c zs E Q hc h1 ex v0=>farB W i=false/\Region.wanted o (zaj ops p.tmps)=true/\o.op.operands.all zaN=true/\(q.h.next=p.h.next\/q.h.next<=VB)/\q.born=zex i p.h.next q.h.next++p.born /\
    (if wr then wrB W i o=true/\CallOK X o (evA p.tmps) p.h p.S p.v q.h q.S f g c zs E Q hc h1 ex v0
     else wrB W i o=false/\∃ hv,CallOK X o (evA p.tmps) (visH n0 p.born ((zas ops.toList []).getD i 0) p.h) p.S p.v hv q.S f g c zs E Q hc h1 ex v0/\q.h=zdC p.h hv)
  | .callD f g c args=>farB W i=false/\Region.wanted o (zaj ops p.tmps)=true/\o.op.operands.all zaN=true/\(q.h.next=p.h.next\/q.h.next<=VB)/\q.born=zex i p.h.next q.h.next++p.born/\wrB W i o=true/\p.h.next<=q.h.next/\(∀ n b,q.h.get n=some b->n<q.h.next) /\
    zaW P (evA p.tmps) o.op=some (f,args)/\P.funcs[f]?=some g/\goB g=true/\g.body=some c
inductive Goes {P:Program} {σ:Type} (X:Face P σ):Func->(Conf σ->Prop)->Conf σ->Prop
  | here {fn A c} (h:A c):Goes X fn A c
  | ctl {fn A todo todo' tmps h S} (hc:ctl tmps todo=some todo') (hk:Goes X fn A (.run todo' tmps h S)):Goes X fn A (.run todo tmps h S)
  | ret {fn A todo tmps h S v} (ht:retB todo=true) (hv:resA P fn tmps h=some v) (hk:Goes X fn A (.done v h S)):Goes X fn A (.run todo tmps h S)
  | skip {fn A ops i rest k tmps h S o} (ho:ops[i]?=some o) (hw:Region.wanted o (zaj ops tmps)=false)
      (hk:Goes X fn A (.run (.inRegion ops rest::k) (putL o.dst undef tmps) h S)):Goes X fn A (.run (.inRegion ops (i::rest)::k) tmps h S)
  | op {fn A ops i rest k tmps h S o v h' S'} (ho:ops[i]?=some o) (hw:Region.wanted o (zaj ops tmps)=true) (hb:o.op.operands.all zaN=true) (hop:Op0 X o (evA tmps) h S v h' S') (hl:h'.next=h.next\/h'.next<=VB)
      (hk:Goes X fn A (.run (.inRegion ops rest::k) (putL o.dst v tmps) h' S')):Goes X fn A (.run (.inRegion ops (i::rest)::k) tmps h S)
  | call {fn A ops i rest k tmps h S o v h' S'} (f:FuncId) (g:Func) (c:Code) (zs:Array Value) (E Q:Emb) (hc h1:AHeap) (ex:List Nat) (v0:Value) (ho:ops[i]?=some o) (hw:Region.wanted o (zaj ops tmps)=true) (hb:o.op.operands.all zaN=true)
      (hok:CallOK X o (evA tmps) h S v h' S' f g c zs E Q hc h1 ex v0) (hl:h'.next=h.next\/h'.next<=VB) (hrun:Goes X g (fun x=>x=.done v0 h1 S') (.run (zag g c zs).1 (zag g c zs).2 hc S))
      (hk:Goes X fn A (.run (.inRegion ops rest::k) (putL o.dst v tmps) h' S')):Goes X fn A (.run (.inRegion ops (i::rest)::k) tmps h S)
  | callD {fn A ops i rest k tmps h S o} (f:FuncId) (g:Func) (c:Code) (args:Array Value) (v:Value) (h1:AHeap) (S1:σ) (ho:ops[i]?=some o) (hw:Region.wanted o (zaj ops tmps)=true) (hb:o.op.operands.all zaN=true) (hca:zaW P (evA tmps) o.op=some (f,args))
      (hf:P.funcs[f]?=some g) (hg:goB g=true) (hbd:g.body=some c) (hrun:Goes X g (fun x=>x=.done v h1 S1) (.run (zag g c args).1 (zag g c args).2 h S)) (hk:Goes X fn A (.run (.inRegion ops rest::k) (putL o.dst v tmps) h1 S1)):Goes X fn A (.run (.inRegion ops (i::rest)::k) tmps h S)
  | draw {fn A id ops k tmps h S} (W:List Nat) (rec:Nat->DRec σ) (hB:zlQ W ops=true) (h0:(rec 0).tmps=tmps/\(rec 0).h=h/\(rec 0).S=S/\(rec 0).born=[]) (hf:AHeap) (hstill:∀ n b,hf.get n=some b->n<h.next/\∃ b0,b={ b0 with ro:=true }/\∀ j,j<=ops.size->j<=farU W ops.size->(rec j).h.get n=some b0) (hgood:∀ i o,ops[i]?=some o->GoodK X W ops h.next hf i o (rec i) (rec (i+1)))
      (hcalls:∀ i wr f g c zs E Q hc h1 ex v0,i<ops.size->(rec i).kind=.call wr f g c zs E Q hc h1 ex v0->Goes X g (fun x=>x=.done v0 h1 (rec (i+1)).S) (.run (zag g c zs).1 (zag g c zs).2 hc (rec i).S))
      (hcallsD:∀ i f g c args,i<ops.size->(rec i).kind=.callD f g c args->Goes X g (fun x=>x=.done (rec i).v (rec (i+1)).h (rec (i+1)).S) (.run (zag g c args).1 (zag g c args).2 (rec i).h (rec i).S))
      (hk:Goes X fn A (.run k (rec ops.size).tmps (rec ops.size).h (rec ops.size).S)):Goes X fn A (.run (.code (.region id ops true)::k) tmps h S)
  | raise {fn A todo tmps h h0 S} (hg:h0.get=h.get) (hn:h.next<=h0.next) (hl:h0.next<=VB) (hk:Goes X fn A (.run todo tmps h0 S)):Goes X fn A (.run todo tmps h S)
  | weak {fn A todo tmps h h0 S} (hs:∀ n b,h0.get n=some b->∃ b',h.get n=some b'/\b'.cells=b.cells/\b'.elem=b.elem/\(b.ro=false->b'.ro=false)/\(b.grow=b'.grow\/b.grow=none)) (hn:h0.next=h.next) (hk:Goes X fn A (.run todo tmps h0 S)):Goes X fn A (.run todo tmps h S)
section
variable {P:Program} {σ:Type} {X:Face P σ}
def actF (F:Emb) (tmps:List Value):Act:=⟨(tmps.map (ren F)).toArray,[]⟩
theorem zbU (F:Emb) (tmps:List Value) (x:Operand) (hx:zaN x=true):(actF F tmps).eval x=ren F (evA tmps x):=by
  cases x with
  | tmp t =>
    simp only [Act.eval,actF,evA];by_cases h:t<tmps.length
    . simp [h,List.getD]
    . simp [h,List.getD,zaS]
  | const v=>exact (zaC F hx).symm
  | global g=>cases hx
  | func f=>simp [Act.eval,evA]
theorem zcI (F:Emb) (tmps:List Value) (dst:Option Tmp) (v:Value):(actF F tmps).put dst (ren F v)=actF F (putL dst v tmps):=by
  cases dst with
  | none=>rfl
  | some d=>simp [actF,Act.put,putL,List.map_set]
theorem zlX (F:Emb) (tmps:List Value) (dst:Option Tmp):(actF F tmps).put dst undef=actF F (putL dst undef tmps):=by
  rw [<-zcI,zaS]
theorem ziR (F:Emb) (v:Value):(match some (ren F v) with|some (.bool b)=>some b|_=>none)=(match some v with|some (.bool b)=>some b|_=>(none:Option Bool)):=by
  cases v with
  | pointer a=>cases a<;>simp
  | slice a n c=>cases a<;>simp
  | _=>simp [ren]
theorem zi7 (F:Emb) (ops:Array Oper) (tmps:List Value) (j:Nat):yielded ops (actF F tmps).tmps j=zaj ops tmps j:=by
  unfold yielded zaj actF;cases h:(ops[j]?).bind (·.dst) with
  | none=>rfl
  | some d =>
    simp only [Option.bind_some,List.getElem?_toArray,List.getElem?_map];cases hd:tmps[d]? with
    | none=>rfl
    | some v=>exact ziR F v
theorem zc0 (F:Emb) (ops:Array Oper) (tmps:List Value) (o:Oper):Region.wanted o (yielded ops (actF F tmps).tmps)=Region.wanted o (zaj ops tmps):=by
  unfold Region.wanted;cases o.guard with
  | none=>rfl
  | some g=>simp only [zi7]
theorem zbo {K:Nat->Prop} {F F':Emb} {tmps:List Value} (h:∀ v∈tmps,Stab K F v) (hs:Same K F F'):actF F' tmps=actF F tmps:=by
  unfold actF;congr 2;exact List.map_congr_left fun v hv=>h v hv F' hs
structure AInv (X:Face P σ) (F:Emb) (w0:World) (M K:Nat->Prop) (vs:Value->Prop) (h:AHeap) (S:σ) (w:World):Prop where
  holds:Holds F h w
  rep:X.rep F S w
  vst:∀ v,vs v->Stab K F v
  hst:∀ n b,h.get n=some b->∀ v∈b.cells,Stab K F v
  hk:∀ n b,h.get n=some b->K n/\n<VB
  hand:∀ n,VB<=n->n<VB+X.cnt S->K n
  klim:∀ n,K n->n<VB+X.cnt S
  kept:Kept w0 M w
  own:∀ n b,h.get n=some b->b.ro=false->F.blk n<w0.heap.size->M (F.blk n)
  fown:∀ b,X.fp F S b->b<w0.heap.size->M b
  sep:∀ n b,h.get n=some b->¬ X.fp F S (F.blk n)
def vals:Conf σ->List Value
  | .run _ tmps _ _=>tmps
  | .done v _ _=>[v]
def heap:Conf σ->AHeap
  | .run _ _ h _=>h
  | .done _ h _=>h
def st:Conf σ->σ
  | .run _ _ _ S=>S
  | .done _ _ S=>S
def InvC (X:Face P σ) (F:Emb) (w0:World) (M:Nat->Prop) (c:Conf σ) (w:World):Prop:=AInv X F w0 M (Kn (heap c).next (X.cnt (st c))) (fun v=>v∈vals c) (heap c) (st c) w/\(heap c).next<=VB
def zc5 (P:Program) (F:Emb) (b:Frame) (cs:List Frame):Conf σ->World->Goroutine->Prop
  | .run todo tmps _ _,w,m=>m=G (b.at (actF F tmps) todo) cs
  | .done v _ _,w,m=>∃ fr,m=G fr cs/\fr.fn=b.fn/\fr.leaving P w (.returned (ren F v))
theorem zab {w:World} {b:Nat} {o:Obj} (h:w.heap[b]?=some o):b<w.heap.size:=(Array.getElem?_eq_some_iff.1 h).1
theorem Holds.same {F F':Emb} {h:AHeap} {w:World} {K:Nat->Prop} (H:Holds F h w) (hk:∀ n b,h.get n=some b->K n) (hst:∀ n b,h.get n=some b->∀ v∈b.cells,Stab K F v) (hs:Same K F F'):Holds F' h w where
  row:=fun n b hb=>by
    obtain⟨pre,post,fr,h1,h2,h3,h4,h5⟩:=H.row n b hb;have hn:=hs n (hk n b hb);refine⟨pre,post,fr,?_,by rw [<-hn.2.1];exact h2,h3,by rw [<-hn.2.2];exact h4,by rw [<-hn.2.2];exact h5⟩
    rw [<-hn.1,h1];congr 5;exact List.map_congr_left fun v hv=>(hst n b hb v hv F' hs).symm
  apart:=fun n m b c hb hc hne hro=>by
    rw [<-(hs n (hk n b hb)).1,<-(hs m (hk m c hc)).1];exact H.apart n m b c hb hc hne hro
theorem Holds.kept {F:Emb} {h:AHeap} {w w':World} (H:Holds F h w) (hk:∀ n b,h.get n=some b->w'.heap[F.blk n]?=w.heap[F.blk n]?):Holds F h w' where
  row:=fun n b hb=>by
    obtain⟨pre,post,fr,h1,h2,h3⟩:=H.row n b hb;exact⟨pre,post,fr,by rw [hk n b hb];exact h1,h2,h3⟩
  apart:=H.apart
theorem Holds.blk_lt {F:Emb} {h:AHeap} {w:World} (H:Holds F h w) {n:Nat} {b:Blk} (hb:h.get n=some b):F.blk n<w.heap.size:=by
  obtain⟨pre,post,fr,h1,_⟩:=H.row n b hb;exact zab h1
theorem zlB {b:Frame} {a:Act} {ops:Array Oper} {i:Nat} {rest:List Nat} {k:List Item} {cs:List Frame} {w w':World} {o:Oper} {v:Value} (hk:b.kind=.normal) (ho:ops[i]?=some o) (hw:Region.wanted o (yielded ops a.tmps)=true)
    (ht:Tame P (execOp a.eval o)) (hr:(execOp a.eval o).run P w=.ok (.value v) w'):XS P (G (b.at a (.inRegion ops (i::rest)::k)) cs) w (G (b.at (a.put o.dst v) (.inRegion ops rest::k)) cs) w' :=
  zo6 ho hw (by rw [hk];decide) ht hr
theorem zmD {b:Frame} {a:Act} {ops:Array Oper} {i:Nat} {rest:List Nat} {k:List Item} {cs:List Frame} {w w':World} {o:Oper} (hk:b.kind=.normal) (ho:ops[i]?=some o) (hw:Region.wanted o (yielded ops a.tmps)=true)
    (ht:Tame P (execOp a.eval o)) (hr:(execOp a.eval o).run P w=.ok .skip w'):XS P (G (b.at a (.inRegion ops (i::rest)::k)) cs) w (G (b.at (a.put o.dst undef) (.inRegion ops rest::k)) cs) w' :=
  zq6 ho hw (by rw [hk];decide) ht hr
theorem zpd {tmps:List Value} {todo todo':List Item} (F:Emb) (h:ctl tmps todo=some todo') (b:Frame) (cs:List Frame) (w:World) :
    XS P (G (b.at (actF F tmps) todo) cs) w (G (b.at (actF F tmps) todo') cs) w:=by
  unfold ctl at h;split at h
  . cases h;exact zcj rfl (fun _ _=>stepG_skip) w
  . cases h;exact zcj rfl (fun _ _=>stepG_label) w
  . cases h;exact zcj rfl (fun _ _=>stepG_inBlock) w
  . cases h;exact zcj rfl (fun _ _=>stepG_seq) w
  . rename_i c x y k;split at h
    . rename_i t ht;cases h;refine zcj rfl (fun _ _=>stepG_cond ?_) w;cases c with
      | tmp t'=>rw [zbU F tmps _ rfl,ht,za3]
      | const v=>simpa [Act.eval,evA] using ht
      | global g=>simp [evA,undef] at ht
      | func f=>simp [evA] at ht
    . cases h
  . cases h;exact zcj rfl (fun _ _=>stepG_block) w
  . cases h;exact zcj rfl (fun _ _=>stepG_loop) w
  . cases h;exact zcj rfl (fun _ _=>stepG_inLoop) w
  . exact zcj rfl (fun _ _=>stepG_exit h) w
  . rename_i l k;exact zcj rfl (fun _ _=>by simp [G,stepG,stepG.exec,Frame.at,h]) w
  . cases h;exact zcj rfl (fun _ _=>stepG_region) w
  . cases h;exact zcj rfl (fun _ _=>stepG_region_end) w
  . cases h;exact zcj rfl (fun _ _=>by simp [G,stepG,stepG.exec,Frame.at]) w
  . cases h;exact zcj rfl (fun _ _=>by simp [G,stepG,stepG.exec,Frame.at]) w
  . cases h
def zn8 (tmps:Array Value):ResultVar->Sem Value
  | .tmp t=>pure (tmps.getD t undef)
  | .cell a t=>do loadVar t (<-asAddr (tmps.getD a undef))
theorem zel (fn:Func) (tmps:Array Value):results fn tmps=(do
    let vs <-fn.results.mapM (zn8 tmps)
    pure (if h:vs.size=1 then vs[0] else .tuple vs)):=by
  unfold results zn8;congr 2
theorem zbP {F:Emb} {h:AHeap} {w:World} {tmps:List Value} {r:ResultVar} {v:Value} (H:Holds F h w) (hv:zaF P tmps h r=some v) :
    (zn8 (actF F tmps).tmps r).run P w=.ok (ren F v) w:=by
  have hget:∀ t,(actF F tmps).tmps.getD t undef=ren F (tmps.getD t undef):=fun t=>zbU F tmps (.tmp t) rfl;cases r with
  | tmp t =>
    simp only [zaF,Option.some.injEq] at hv;subst hv;simp only [zn8,hget,Sem.run_pure]
  | cell a t =>
    simp only [zaF] at hv;split at hv
    . rename_i ad had;have:=zje H hv;simp only [Instr.loadAt,Instr.sureAddr,Sem.run_bind,Sem.run_pure,Result.andThen_ok] at this;simp only [zn8,hget,had,zba,asAddr,Sem.run_bind,Sem.run_pure,Result.andThen_ok,this]
    . cases hv
theorem zk9 {F:Emb} {h:AHeap} {w:World} {tmps:List Value} {fn:Func} {v:Value} (H:Holds F h w) (hv:resA P fn tmps h=some v) :
    (results fn (actF F tmps).tmps).run P w=.ok (ren F v) w:=by
  unfold resA at hv;split at hv
  . rename_i hr;cases hv;obtain hr':fn.results=#[]:=by rw [<-Array.toArray_toList (xs:=fn.results),hr]
    simp [results,hr']
  . rename_i r hr;obtain hr':fn.results=#[r]:=by rw [<-Array.toArray_toList (xs:=fn.results),hr]
    have:=zbP H hv;rw [zel,hr'];simp [this]
  . rename_i r q hr;obtain hr':fn.results=#[r,q]:=by rw [<-Array.toArray_toList (xs:=fn.results),hr]
    split at hv
    . rename_i x y hx hy;cases hv;have h1:=zbP H hx;have h2:=zbP H hy;rw [zel,hr'];simp [Sem.run_bind,h1,h2]
    . cases hv
  . rename_i r q s hr;obtain hr':fn.results=#[r,q,s]:=by rw [<-Array.toArray_toList (xs:=fn.results),hr]
    split at hv
    . rename_i x y z hx hy hz;cases hv;have h1:=zbP H hx;have h2:=zbP H hy;have h3:=zbP H hz;rw [zel,hr'];simp [Sem.run_bind,h1,h2,h3]
    . cases hv
  . rename_i r q s u hr;obtain hr':fn.results=#[r,q,s,u]:=by rw [<-Array.toArray_toList (xs:=fn.results),hr]
    split at hv
    . rename_i x y z a hx hy hz ha;cases hv;have h1:=zbP H hx;have h2:=zbP H hy;have h3:=zbP H hz;have h4:=zbP H ha;rw [zel,hr'];simp [Sem.run_bind,h1,h2,h3,h4]
    . cases hv
  . cases hv
end
end Go.Proofs.Ytgndgbnhkoppmaa
namespace Go.Proofs.Ytgndgbnhkoppmaa
open Go Go.RowKit Go.Conc
section
variable {P:Program} {σ:Type} {X:Face P σ} {F:Emb} {w0 w:World} {M K:Nat->Prop} {vs:Value->Prop} {h:AHeap} {S:σ}
theorem Stab.undef {K:Nat->Prop} {F:Emb}:Stab K F undef:=Stab.plain (by simp [Go.undef,zac])
theorem Stab.cells {K:Nat->Prop} {F:Emb} {v:Value} (hv:Stab K F v):∀ c∈v.cells.toList,Stab K F c:=by
  intro c hc F' hs;have:=congrArg Value.cells (hv F' hs);rw [zcO,zcO] at this;have h2:=congrArg Array.toList this;simp only [Array.toList_map] at h2;exact List.map_inj_left.1 h2 c hc
theorem zfw {tmps:List Value} (hv:∀ v∈tmps,Stab K F v) (x:Operand) (hx:zaN x=true):Stab K F (evA tmps x):=by
  cases x with
  | tmp t =>
    simp only [evA];by_cases ht:t<tmps.length
    . rw [show tmps.getD t Go.undef=tmps[t] by simp [List.getD,ht]]
      exact hv _ (List.getElem_mem ht)
    . rw [show tmps.getD t Go.undef=Go.undef by simp [List.getD,Nat.not_lt.1 ht]]
      exact Stab.undef
  | const v=>exact Stab.plain hx
  | global g=>cases hx
  | func f=>intro F' _;simp [evA]
theorem zb9 {tmps:List Value} {v:Value} (hv:∀ u∈tmps,Stab K F u) (h:Stab K F v) (dst:Option Tmp):∀ u∈putL dst v tmps,Stab K F u:=by
  intro u hu;cases dst with
  | none=>exact hv u hu
  | some d =>
    rcases List.mem_or_eq_of_mem_set hu with hu|rfl
    . exact hv u hu
    . exact h
theorem AInv.vals' {vs':Value->Prop} (I:AInv X F w0 M K vs h S w) (hv:∀ v,vs' v->Stab K F v):AInv X F w0 M K vs' h S w :=
  ⟨I.holds,I.rep,hv,I.hst,I.hk,I.hand,I.klim,I.kept,I.own,I.fown,I.sep⟩
theorem AInv.kmono {K':Nat->Prop} (I:AInv X F w0 M K vs h S w) (hK:∀ n,K n->K' n) (hl:∀ n,K' n->n<VB+X.cnt S):AInv X F w0 M K' vs h S w :=
  ⟨I.holds,I.rep,fun v hv=>(I.vst v hv).move (Same.refl _ _) hK,fun n b hb v hv=>(I.hst n b hb v hv).move (Same.refl _ _) hK,fun n b hb=>⟨hK n (I.hk n b hb).1,(I.hk n b hb).2⟩,fun n h1 h2=>hK n (I.hand n h1 h2),hl,I.kept,I.own,I.fown,I.sep⟩
def Emb.set (F:Emb) (n b bs sl:Nat):Emb:=⟨fun m=>if m=n then b else F.blk m,fun m=>if m=n then bs else F.base m,fun m=>if m=n then sl else F.slack m⟩
theorem Emb.set_same (F:Emb) {n b bs sl:Nat} (hn:¬ K n):Same K F (F.set n b bs sl):=by
  intro m hm;have:m≠n:=by rintro rfl;exact hn hm
  simp [Emb.set,this]
theorem Emb.set_at (F:Emb) (n b bs sl:Nat):(F.set n b bs sl).blk n=b/\(F.set n b bs sl).base n=bs/\(F.set n b bs sl).slack n=sl:=by simp [Emb.set]
theorem zs8 {n m c d:Nat} (h1:n<=m) (h2:c<=d):∀ x,Kn n c x->Kn m d x:=by
  intro x hx;rcases hx with hx|hx
  . exact .inl (by omega)
  . exact .inr (by omega)
theorem AInv.same (I:AInv X F w0 M K vs h S w) {F':Emb} (hs:Same K F F'):AInv X F' w0 M K vs h S w:=by
  have he:∀ n b,h.get n=some b->F'.blk n=F.blk n:=fun n b hb=>(hs n (I.hk n b hb).1).1.symm;have hh:=X.rep_same F F' S w (hs.mono (fun n hn=>I.hand n hn.1 hn.2)) I.rep;exact⟨I.holds.same (fun n b hb=>(I.hk n b hb).1) I.hst hs,hh.1,fun v hv=>(I.vst v hv).move hs (fun _ h=>h),fun n b hb v hv=>(I.hst n b hb v hv).move hs (fun _ h=>h),I.hk,I.hand,I.klim,I.kept,
    fun n b hb hr hx=>by rw [he n b hb] at hx ⊢;exact I.own n b hb hr hx,fun b hb hx=>I.fown b (hh.2 b hb) hx,fun n b hb hx=>by rw [he n b hb] at hx;exact I.sep n b hb (hh.2 _ hx)⟩
theorem AInv.add (I:AInv X F w0 M K vs h S w) {n:Nat} (hn:¬ K n) (hnV:n<VB) {h':AHeap} {ob:Option Blk} {bk bs sl:Nat} {w':World} (hg:∀ m,h'.get m=if m=n then ob else h.get m) (hc:∀ b,ob=some b->∀ c∈b.cells,Stab K F c)
    (hw:(ob=none/\w'=w)\/∃ (b:Blk) (post:Array Value),ob=some b/\b.ro=false/\bk=w.heap.size/\bs=0/\Grew w w' (.cells ((b.cells.map (ren F)).toArray++post) b.elem (0,0))/\(b.grow=some 0->sl=0)/\(∀ s,b.grow=some (s+1)->sl * (s+1)<=post.size)) :
    AInv X (F.set n bk bs sl) w0 M (fun x=>K x\/x=n) vs h' S w':=by
  have hs:Same K F (F.set n bk bs sl):=F.set_same hn;have I':=(I.same hs).kmono (K':=fun x=>K x\/x=n) (fun x hx=>.inl hx) (fun x hx=>by rcases hx with hx|rfl;exact I.klim x hx;omega)
  obtain⟨e1,e2,e3⟩:=F.set_at n bk bs sl;have hne:∀ m c,h.get m=some c->m≠n:=fun m c hc=>by rintro rfl;exact hn (I.hk m c hc).1
  rcases hw with ⟨rfl,rfl⟩|⟨b,post,rfl,hro,rfl,rfl,hgr,hg0,hg1⟩
  . have hg':∀ m c,h'.get m=some c->h.get m=some c:=fun m c hm=>by
      rw [hg] at hm;split at hm
      . cases hm
      . exact hm
    exact⟨⟨fun m c hm=>I'.holds.row m c (hg' m c hm),fun m k c d hm hk=>I'.holds.apart m k c d (hg' m c hm) (hg' k d hk)⟩,I'.rep,I'.vst,fun m c hm=>I'.hst m c (hg' m c hm),fun m c hm=>I'.hk m c (hg' m c hm),I'.hand,I'.klim,I'.kept,fun m c hm=>I'.own m c (hg' m c hm),I'.fown,fun m c hm=>I'.sep m c (hg' m c hm)⟩
  . have hget:∀ m c,h'.get m=some c->(m=n/\c=b)\/(m≠n/\h.get m=some c):=fun m c hm=>by
      rw [hg] at hm;split at hm
      . rename_i e;cases hm;exact .inl ⟨e,rfl⟩
      . rename_i e;exact .inr ⟨e,hm⟩
    have hold:∀ x,x<w.heap.size->w'.heap[x]?=w.heap[x]?:=fun x hx=>by
      rw [hgr.heap,Array.getElem?_push,if_neg (by omega)]
    have hlt:∀ m c,h.get m=some c->(F.set n w.heap.size 0 sl).blk m<w.heap.size:=fun m c hm=>I'.holds.blk_lt hm;refine⟨⟨?_,?_⟩,?_,I'.vst,?_,?_,I'.hand,I'.klim,?_,?_,I'.fown,?_⟩
    . intro m c hm;rcases hget m c hm with ⟨rfl,rfl⟩|⟨hne,hm⟩
      . refine⟨#[],post,(0,0),?_,by rw [e2];rfl,fun _=>rfl,fun h=>by rw [e3];exact hg0 h,fun s h=>by rw [e3];exact hg1 s h⟩
        rw [e1,hgr.heap,Array.getElem?_push,if_pos rfl];rw [show c.cells.map (ren (F.set m w.heap.size 0 sl))=c.cells.map (ren F) from List.map_congr_left fun v hv=>hc c rfl v hv _ hs]
        simp
      . obtain⟨pre,post,fr,h1,h2⟩:=I'.holds.row m c hm;exact⟨pre,post,fr,by rw [hold _ (hlt m c hm)];exact h1,h2⟩
    . intro m k c d hm hk hmk hr;rcases hget m c hm with ⟨hm1,_⟩|⟨hm1,hm'⟩<;>rcases hget k d hk with ⟨hk1,_⟩|⟨hk1,hk'⟩
      . exact absurd (hm1.trans hk1.symm) hmk
      . rw [hm1,e1];have:=hlt k d hk';omega
      . rw [hk1,e1];have:=hlt m c hm';omega
      . exact I'.holds.apart m k c d hm' hk' hmk hr
    . exact X.rep_kept _ _ _ _ I'.rep (by rw [hgr.heap];simp) (fun x hx=>hold x (X.fp_low _ _ _ _ I'.rep hx))
    . intro m c hm v hv;rcases hget m c hm with ⟨_,rfl⟩|⟨_,hm⟩
      . exact (hc c rfl v hv).move hs (fun x hx=>.inl hx)
      . exact I'.hst m c hm v hv
    . intro m c hm;rcases hget m c hm with ⟨rfl,rfl⟩|⟨_,hm⟩
      . exact⟨.inr rfl,hnV⟩
      . exact I'.hk m c hm
    . exact⟨hgr.os.trans I.kept.os,hgr.tape.trans I.kept.tape,hgr.output.trans I.kept.output,Nat.le_trans I.kept.size (by rw [hgr.heap];simp),fun x hx hn=>(hold x (Nat.lt_of_lt_of_le hx I.kept.size)).trans (I.kept.block x hx hn)⟩
    . intro m c hm hr hx;rcases hget m c hm with ⟨rfl,rfl⟩|⟨_,hm⟩
      . rw [e1] at hx;have:=I.kept.size;omega
      . exact I'.own m c hm hr hx
    . intro m c hm hx;rcases hget m c hm with ⟨rfl,rfl⟩|⟨_,hm⟩
      . rw [e1] at hx;have:=X.fp_low _ _ _ _ I'.rep hx;omega
      . exact I'.sep m c hm hx
theorem zeG (w:World) (b:Nat) (c:Array Value) (x:Nat) (hx:x≠b):(wrote w b c).heap[x]?=w.heap[x]?:=by
  unfold wrote;simp only [Array.getElem?_modify,if_neg (Ne.symm hx)]
theorem zlb {w:World} {b:Nat} {c c':Array Value} {el:TypeId} {fr:Nat × Nat} (h:w.heap[b]?=some (.cells c el fr)):(wrote w b c').heap[b]?=some (.cells c' el fr):=by
  unfold wrote;simp only [Array.getElem?_modify,if_pos,h,Option.map_some]
theorem zhv (w:World) (b:Nat) (c:Array Value):(wrote w b c).heap.size=w.heap.size:=by simp [wrote]
theorem AInv.kill (I:AInv X F w0 M K vs h S w) (n:Nat):AInv X F w0 M K vs (h.putO n none) S w:=by
  have hg:∀ m c,(h.putO n none).get m=some c->m≠n/\h.get m=some c:=fun m c hm=>by
    rw [AHeap.putO_get] at hm;split at hm
    . cases hm
    . rename_i e;exact⟨e,hm⟩
  exact⟨⟨fun m c hm=>I.holds.row m c (hg m c hm).2,fun m k c d hm hk=>I.holds.apart m k c d (hg m c hm).2 (hg k d hk).2⟩,I.rep,I.vst,fun m c hm=>I.hst m c (hg m c hm).2,fun m c hm=>I.hk m c (hg m c hm).2,I.hand,I.klim,I.kept,fun m c hm=>I.own m c (hg m c hm).2,I.fown,fun m c hm=>I.sep m c (hg m c hm).2⟩
theorem AInv.turned (I:AInv X F w0 M K vs h S w) {B:Nat} (hB:∀ m c,h.get m=some c->F.blk m≠B) (hf:¬ X.fp F S B) (hm:B<w0.heap.size->M B) (c:Array Value):AInv X F w0 M K vs h S (wrote w B c):=by
  refine⟨I.holds.kept fun m c' hm=>zeG _ _ _ _ (hB m c' hm),X.rep_kept _ _ _ _ I.rep (by rw [zhv];exact Nat.le_refl _) (fun x hx=>zeG _ _ _ _ (fun e=>hf (e ▸ hx))),I.vst,I.hst,I.hk,I.hand,I.klim,?_,I.own,I.fown,I.sep⟩
  exact⟨I.kept.os,I.kept.tape,I.kept.output,by rw [zhv];exact I.kept.size,fun x hx hn=>by
    rw [zeG _ _ _ _ (fun e=>hn (by rw [e];exact hm (by rw [<-e];exact hx)))]
    exact I.kept.block x hx hn⟩
theorem AInv.put (I:AInv X F w0 M K vs h S w) {n:Nat} (hK:K n) (hnV:n<VB) {b:Blk} {pre post:Array Value} (hr:w.heap[F.blk n]?=some (.cells (pre++(b.cells.map (ren F)).toArray++post) b.elem (0,0))) (hp:pre.size=F.base n) (h0:b.grow=some 0->F.slack n=0) (h1:∀ s,b.grow=some (s+1)->F.slack n * (s+1)<=post.size)
    (hB:∀ m c,h.get m=some c->m≠n->F.blk m≠F.blk n) (hf:¬ X.fp F S (F.blk n)) (hm:F.blk n<w0.heap.size->M (F.blk n)) (hc:∀ c∈b.cells,Stab K F c) {h':AHeap} (hg:∀ m,h'.get m=if m=n then some b else h.get m):AInv X F w0 M K vs h' S w:=by
  have hget:∀ m c,h'.get m=some c->(m=n/\c=b)\/(m≠n/\h.get m=some c):=fun m c hm=>by
    rw [hg] at hm;split at hm
    . rename_i e;cases hm;exact .inl ⟨e,rfl⟩
    . rename_i e;exact .inr ⟨e,hm⟩
  refine⟨⟨?_,?_⟩,I.rep,I.vst,?_,?_,I.hand,I.klim,I.kept,?_,I.fown,?_⟩
  . intro m c hm;rcases hget m c hm with ⟨rfl,rfl⟩|⟨_,hm⟩
    . exact⟨pre,post,(0,0),hr,hp,fun _=>rfl,h0,h1⟩
    . exact I.holds.row m c hm
  . intro m k c d hm hk hmk hro;rcases hget m c hm with ⟨hm1,_⟩|⟨hm1,hm'⟩<;>rcases hget k d hk with ⟨hk1,_⟩|⟨hk1,hk'⟩
    . exact absurd (hm1.trans hk1.symm) hmk
    . rw [hm1];exact (hB k d hk' hk1).symm
    . rw [hk1];exact hB m c hm' hm1
    . exact I.holds.apart m k c d hm' hk' hmk hro
  . intro m c hm v hv;rcases hget m c hm with ⟨_,rfl⟩|⟨_,hm⟩
    . exact hc v hv
    . exact I.hst m c hm v hv
  . intro m c hm;rcases hget m c hm with ⟨rfl,_⟩|⟨_,hm⟩
    . exact⟨hK,hnV⟩
    . exact I.hk m c hm
  . intro m c hm' hr' hx;rcases hget m c hm' with ⟨rfl,_⟩|⟨_,hm'⟩
    . exact hm hx
    . exact I.own m c hm' hr' hx
  . intro m c hm' hx;rcases hget m c hm' with ⟨rfl,_⟩|⟨_,hm'⟩
    . exact hf hx
    . exact I.sep m c hm' hx
theorem zmK {a:Addr} {n c n' c':Nat} (hv:Stab K F (.slice (some a) n c)) (hc:c'=c):Stab K F (.slice (some a) n' c'):=by
  subst hc;intro F' hs;have:=hv F' hs;simp only [zaz,Value.slice.injEq,Option.some.injEq] at this;simp only [zaz,this.1];congr 1;exact this.2.2
theorem AInv.wrote' (I:AInv X F w0 M K vs h S w) {e:Operand->Value} {xs:Array Operand} (hx:∀ x∈xs,Stab K F (e x)) {v u:Value} {h':AHeap} {w':World} (hW:Wrote F e xs h w v h' u w') (hn:∀ x,h.next<=x->x<h'.next->¬ K x/\x<VB) :
    h.next<=h'.next/\∃ F',u=ren F' v/\Same K F F'/\AInv X F' w0 M (fun x=>K x\/(h.next<=x/\x<h'.next)) (fun x=>x=v) h' S w':=by
  have hno:∀ {n m:Nat},m=n->∀ x,¬ (n<=x/\x<m):=by intro n m hm x;omega
  have hmem:∀ {cs:List Value},(∀ c∈cs,∃ m b',h.get m=some b'/\c∈b'.cells)->∀ c∈cs,Stab K F c:=fun hc c hcs=>by
    obtain⟨m,b',h1,h2⟩:=hc c hcs;exact I.hst m b' h1 c h2
  cases hW with
  | same hv =>
    refine⟨Nat.le_refl _,F,rfl,Same.refl _ _,(I.vals' fun y hy=>?_).kmono (fun x hx=>.inl hx) (fun x hx=>?_)⟩
    . rw [hy];rcases hv with rfl|⟨x,hxm,rfl⟩
      . exact Stab.plain rfl
      . exact hx x hxm
    . rcases hx with hx|hx
      . exact I.klim x hx
      . omega
  | @put _ n b cs pre post hv hb hro hl hc hr hp h0 h1 =>
    have hap:∀ m c,(h.putO n none).get m=some c->F.blk m≠F.blk n:=fun m c hm=>by
      rw [AHeap.putO_get] at hm;split at hm
      . cases hm
      . rename_i e;exact fun h2=>I.holds.apart n m b c hb hm (Ne.symm e) hro h2.symm
    have I1:=(I.kill n).turned hap (I.sep n b hb) (I.own n b hb hro) (pre++(cs.map (ren F)).toArray++post);have hcs:∀ c∈cs,Stab K F c:=fun c hcc=>by
      rcases hc c hcc with h2|⟨x,hxm,h2⟩|⟨m,b',h2,h3⟩
      . exact I.hst n b hb c h2
      . exact Stab.cells (hx x hxm) c h2
      . exact I.hst m b' h2 c h3
    have I2:=I1.put (n:=n) (b:={ b with cells:=cs }) (I.hk n b hb).1 (I.hk n b hb).2 (zlb hr) hp h0 h1 (fun m c hm _=>hap m c hm) (I.sep n b hb) (I.own n b hb hro) hcs (h':=h.put n { b with cells:=cs }) (fun m=>by
      rw [AHeap.put_get,AHeap.putO_get];split<;>rfl)
    refine⟨Nat.le_refl _,F,rfl,Same.refl _ _,(I2.vals' fun y hy=>?_).kmono (fun x hx=>.inl hx) (fun x hx=>?_)⟩
    . rw [hy];rcases hv with rfl|⟨a,sl,c,sc,x,hxm,hex,rfl⟩
      . exact Stab.undef
      . have:=hx x hxm;rw [hex] at this;exact zmK this rfl
    . rcases hx with hx|hx
      . exact I.klim x hx
      . exact absurd hx (hno rfl x)
  | @grew n b cs s bs sl need pre post post' c hb hro hg hc hr hpost hp h1 =>
    have hnew:=hn h.next (Nat.le_refl _) (by rw [show ((h.putO n none).addO (some ⟨cs,b.elem,false,some (s+1)⟩)).next=h.next+1 from rfl];omega)
    have hap:∀ m c,(h.putO n none).get m=some c->F.blk m≠F.blk n:=fun m c hm=>by
      rw [AHeap.putO_get] at hm;split at hm
      . cases hm
      . rename_i e;exact fun h2=>I.holds.apart n m b c hb hm (Ne.symm e) hro h2.symm
    have hs:Same K F (F.set h.next (F.blk n) bs sl):=F.set_same hnew.1;obtain⟨e1,e2,e3⟩:=F.set_at h.next (F.blk n) bs sl;have I1:=(((I.kill n).turned hap (I.sep n b hb) (I.own n b hb hro) post).same hs).kmono (K':=fun x=>K x\/(h.next<=x/\x<h.next+1)) (fun x hx=>.inl hx) (fun x hx=>by rcases hx with hx|hx;exact I.klim x hx;omega)
    have hcs:=hmem hc;have hrep:=X.rep_same F (F.set h.next (F.blk n) bs sl) S w (hs.mono (fun m hm=>I.hand m hm.1 hm.2)) I.rep;have I2:=I1.put (n:=h.next) (b:=⟨cs,b.elem,false,some (s+1)⟩) (pre:=pre) (post:=post') (.inr ⟨Nat.le_refl _,by omega⟩) hnew.2 (by
        rw [e1,zlb hr,<-hpost];congr 3;exact congrArg _ (congrArg _ (List.map_congr_left fun v hv=>((hcs v hv) _ hs).symm)))
      (by rw [e2];exact hp) (fun h=>by cases h) (fun s' h=>by cases h;rw [e3];exact h1)
      (fun m c hm hne=>by
        rw [e1];have:m≠h.next:=hne;rw [show (F.set h.next (F.blk n) bs sl).blk m=F.blk m by simp [Emb.set,this]]
        exact hap m c hm)
      (by rw [e1];exact fun hf=>I.sep n b hb (hrep.2 _ hf)) (by rw [e1];exact I.own n b hb hro) (fun c hc=>(hcs c hc).move hs (fun x hx=>.inl hx)) (h':=(h.putO n none).addO (some ⟨cs,b.elem,false,some (s+1)⟩)) (fun m=>rfl)
    refine⟨Nat.le_succ _,_,?_,hs,I2.vals' fun y hy=>?_⟩
    . simp [adr,e1,e2,e3]
    . rw [hy];intro F' hs';have:=hs' h.next (.inr ⟨Nat.le_refl _,by omega⟩)
      simp [adr,<-this.1,<-this.2.1,<-this.2.2]
  | @fresh n b cs s sl need _ post hb hro hg hc hw h1 =>
    have hnew:=hn h.next (Nat.le_refl _) (by rw [show ((h.putO n none).addO (some ⟨cs,b.elem,false,some (s+1)⟩)).next=h.next+1 from rfl];omega)
    have hs:Same K F (F.set h.next w.heap.size 0 sl):=F.set_same hnew.1;have hcs:=hmem hc;have I1:=(I.kill n).add (n:=h.next) hnew.1 hnew.2 (h':=(h.putO n none).addO (some ⟨cs,b.elem,false,some (s+1)⟩)) (ob:=some ⟨cs,b.elem,false,some (s+1)⟩) (bk:=w.heap.size) (bs:=0) (sl:=sl) (fun m=>rfl) (fun b' hb'=>by cases hb';exact hcs)
      (.inr ⟨_,post,rfl,rfl,rfl,rfl,hw,fun h=>(by cases h),fun s' h=>(by cases h;exact h1)⟩)
    obtain⟨e1,e2,e3⟩:=F.set_at h.next w.heap.size 0 sl;refine⟨Nat.le_succ _,_,?_,hs,(I1.kmono (fun x hx=>?_) (fun x hx=>?_)).vals' fun y hy=>?_⟩
    . simp [adr,e1,e2,e3]
    . rcases hx with hx|rfl
      . exact .inl hx
      . exact .inr ⟨Nat.le_refl _,Nat.lt_succ_self _⟩
    . rcases hx with hx|hx
      . exact I.klim x hx
      . have:x<h.next+1:=hx.2;have:=hnew.2;omega
    . rw [hy];intro F' hs';have:=hs' h.next (.inr ⟨Nat.le_refl _,Nat.lt_succ_self _⟩);simp [adr,<-this.1,<-this.2.1,<-this.2.2]
end
end Go.Proofs.Ytgndgbnhkoppmaa
