/-
  The abstract machine, part 9: a region that draws its order: each operation, whenever it comes.
  No condition: laws.
-/
import Derived.Test.YtjhmhoapgbfgpaaUAx6
set_option maxHeartbeats 40000000
namespace Go.Proofs.Ytjhmhoapgbfgpaa
open Go Go.RowKit Go.Conc
section
variable {P:Program} {σ:Type} {X:Face P σ} {W:List Nat} {ops:Array Oper} {n0:Nat} {hf:AHeap} {rec:Nat→DRec σ} {F0 F:Emb} {w0 w:World} {M:Nat→Prop} {listed:Array Bool} {a:Act} {e c i:Nat} {o:Oper}
theorem Chain.lim (C:Chain X W ops n0 hf rec) (hn0:n0≤VB):∀ i,i≤ops.size→(rec i).h.next≤VB
  | 0,_=>by rw [C.next0];exact hn0
  | i+1,hi=>by
    have ih:=C.lim hn0 i (by omega)
    have ho:ops[i]?=some ops[i]:=Array.getElem?_eq_getElem (by omega)
    rcases (C.step i _ ho).lim with h|h
    · rw [h];exact ih
    · exact h
theorem DInv.ge (I:DInv X W ops n0 rec F0 w0 M listed a w F e c) (R:zdk W ops listed i o) (hl:zbO W i o=true):i≤e:=by
  rcases Nat.lt_or_ge e i with h|h
  · exfalso
    rcases I.eat with he|⟨oe,hoe,hse⟩
    · have:=R.lt;omega
    · have h1:=R.meet e oe (by omega) hoe (.inr (.inr (.inl ⟨hse,hl⟩)))
      rw [I.eopen e oe (Nat.le_refl _) hoe hse] at h1
      simp [h] at h1
  · exact h
theorem DInv.wr_at (I:DInv X W ops n0 rec F0 w0 M listed a w F e c) (R:zdk W ops listed i o) (hs:wrB W i o=true):i=e:=by
  have h:=I.ge R (R.loud hs)
  rcases Nat.lt_or_ge i e with h1|h1
  · have:=I.edone i o h1 R.at' hs
    rw [R.un] at this;cases this
  · omega
theorem DInv.free (I:DInv X W ops n0 rec F0 w0 M listed a w F e c) (R:zdk W ops listed i o) (hl:zbO W i o=true) (hs:wrB W i o=false):∀ j oj,i≤j→j<e→ops[j]?=some oj→wrB W j oj=false:=by
  intro j oj h1 h2 hj
  cases hst:wrB W j oj with
  | false=>rfl
  | true =>
    exfalso
    have h3:=I.edone j oj h2 hj hst
    have hji:j≠i:=by rintro rfl;rw [R.at'] at hj;cases hj;rw [hs] at hst;cases hst
    have h4:=R.meet j oj hji hj (.inr (.inr (.inl ⟨hst,hl⟩)))
    rw [h3] at h4
    have:¬ j<i:=by omega
    simp [this] at h4
theorem DInv.lt_e (I:DInv X W ops n0 rec F0 w0 M listed a w F e c) (R:zdk W ops listed i o) (hl:zbO W i o=true) (hs:wrB W i o=false):i+1≤e:=by
  have h3:=I.ge R hl
  rcases Nat.lt_or_ge i e with h4|h4
  · exact h4
  · exfalso
    rcases I.eat with h5|⟨oe,h5,h6⟩
    · have:=R.lt;omega
    · obtain rfl:i=e:=by omega
      rw [R.at'] at h5;cases h5;rw [hs] at h6;cases h6
theorem DInv.call_at (I:DInv X W ops n0 rec F0 w0 M listed a w F e c) (R:zdk W ops listed i o) (hc:zaA o=true):c≤i∧∀ j oj,c≤j→j<i→ops[j]?=some oj→zaA oj=false:=by
  constructor
  · rcases Nat.lt_or_ge i c with h1|h1
    · have:=I.cdone i o h1 R.at' hc
      rw [R.un] at this;cases this
    · exact h1
  · intro j oj h1 h2 hj
    cases hst:zaA oj with
    | false=>rfl
    | true =>
      exfalso
      have h3:=R.meet j oj (by omega) hj (.inr (.inr (.inr (.inr ⟨hst,hc⟩))))
      rw [I.copen j oj h1 hj hst] at h3
      simp [h2] at h3
theorem DInv.turn_e (I:DInv X W ops n0 rec F0 w0 M listed a w F e c) (R:zdk W ops listed i o):∃ e',(wrB W i o=false→e'=e)∧(wrB W i o=true→i+1≤e'∧∀ j oj,i+1≤j→j<e'→ops[j]?=some oj→wrB W j oj=false) ∧
    (e'≤ops.size∧(∀ j o,j<e'→ops[j]?=some o→wrB W j o=true→(listed.setIfInBounds i true).getD j false=true)∧(∀ j o,e'≤j→ops[j]?=some o→wrB W j o=true→(listed.setIfInBounds i true).getD j false=false)∧(e'=ops.size∨∃ o,ops[e']?=some o∧wrB W e' o=true)):=by
  have hset:=zgE (listed:=listed) (i:=i) (by rw [I.size];exact R.lt)
  cases hs:wrB W i o with
  | false =>
    refine⟨e,fun _=>rfl,fun h=>(by cases h),I.ele,fun j oj h1 hj hst=>by rw [hset,I.edone j oj h1 hj hst];rfl,fun j oj h1 hj hst=>?_,I.eat⟩
    rw [hset,I.eopen j oj h1 hj hst]
    have:j≠i:=by rintro rfl;rw [R.at'] at hj;cases hj;rw [hs] at hst;cases hst
    simpa using this
  | true =>
    have hie:=I.wr_at R hs
    obtain⟨e',h1,h2,h3,h4⟩:=zkK (wrB W) ops (ops.size - (i+1)) (i+1) (by have:=R.lt;omega)
    refine⟨e',fun h=>(by cases h),fun _=>⟨h1,h3⟩,h2,fun j oj k1 hj hst=>?_,fun j oj k1 hj hst=>?_,h4⟩
    · rw [hset]
      by_cases hji:j=i
      · simp [hji]
      · by_cases hlt:j<i
        · rw [I.edone j oj (by omega) hj hst];rfl
        · rw [h3 j oj (by omega) k1 hj] at hst;cases hst
    · rw [hset,I.eopen j oj (by omega) hj hst]
      have:j≠i:=by omega
      simpa using this
theorem DInv.turn_c (I:DInv X W ops n0 rec F0 w0 M listed a w F e c) (R:zdk W ops listed i o):∃ c',(zaA o=false→c'=c)∧(zaA o=true→c'=i+1) ∧
    (c'≤ops.size∧(∀ j o,j<c'→ops[j]?=some o→zaA o=true→(listed.setIfInBounds i true).getD j false=true)∧(∀ j o,c'≤j→ops[j]?=some o→zaA o=true→(listed.setIfInBounds i true).getD j false=false)):=by
  have hset:=zgE (listed:=listed) (i:=i) (by rw [I.size];exact R.lt)
  cases hs:zaA o with
  | false =>
    refine⟨c,fun _=>rfl,fun h=>(by cases h),I.cle,fun j oj h1 hj hst=>by rw [hset,I.cdone j oj h1 hj hst];rfl,fun j oj h1 hj hst=>?_⟩
    rw [hset,I.copen j oj h1 hj hst]
    have:j≠i:=by rintro rfl;rw [R.at'] at hj;cases hj;rw [hs] at hst;cases hst
    simpa using this
  | true =>
    obtain⟨h1,h2⟩:=I.call_at R hs
    refine⟨i+1,fun h=>(by cases h),fun _=>rfl,by have:=R.lt;omega,fun j oj k1 hj hst=>?_,fun j oj k1 hj hst=>?_⟩
    · rw [hset]
      by_cases hji:j=i
      · simp [hji]
      · by_cases hlt:j<c
        · rw [I.cdone j oj hlt hj hst];rfl
        · rw [h2 j oj (by omega) (by omega) hj] at hst;cases hst
    · rw [hset,I.copen j oj (by omega) hj hst]
      have:j≠i:=by omega
      simpa using this
theorem zdc (hsize:listed.size=ops.size) (R:zdk W ops listed i o) (n:Nat):zeA rec ops (listed.setIfInBounds i true) n=true↔zeA rec ops listed n=true∨(i,n)∈(rec ops.size).born:=by
  have hset:=zgE (listed:=listed) (i:=i) (by rw [hsize];exact R.lt)
  rw [zcb,zcb]
  constructor
  · rintro ⟨j,h1,h2⟩
    rw [hset] at h2
    by_cases hji:j=i
    · exact .inr (hji ▸ h1)
    · have h0:(j==i)=false:=by simpa using hji
      rw [h0,Bool.or_false] at h2
      exact .inl ⟨j,h1,h2⟩
  · rintro (⟨j,h1,h2⟩|h)
    · exact⟨j,h1,by rw [hset,h2];rfl⟩
    · exact⟨i,h,by rw [hset];simp⟩
theorem zf5 (C:Chain X W ops n0 hf rec) {n:Nat} (h:zeA rec ops listed n=true):n<(rec ops.size).h.next∧n<VB:=by
  obtain⟨j,h1,_⟩:=zcb.1 h
  have:=C.born ops.size (Nat.le_refl _) j n h1
  exact⟨this.2.2.2.1,this.2.2.2.2.1⟩
theorem zfZ (C:Chain X W ops n0 hf rec) (hi:i<ops.size) (n:Nat):(i,n)∈(rec ops.size).born↔(rec i).h.next≤n∧n<(rec (i+1)).h.next:=by
  constructor
  · intro h
    obtain⟨_,h1,h2,_⟩:=C.born ops.size (Nat.le_refl _) i n h
    exact⟨h1,h2⟩
  · rintro ⟨h1,h2⟩
    have ho:ops[i]?=some ops[i]:=Array.getElem?_eq_getElem hi
    refine C.born_le (i:=i+1) hi (Nat.le_refl _) ?_
    rw [(C.step i _ ho).born]
    exact List.mem_append_left _ (zhF.2 ⟨rfl,h1,h2⟩)
theorem DInv.fresh (_:DInv X W ops n0 rec F0 w0 M listed a w F e c) (C:Chain X W ops n0 hf rec) (R:zdk W ops listed i o) {n:Nat} (h1:(rec i).h.next≤n) (h2:n<(rec (i+1)).h.next):¬ KD X rec ops n0 listed c n∧n<VB:=by
  have hb:=(zfZ C R.lt n).2 ⟨h1,h2⟩
  have hV:=(C.born ops.size (Nat.le_refl _) i n hb).2.2.2.2.1
  refine⟨fun hk=>?_,hV⟩
  have hge:n0≤n:=by have:=C.next_le' (Nat.zero_le i) (Nat.le_of_lt R.lt);rw [C.next0] at this;omega
  rcases hk with hk|hk|hk
  · omega
  · obtain⟨j,k1,k2⟩:=zcb.1 hk
    obtain⟨k3,k4,k5,_⟩:=C.born ops.size (Nat.le_refl _) j n k1
    have hji:j=i:=by
      rcases Nat.lt_trichotomy j i with h|h|h
      · have:=C.next_le' (i:=j+1) (j:=i) (by omega) (Nat.le_of_lt R.lt);omega
      · exact h
      · have:=C.next_le' (i:=i+1) (j:=j) (by omega) (Nat.le_of_lt k3);omega
    rw [hji,R.un] at k2;cases k2
  · omega
theorem DInv.born_ahead (_:DInv X W ops n0 rec F0 w0 M listed a w F e c) (C:Chain X W ops n0 hf rec) (R:zdk W ops listed i o) (hs:wrB W i o=true) {n:Nat} (h:n<n0∨zeA rec ops listed n=true):n<(rec i).h.next:=by
  rcases h with h|h
  · have:=C.next_le' (Nat.zero_le i) (Nat.le_of_lt R.lt)
    rw [C.next0] at this;omega
  · obtain⟨j,h1,h2⟩:=zcb.1 h
    obtain⟨k1,k2,k3,_,_,oj,k4,k5⟩:=C.born ops.size (Nat.le_refl _) j n h1
    have hji:j≠i:=by rintro rfl;rw [R.un] at h2;cases h2
    have:=R.meet j oj hji k4 (.inr (.inr (.inr (.inl ⟨k5,hs⟩))))
    rw [h2] at this
    have hlt:j<i:=by simpa using this
    have h3:=C.next_le' (i:=j+1) (j:=i) (by omega) (Nat.le_of_lt R.lt)
    omega
theorem DInv.still (I:DInv X W ops n0 rec F0 w0 M listed a w F e c) (C:Chain X W ops n0 hf rec) (R:zdk W ops listed i o) (hh:(rec (i+1)).h=(rec i).h) (hS:(rec (i+1)).S=(rec i).S) (hv:Stab (KD X rec ops n0 listed c) F (rec i).v) :
    ∃ e' c',DInv X W ops n0 rec F0 w0 M (listed.setIfInBounds i true) (a.put o.dst (ren F (rec i).v)) w F e' c':=by
  obtain⟨e',he1,he2,he⟩:=I.turn_e R
  obtain⟨c',hc1,hc2,hc⟩:=I.turn_c R
  have hnb:∀ n,(i,n) ∉ (rec ops.size).born:=fun n h=>by
    have:=(zfZ C R.lt n).1 h
    rw [hh] at this;omega
  have hborn:∀ n,zeA rec ops (listed.setIfInBounds i true) n=zeA rec ops listed n:=fun n=>by
    rw [Bool.eq_iff_iff,zdc I.size R]
    exact⟨fun h=>h.resolve_right (hnb n),.inl⟩
  have hcS:(rec c').S=(rec c).S:=by
    cases hs:zaA o with
    | false=>rw [hc1 hs]
    | true =>
      obtain⟨k1,k2⟩:=I.call_at R hs
      rw [hc2 hs,hS,C.states' k1 (Nat.le_of_lt R.lt) k2]
  have hK:∀ n,KD X rec ops n0 listed c n→KD X rec ops n0 (listed.setIfInBounds i true) c' n:=fun n hn=>by
    unfold KD at hn ⊢
    rw [hborn,hcS];exact hn
  have hget:∀ n,(hD rec ops n0 (listed.setIfInBounds i true) e').get n=(hD rec ops n0 listed e).get n:=fun n=>by
    unfold hD
    simp only [hborn]
    split
    · rename_i hn
      cases hs:wrB W i o with
      | false=>rw [he1 hs]
      | true =>
        have hie:=I.wr_at R hs
        have hlt:=I.born_ahead C R hs hn
        obtain⟨k1,k2⟩:=he2 hs
        rw [C.stays' k1 he.1 k2 (by rw [hh];exact hlt),hh,hie]
    · rfl
  have hD':hD rec ops n0 (listed.setIfInBounds i true) e'=hD rec ops n0 listed e:=by
    have h1:(hD rec ops n0 (listed.setIfInBounds i true) e').get=(hD rec ops n0 listed e).get:=funext hget
    have h2:(hD rec ops n0 (listed.setIfInBounds i true) e').next=(hD rec ops n0 listed e).next:=rfl
    cases h3:hD rec ops n0 (listed.setIfInBounds i true) e'
    cases h4:hD rec ops n0 listed e
    rw [h3,h4] at h1 h2
    simp only at h1 h2
    rw [h1,h2]
  refine⟨e',c',I.mk' R (Same.refl _ _) hK (hv.move (Same.refl _ _) hK) he hc ?_ ?_ ?_ I.kept ?_ ?_ ?_ (by rw [hcS];exact Nat.le_refl _)⟩
  · rw [hD'];exact I.holds
  · rw [hD'];exact fun n b hb v hv=>(I.hst n b hb v hv).move (Same.refl _ _) hK
  · rw [hcS];exact I.rep
  · rw [hD'];exact I.own
  · rw [hcS];exact I.fown
  · rw [hD',hcS];exact I.sep
theorem hD_K:∀ n b,(hD rec ops n0 listed e).get n=some b→KD X rec ops n0 listed c n:=by
  intro n b hb
  rcases (zjT hb).1 with h|h
  · exact .inl h
  · exact .inr (.inl h)
theorem zrs (C:Chain X W ops n0 hf rec) (hn0:n0≤VB) {n:Nat} (h:KD X rec ops n0 listed c n):n<VB+X.cnt (rec c).S:=by
  rcases h with h|h|h
  · omega
  · have:=(zf5 C h).2;omega
  · exact h.2
theorem zrB (C:Chain X W ops n0 hf rec) (hn0:n0≤VB) {n:Nat} {b:Blk} (h:(hD rec ops n0 listed e).get n=some b):n<VB:=by
  rcases (zjT h).1 with h|h
  · omega
  · exact (zf5 C h).2
theorem DInv.oper_stab (I:DInv X W ops n0 rec F0 w0 M listed a w F e c) (C:Chain X W ops n0 hf rec) (R:zdk W ops listed i o) {x:Operand} (hx:x∈o.op.operands) (hb:zaP x=true):Stab (KD X rec ops n0 listed c) F (evA (rec i).tmps x):=by
  cases x with
  | tmp t =>
    have ht:t∈zcL ops o:=by
      unfold zcL Oper.looksAt
      exact List.mem_append_left _ (List.mem_append_left _ (List.mem_filterMap.2 ⟨.tmp t,by simpa using hx,rfl⟩))
    obtain⟨h1,h2⟩:=zpc C R ht
    simp only [evA]
    by_cases htl:t<(rec 0).tmps.length
    · rw [h2 htl];exact I.slot_stab t
    · have g2:(rec i).tmps.length≤t:=by rw [h1];exact Nat.le_of_not_lt htl
      rw [show (rec i).tmps.getD t undef=undef by simp [List.getD,List.getElem?_eq_none g2]]
      exact Stab.undef
  | const v=>exact Stab.plain hb
  | global g=>cases hb
  | func f=>intro F' _;simp [evA]
theorem zlZ {tmps:List Value} {o:Oper} (hb:o.op.operands.all zaP=true) (F':Emb):∀ x∈o.op.operands,(actF F' tmps).eval x=ren F' (evA tmps x) :=
  fun x hx=>zb8 F' tmps x (by simpa using (Array.all_eq_true_iff_forall_mem.1 hb) x hx)
theorem zh3 (I:DInv X W ops n0 rec F0 w0 M listed a w F e c) (C:Chain X W ops n0 hf rec) (R:zdk W ops listed i o) (hb:o.op.operands.all zaP=true):∀ v,(∃ x∈o.op.operands,v=evA (rec i).tmps x)→Stab (KD X rec ops n0 listed c) F v:=by
  rintro v ⟨x,hx,rfl⟩
  exact I.oper_stab C R hx (by simpa using (Array.all_eq_true_iff_forall_mem.1 hb) x hx)
theorem DInv.view (I:DInv X W ops n0 rec F0 w0 M listed a w F e c) (C:Chain X W ops n0 hf rec) {vs:Value→Prop} (hv:∀ v,vs v→Stab (KD X rec ops n0 listed c) F v) {h:AHeap} (hs:∀ n b,h.get n=some b→∃ b0,(hD rec ops n0 listed e).get n=some b0∧b={ b0 with ro:=true }) :
    AInv X F w (fun b=>X.fp F (rec c).S b) (KD X rec ops n0 listed c) vs h (rec c).S w:=by
  refine⟨⟨?_,?_⟩,I.rep,hv,?_,?_,fun n h1 h2=>.inr (.inr ⟨h1,h2⟩),fun n hn=>zrs C I.nVB hn,Kept.refl _ _,?_,fun b hb _=>hb,?_⟩
  · intro n b hb
    obtain⟨b0,h0,rfl⟩:=hs n b hb
    obtain⟨pre,post,fr,r1,r2,r3,r4⟩:=I.holds.row n b0 h0
    exact⟨pre,post,fr,r1,r2,fun h=>(by cases h),r4⟩
  · intro n m b c' hb hc hne hr
    obtain⟨b0,h0,rfl⟩:=hs n b hb
    cases hr
  · intro n b hb v hv
    obtain⟨b0,h0,rfl⟩:=hs n b hb
    exact I.hst n b0 h0 v hv
  · intro n b hb
    obtain⟨b0,h0,rfl⟩:=hs n b hb
    exact⟨hD_K n b0 h0,zrB C I.nVB h0⟩
  · intro n b hb hr
    obtain⟨b0,h0,rfl⟩:=hs n b hb
    cases hr
  · intro n b hb
    obtain⟨b0,h0,rfl⟩:=hs n b hb
    exact I.sep n b0 h0
theorem DInv.vis (I:DInv X W ops n0 rec F0 w0 M listed a w F e c) (C:Chain X W ops n0 hf rec) (R:zdk W ops listed i o) (hl:zbO W i o=true) (hs:wrB W i o=false) :
    ∀ n b,(visH n0 (rec i).born ((zas ops.toList []).getD i 0) (rec i).h).get n=some b→∃ b0,(hD rec ops n0 listed e).get n=some b0∧b={ b0 with ro:=true }:=by
  intro n b hb
  unfold visH at hb
  simp only at hb
  split at hb
  · rename_i hc
    cases hg:(rec i).h.get n with
    | none=>rw [hg] at hb;cases hb
    | some b0 =>
      rw [hg] at hb
      cases hb
      have hlow:=C.low i (Nat.le_of_lt R.lt) n b0 hg
      refine⟨b0,zos ?_ ?_,rfl⟩
      · rcases hc with hc|hc
        · exact .inl hc
        · rw [List.any_eq_true] at hc
          obtain⟨⟨j,m⟩,h1,h2⟩:=hc
          simp only [Bool.and_eq_true,beq_iff_eq] at h2
          refine .inr (zcb.2 ⟨j,?_,R.mask j h2.2⟩)
          rw [←h2.1]
          exact C.born_le (Nat.le_of_lt R.lt) (Nat.le_refl _) h1
      · rw [C.stays' (I.ge R hl) I.ele (I.free R hl hs) hlow];exact hg
  · cases hb
theorem DInv.sems (I:DInv X W ops n0 rec F0 w0 M listed a w F e c) (C:Chain X W ops n0 hf rec) (R:zdk W ops listed i o) {c':Nat} (hc1:zaA o=false→c'=c) (hc2:zaA o=true→c'=i+1) {ev:Operand→Value} {h h':AHeap} {v:Value} (hS:OpSems X o ev h (rec i).S v h' (rec (i+1)).S) :
    OpSem X o ev h (rec c).S v h' (rec c').S:=by
  cases hs:zaA o with
  | false=>rw [hc1 hs];exact hS.2 hs _
  | true =>
    obtain⟨k1,k2⟩:=I.call_at R hs
    rw [hc2 hs,←C.states' k1 (Nat.le_of_lt R.lt) k2]
    exact hS.1 hs
theorem DInv.semsW (I:DInv X W ops n0 rec F0 w0 M listed a w F e c) (C:Chain X W ops n0 hf rec) (R:zdk W ops listed i o) {c':Nat} (hc1:zaA o=false→c'=c) (hc2:zaA o=true→c'=i+1) {ev:Operand→Value} {h h':AHeap} {v:Value} (hS:zjd X o ev h (rec i).S v h' (rec (i+1)).S) :
    zhm X o ev h (rec c).S v h' (rec c').S:=by
  cases hs:zaA o with
  | false=>rw [hc1 hs];exact hS.2 hs _
  | true =>
    obtain⟨k1,k2⟩:=I.call_at R hs
    rw [hc2 hs,←C.states' k1 (Nat.le_of_lt R.lt) k2]
    exact hS.1 hs
theorem DInv.quiet (I:DInv X W ops n0 rec F0 w0 M listed a w F e c) (C:Chain X W ops n0 hf rec) (L:zk8 W ops) (R:zdk W ops listed i o) (hb:o.op.operands.all zaP=true) (hs:wrB W i o=false) {hv:AHeap}
    (hS:OpSems X o (evA (rec i).tmps) (if zbO W i o=true then visH n0 (rec i).born ((zas ops.toList []).getD i 0) (rec i).h else if farB W i=true then atN hf (rec i).h.next else zk5 (rec i).h.next) (rec i).S (rec i).v hv (rec (i+1)).S) (hh:(rec (i+1)).h=zdT (rec i).h hv) :
    OpWp P o a.eval w fun u w'=>∃ F' e' c',DInv X W ops n0 rec F0 w0 M (listed.setIfInBounds i true) (a.put o.dst u) w' F' e' c':=by
  obtain⟨e',he1,_,he⟩:=I.turn_e R
  obtain⟨c',hc1,hc2,hc⟩:=I.turn_c R
  obtain rfl:=he1 hs
  have hsem:=I.sems C R hc1 hc2 hS
  have hnx:(rec (i+1)).h.next=hv.next:=by rw [hh];rfl
  have hqn:(if zbO W i o=true then visH n0 (rec i).born ((zas ops.toList []).getD i 0) (rec i).h else if farB W i=true then atN hf (rec i).h.next else zk5 (rec i).h.next).next=(rec i).h.next:=by (repeat' split)<;>rfl
  obtain⟨hn1,hcn,hro,hsem⟩:=hsem
  rw [hqn] at hn1 hro
  have hview:∀ n b,(if zbO W i o=true then visH n0 (rec i).born ((zas ops.toList []).getD i 0) (rec i).h else if farB W i=true then atN hf (rec i).h.next else zk5 (rec i).h.next).get n=some b→∃ b0,(hD rec ops n0 listed e').get n=some b0∧b={ b0 with ro:=true }:=by
    intro n b hb
    split at hb
    · rename_i hl;exact I.vis C R hl hs n b hb
    · split at hb
      · rename_i hfar
        obtain⟨k1,b0,rfl,k2⟩:=C.still n b hb
        refine⟨b0,zos (.inl k1) ?_,rfl⟩
        by_cases hU:e'≤farU W ops.size
        · exact k2 _ I.ele hU
        · have hiU:=L.far i R.lt hfar
          have hno:∀ j oj,farU W ops.size≤j→j<e'→ops[j]?=some oj→wrB W j oj=false:=fun j oj h1 h2 hj=>by
            cases hw:wrB W j oj with
            | false=>rfl
            | true =>
              exfalso
              have hl:=I.edone j oj h2 hj hw
              have hb:=L.behind i j o oj (by omega) R.at' hj hfar hw h1
              have:=zcR (D:=fun x=>listed.getD x false=true) I.down j oj hj (I.down j oj hj hl) i hb
              rw [R.un] at this;exact Bool.noConfusion this
          have hle:farU W ops.size≤ops.size:=by have:=I.ele;omega
          rw [C.stays' (show farU W ops.size≤e' by omega) I.ele hno (by have:=C.next_le' (Nat.zero_le _) hle;rw [C.next0] at this;omega)]
          exact k2 _ hle (Nat.le_refl _)
      · cases hb
  have hvlow:∀ m c,(if zbO W i o=true then visH n0 (rec i).born ((zas ops.toList []).getD i 0) (rec i).h else if farB W i=true then atN hf (rec i).h.next else zk5 (rec i).h.next).get m=some c→m<(rec i).h.next:=by
    intro m c hm
    split at hm
    · unfold visH at hm
      simp only at hm
      split at hm
      · cases hg:(rec i).h.get m with
        | none=>rw [hg] at hm;cases hm
        | some b0=>exact C.low i (Nat.le_of_lt R.lt) m b0 hg
      · cases hm
    · split at hm
      · obtain⟨k1,b0,_,k2⟩:=C.still m c hm
        exact C.low i (Nat.le_of_lt R.lt) m b0 (k2 i (Nat.le_of_lt R.lt) (Nat.le_of_lt (L.far i R.lt (by assumption))))
      · cases hm
  have IV:=I.view C (zh3 I C R hb) hview
  have hfr:∀ x,(rec i).h.next≤x→x<hv.next→¬ KD X rec ops n0 listed c x∧x<VB:=fun x h1 h2=>I.fresh C R h1 (by rw [hnx];exact h2)
  have hmain:=hsem (KD X rec ops n0 listed c) F w w (fun b=>X.fp F (rec c).S b) (actF F (rec i).tmps).eval (by rw [hqn];exact hfr) (zlZ hb F) IV
  rw [hqn] at hmain
  have hrun:=(I.same_at C L R (Same.refl _ F)).1
  refine (hmain.congr hrun).mono ?_
  rintro u w' ⟨F',rfl,hF,J⟩
  have hKK:∀ n,KAdd (KD X rec ops n0 listed c) (rec i).h.next hv.next (X.cnt (rec c).S) (X.cnt (rec c').S) n→KD X rec ops n0 (listed.setIfInBounds i true) c' n:=by
    intro n hn
    rcases hn with (hn|hn|hn)|hn|hn
    · exact .inl hn
    · exact .inr (.inl ((zdc I.size R n).2 (.inl hn)))
    · exact .inr (.inr ⟨hn.1,by omega⟩)
    · exact .inr (.inl ((zdc I.size R n).2 (.inr ((zfZ C R.lt n).2 ⟨hn.1,by rw [hnx];exact hn.2⟩))))
    · exact .inr (.inr ⟨by omega,hn.2⟩)
  have hK:∀ n,KD X rec ops n0 listed c n→KD X rec ops n0 (listed.setIfInBounds i true) c' n:=fun n hn=>hKK n (.inl hn)
  have hget:∀ n b,(hD rec ops n0 (listed.setIfInBounds i true) e').get n=some b→((rec i).h.next≤n∧hv.get n=some b∧b.ro=false)∨(hD rec ops n0 listed e').get n=some b:=by
    intro n b hb
    obtain⟨h1,h2⟩:=zjT hb
    rw [zdc I.size R n] at h1
    by_cases hin:(i,n)∈(rec ops.size).born
    · obtain⟨k1,k2⟩:=(zfZ C R.lt n).1 hin
      have hl:zbO W i o=true:=by
        cases hl:zbO W i o with
        | true=>rfl
        | false=>have:=(C.step i o R.at').loud hl;omega
      rw [C.stays' (I.lt_e R hl hs) I.ele (fun j oj q1 q2=>I.free R hl hs j oj (by omega) q2) k2,hh] at h2
      unfold zdT at h2
      simp only at h2
      rw [if_pos k1,if_pos (by rw [←hnx];exact k2)] at h2
      exact .inl ⟨k1,h2,hro n b k1 h2 hvlow⟩
    · exact .inr (zos (by rcases h1 with h1|h1;exact .inl h1;exact .inr (h1.resolve_right hin)) h2)
  have hsame:=I.holds.same (fun n b hb=>hD_K n b hb) I.hst hF
  have hblk:∀ n b,(hD rec ops n0 listed e').get n=some b→F'.blk n=F.blk n∧F.blk n<w.heap.size:=fun n b hb=>⟨(hF n (hD_K n b hb)).1.symm,I.holds.blk_lt hb⟩
  have hnewB:∀ n b,hv.get n=some b→b.ro=false→F'.blk n<w.heap.size→X.fp F (rec c).S (F'.blk n):=fun n b hb hr hx=>J.own n b hb hr hx
  refine⟨F',e',c',I.mk' R hF hK ((J.vst _ rfl).move (Same.refl _ _) hKK) he hc ⟨?_,?_⟩ ?_ J.rep (I.kept.trans J.kept (fun b hb hf=>I.fown b hf hb)) ?_ ?_ ?_ hcn⟩
  · intro n b hb
    rcases hget n b hb with ⟨k1,k2,k3⟩|hb
    · exact J.holds.row n b k2
    · obtain⟨pre,post,fr,r1,r2⟩:=hsame.row n b hb
      refine⟨pre,post,fr,?_,r2⟩
      obtain⟨q1,q2⟩:=hblk n b hb
      rw [q1] at r1 ⊢
      rw [J.kept.block _ q2 (I.sep n b hb)]
      exact r1
  · intro n m b d hb hd hnm hr
    rcases hget n b hb with ⟨k1,k2,k3⟩|hb<;>rcases hget m d hd with ⟨k1',k2',k3'⟩|hd
    · exact J.holds.apart n m b d k2 k2' hnm hr
    · obtain⟨q1,q2⟩:=hblk m d hd
      intro he
      rw [q1] at he
      have:=hnewB n b k2 k3 (by rw [he];exact q2)
      rw [he] at this
      exact I.sep m d hd this
    · obtain⟨q1,q2⟩:=hblk n b hb
      intro he
      rw [q1] at he
      have:=hnewB m d k2' k3' (by rw [←he];exact q2)
      rw [←he] at this
      exact I.sep n b hb this
    · exact hsame.apart n m b d hb hd hnm hr
  · intro n b hb v hv'
    rcases hget n b hb with ⟨k1,k2,k3⟩|hb
    · exact (J.hst n b k2 v hv').move (Same.refl _ _) hKK
    · exact (I.hst n b hb v hv').move hF hK
  · intro n b hb hr hx
    rcases hget n b hb with ⟨k1,k2,k3⟩|hb
    · exact I.fown _ (hnewB n b k2 k3 (Nat.lt_of_lt_of_le hx I.kept.size)) hx
    · obtain⟨q1,q2⟩:=hblk n b hb
      rw [q1] at hx ⊢
      exact I.own n b hb hr hx
  · intro b hb hx
    exact I.fown b (J.fown b hb (Nat.lt_of_lt_of_le hx I.kept.size)) hx
  · intro n b hb hx
    rcases hget n b hb with ⟨k1,k2,k3⟩|hb
    · exact J.sep n b k2 hx
    · obtain⟨q1,q2⟩:=hblk n b hb
      rw [q1] at hx
      exact I.sep n b hb (J.fown _ hx q2)
theorem DInv.writes (I:DInv X W ops n0 rec F0 w0 M listed a w F e c) (C:Chain X W ops n0 hf rec) (L:zk8 W ops) (R:zdk W ops listed i o) (hb:o.op.operands.all zaP=true) (hs:wrB W i o=true)
    (hS:zjd X o (evA (rec i).tmps) (rec i).h (rec i).S (rec i).v (rec (i+1)).h (rec (i+1)).S) :
    OpWp P o a.eval w fun u w'=>∃ F' e' c',DInv X W ops n0 rec F0 w0 M (listed.setIfInBounds i true) (a.put o.dst u) w' F' e' c':=by
  obtain⟨e',_,he2,he⟩:=I.turn_e R
  obtain⟨c',hc1,hc2,hc⟩:=I.turn_c R
  obtain⟨he3,he4⟩:=he2 hs
  have hie:=I.wr_at R hs
  have hsem:=I.semsW C R hc1 hc2 hS
  obtain⟨hn1,hcn,hsem⟩:=hsem
  have hlisted:∀ n,n<(rec i).h.next→n<n0∨zeA rec ops listed n=true:=by
    intro n hlt
    by_cases hn:n<n0
    · exact .inl hn
    · obtain⟨j,hj⟩:=C.all_born i (Nat.le_of_lt R.lt) n (Nat.le_of_not_lt hn) hlt
      obtain⟨k1,_,_,_,_,oj,k4,k5⟩:=C.born i (Nat.le_of_lt R.lt) j n hj
      refine .inr (zcb.2 ⟨j,C.born_le (Nat.le_of_lt R.lt) (Nat.le_refl _) hj,?_⟩)
      have:=R.meet j oj (by omega) k4 (.inr (.inr (.inr (.inl ⟨k5,hs⟩))))
      simpa [k1] using this
  have hKD:KD X rec ops n0 listed c=Kn (rec i).h.next (X.cnt (rec c).S):=by
    funext n
    apply propext
    constructor
    · rintro (h|h|h)
      · exact .inl (I.born_ahead C R hs (.inl h))
      · exact .inl (I.born_ahead C R hs (.inr h))
      · exact .inr h
    · rintro (h|h)
      · rcases hlisted n h with h|h
        · exact .inl h
        · exact .inr (.inl h)
      · exact .inr (.inr h)
  have hvisb:∀ n z,(rec i).h.get n=some z→n<n0∨zeA rec ops listed n=true:=by
    intro n z hz
    by_cases hn:n<n0
    · exact .inl hn
    · obtain⟨j,hj⟩:=C.all_born i (Nat.le_of_lt R.lt) n (Nat.le_of_not_lt hn) (C.low i (Nat.le_of_lt R.lt) n z hz)
      obtain⟨k1,_,_,_,_,oj,k4,k5⟩:=C.born i (Nat.le_of_lt R.lt) j n hj
      refine .inr (zcb.2 ⟨j,C.born_le (Nat.le_of_lt R.lt) (Nat.le_refl _) hj,?_⟩)
      have:=R.meet j oj (by omega) k4 (.inr (.inr (.inr (.inl ⟨k5,hs⟩))))
      simpa [k1] using this
  have hDb:∀ n z,(rec i).h.get n=some z→(hD rec ops n0 listed e).get n=some z:=fun n z hz=>zos (hvisb n z hz) (by rw [←hie];exact hz)
  have IV:AInv X F w0 M (KD X rec ops n0 listed c) (fun v=>∃ x∈o.op.operands,v=evA (rec i).tmps x) (rec i).h (rec c).S w :=
    ⟨I.holds.sub hDb,I.rep,zh3 I C R hb,fun n b hb=>I.hst n b (hDb n b hb),fun n b hb=>⟨hD_K n b (hDb n b hb),zrB C I.nVB (hDb n b hb)⟩,fun n h1 h2=>.inr (.inr ⟨h1,h2⟩),fun n hn=>zrs C I.nVB hn,I.kept,fun n b hb=>I.own n b (hDb n b hb),I.fown,fun n b hb=>I.sep n b (hDb n b hb)⟩
  have hmain:=hsem F w0 w M (actF F (rec i).tmps).eval (C.lim I.nVB i (Nat.le_of_lt R.lt)) (zlZ hb F) (hKD ▸ IV)
  rw [←hKD] at hmain
  have hrun:=(I.same_at C L R (Same.refl _ F)).1
  refine (hmain.congr hrun).mono ?_
  rintro u w' ⟨F',rfl,hF,J⟩
  have hKK:∀ n,KAdd (KD X rec ops n0 listed c) (rec i).h.next (rec (i+1)).h.next (X.cnt (rec c).S) (X.cnt (rec c').S) n→KD X rec ops n0 (listed.setIfInBounds i true) c' n:=by
    intro n hn
    rcases hn with (hn|hn|hn)|hn|hn
    · exact .inl hn
    · exact .inr (.inl ((zdc I.size R n).2 (.inl hn)))
    · exact .inr (.inr ⟨hn.1,by omega⟩)
    · exact .inr (.inl ((zdc I.size R n).2 (.inr ((zfZ C R.lt n).2 hn))))
    · exact .inr (.inr ⟨by omega,hn.2⟩)
  have hget:∀ n b,(hD rec ops n0 (listed.setIfInBounds i true) e').get n=some b→(rec (i+1)).h.get n=some b:=by
    intro n b hb
    obtain⟨h1,h2⟩:=zjT hb
    rw [zdc I.size R n] at h1
    have hlt:n<(rec (i+1)).h.next:=by
      rcases h1 with h1|h1|h1
      · have:=I.born_ahead C R hs (.inl h1);omega
      · have:=I.born_ahead C R hs (.inr h1);omega
      · exact ((zfZ C R.lt n).1 h1).2
    rw [C.stays' he3 he.1 he4 hlt] at h2
    exact h2
  exact⟨F',e',c',I.mk' R hF (fun n hn=>hKK n (.inl hn)) ((J.vst _ rfl).move (Same.refl _ _) hKK) he hc (J.holds.sub hget) (fun n b hb v hv=>(J.hst n b (hget n b hb) v hv).move (Same.refl _ _) hKK) J.rep J.kept (fun n b hb=>J.own n b (hget n b hb)) J.fown (fun n b hb=>J.sep n b (hget n b hb)) hcn⟩
end
section
variable {P:Program} {σ:Type} {X:Face P σ} {W:List Nat} {ops:Array Oper} {n0:Nat} {hf:AHeap} {rec:Nat→DRec σ} {F0:Emb} {w0:World} {M:Nat→Prop}
theorem zoq (C:Chain X W ops n0 hf rec) (L:zk8 W ops) {b:Frame} {rest:List Nat} {k:List Item} {cs:List Frame} (hkd:b.kind=.normal) {listed:Array Bool} {a:Act} {w:World} (hI:∃ F e c,DInv X W ops n0 rec F0 w0 M listed a w F e c) {i:Nat} (hi:i∈Region.ready .any ops listed) :
    ∃ a' w',(∃ F e c,DInv X W ops n0 rec F0 w0 M (listed.setIfInBounds i true) a' w' F e c)∧XSt P (G (b.at a (.inRegion ops (i::rest)::k)) cs) w (G (b.at a' (.inRegion ops rest::k)) cs) w':=by
  obtain⟨F,e,c,I⟩:=hI
  obtain⟨o,R⟩:=zp7 L I.size I.down hi
  obtain⟨hexec,hwant⟩:=I.same_at C L R (Same.refl _ F)
  rcases C.sem i o R.at' with ⟨g1,g2,g3,g4⟩|⟨g1,g2,g3,g4⟩|⟨g1,g2,g3,hv,g4,g5⟩
  · obtain⟨e',c',h⟩:=I.still C R g3 g4 (by rw [g2];exact Stab.undef)
    rw [g2,zaY] at h
    exact⟨_,w,⟨F,e',c',h⟩,.one (zgY R.at' (by rw [hwant];exact g1) w)⟩
  · obtain⟨v,w',hq,hst⟩:=OpWp.steps (rest:=rest) (k:=k) (cs:=cs) hkd R.at' (by rw [hwant];exact g1) (I.writes C L R g2 g3 g4)
    exact⟨_,w',hq,hst⟩
  · obtain⟨v,w',hq,hst⟩:=OpWp.steps (rest:=rest) (k:=k) (cs:=cs) hkd R.at' (by rw [hwant];exact g1) (I.quiet C L R g2 g3 g4 g5)
    exact⟨_,w',hq,hst⟩
theorem DInv.end' (C:Chain X W ops n0 hf rec) (hn0:n0≤VB) {listed:Array Bool} {a:Act} {w:World} (hall:∀ i,i<ops.size→listed.getD i false=true) (hI:∃ F e c,DInv X W ops n0 rec F0 w0 M listed a w F e c) :
    ∃ F',a=actF F' (rec ops.size).tmps∧AInv X F' w0 M (Kn (rec ops.size).h.next (X.cnt (rec ops.size).S)) (fun v=>v∈(rec ops.size).tmps) (rec ops.size).h (rec ops.size).S w∧Same (Kn n0 (X.cnt (rec 0).S)) F0 F'∧X.cnt (rec 0).S≤X.cnt (rec ops.size).S:=by
  obtain⟨F,e,c,I⟩:=hI
  have hlt:∀ {i o},ops[i]?=some o→i<ops.size:=fun h=>(Array.getElem?_eq_some_iff.1 h).1
  obtain rfl:e=ops.size:=by
    rcases I.eat with h|⟨o,h1,h2⟩
    · exact h
    · have:=I.eopen e o (Nat.le_refl _) h1 h2
      rw [hall e (hlt h1)] at this;cases this
  have hS:(rec ops.size).S=(rec c).S:=C.states' I.cle (Nat.le_refl _) fun j o h1 h2 hj=>by
    cases h:zaA o with
    | false=>rfl
    | true=>have:=I.copen j o h1 hj h;rw [hall j h2] at this;cases this
  have hbd:∀ n,n<(rec ops.size).h.next→n<n0∨zeA rec ops listed n=true:=fun n hn=>by
    by_cases h:n<n0
    · exact .inl h
    · obtain⟨j,hj⟩:=C.all_born ops.size (Nat.le_refl _) n (Nat.le_of_not_lt h) hn
      exact .inr (zcb.2 ⟨j,hj,hall j (C.born ops.size (Nat.le_refl _) j n hj).1⟩)
  have hK:∀ n,KD X rec ops n0 listed c n→Kn (rec ops.size).h.next (X.cnt (rec ops.size).S) n:=fun n hn=>by
    rcases hn with hn|hn|hn
    · have:=C.next_le' (Nat.zero_le ops.size) (Nat.le_refl _)
      rw [C.next0] at this
      exact .inl (by omega)
    · exact .inl (zf5 C hn).1
    · rw [hS];exact .inr hn
  have hget:∀ n b,(rec ops.size).h.get n=some b→(hD rec ops n0 listed ops.size).get n=some b:=fun n b hb=>zos (hbd n (C.low ops.size (Nat.le_refl _) n b hb)) hb
  obtain⟨hw1,_,hw3⟩:=zfX (dst:=dstD ops) (r:=fun p=>⟨true,(rec p).v,⟨(rec p).tmps.toArray,[]⟩⟩) (a0:=⟨(rec 0).tmps.toArray,[]⟩) (n:=ops.size) rfl (fun p hp=>C.rows p hp) ops.size (Nat.le_refl _)
  simp only [List.size_toArray] at hw1 hw3
  have hslot:∀ t,t<(rec 0).tmps.length→(rec ops.size).tmps.getD t undef=ziF rec ops listed t:=fun t ht=>by
    have:=hw3 t ht
    rw [show ((rec ops.size).tmps.toArray).getD t undef=(rec ops.size).tmps.getD t undef by simp [List.getD]] at this
    rw [this]
    unfold ziF
    exact zcZ _ fun j hj _=>⟨(hall j hj).symm,rfl⟩
  refine⟨F,?_,⟨I.holds.sub hget,by rw [hS];exact I.rep,?_,fun n b hb v hv=>(I.hst n b (hget n b hb) v hv).move (Same.refl _ _) hK,fun n b hb=>⟨hK n (hD_K n b (hget n b hb)),zrB C I.nVB (hget n b hb)⟩,fun n h1 h2=>.inr ⟨h1,h2⟩,fun n hn=>?_,I.kept,fun n b hb=>I.own n b (hget n b hb),by rw [hS];exact I.fown,fun n b hb=>by rw [hS];exact I.sep n b (hget n b hb)⟩,I.same,by rw [hS];exact I.cnt⟩
  · refine zrA (by rw [I.tmps];simp [actF,hw1]) I.defers fun t ht=>?_
    have ht':t<(rec 0).tmps.length:=by rw [←I.tmps];exact ht
    rw [I.slots t ht',←hslot t ht']
    exact (zb8 F (rec ops.size).tmps (.tmp t) rfl).symm
  · intro v hv
    obtain⟨t,ht⟩:=List.mem_iff_getElem?.1 hv
    have h1:=(List.getElem?_eq_some_iff.1 ht).1
    have h2:(rec ops.size).tmps.getD t undef=v:=by simp [List.getD,ht]
    rw [hslot t (by rw [←hw1];exact h1)] at h2
    rw [←h2]
    exact (I.slot_stab t).move (Same.refl _ _) hK
  · rcases hn with hn|hn
    · have:=C.lim hn0 ops.size (Nat.le_refl _);omega
    · exact hn.2
theorem zkt (L:zk8 W ops) {listed:Array Bool} (hnil:Region.ready .any ops listed=[]):∀ i,i<ops.size→listed.getD i true=true:=by
  intro i
  induction i using Nat.strongRecOn with
  | _ i ih =>
    intro hlt
    cases hb:listed.getD i true
    · exfalso
      have:i∈Region.ready .any ops listed:=mem_ready.2 ⟨hb,_,Array.getElem?_eq_getElem hlt,fun e he hbd=>by
        have hd:=L.deps i _ (Array.getElem?_eq_getElem hlt) e.on (zqs he hbd)
        have:=ih e.on hd (by omega)
        cases hf:listed.getD e.on false
        · rcases Nat.lt_or_ge e.on listed.size with h|h
          · rw [zdj h false true,this] at hf;exact Bool.noConfusion hf
          · have hli:listed.size≤i:=by omega
            simp [Array.getElem?_eq_none hli] at hb
        · rfl⟩
      rw [hnil] at this
      cases this
    · rfl
theorem zpk {id:Nat} {k:List Item} (hB:znq W ops=true) (hst:∀ n b,hf.get n=some b→n<(rec 0).h.next∧∃ b0,b={ b0 with ro:=true }∧∀ j,j≤ops.size→j≤farU W ops.size→(rec j).h.get n=some b0) (hgood:∀ i o,ops[i]?=some o→GoodK X W ops (rec 0).h.next hf i o (rec i) (rec (i+1))) (hb0:(rec 0).born=[])
    (hcs:∀ i wr f g c zs E Q hc h1 ex v0,i<ops.size→(rec i).kind=.call wr f g c zs E Q hc h1 ex v0→X.cnt (rec i).S≤X.cnt (rec (i+1)).S∧Simul X g (fun x=>x=.done v0 h1 (rec (i+1)).S) (.run (zah g c zs).1 (zah g c zs).2 hc (rec i).S))
    (hcsD:∀ i f g c args o,ops[i]?=some o→(rec i).kind=.callD f g c args→zhm X o (evA (rec i).tmps) (rec i).h (rec i).S (rec i).v (rec (i+1)).h (rec (i+1)).S)
    (b:Frame) (cs:List Frame) (hkd:b.kind=.normal) (F:Emb) (w0 w:World) (M:Nat→Prop) (I:AInv X F w0 M (Kn (rec 0).h.next (X.cnt (rec 0).S)) (fun v=>v∈(rec 0).tmps) (rec 0).h (rec 0).S w) (hlim:(rec 0).h.next≤VB) :
    ∃ F' w' m',XSt P (G (b.at (actF F (rec 0).tmps) (.code (.region id ops true)::k)) cs) w m' w'∧zdr P F' b cs (Conf.run k (rec ops.size).tmps (rec ops.size).h (rec ops.size).S) w' m'∧InvC X F' w0 M (.run k (rec ops.size).tmps (rec ops.size).h (rec ops.size).S) w' ∧
      Same (Kn (rec 0).h.next (X.cnt (rec 0).S)) F F'∧X.cnt (rec 0).S≤X.cnt (rec ops.size).S∧(rec 0).h.next≤(rec ops.size).h.next:=by
  have L:=zm6 hB
  have hlow0:∀ n b,(rec 0).h.get n=some b→n<(rec 0).h.next:=fun n b hb=>by
    obtain⟨h1,h2⟩:=I.hk n b hb
    rcases h1 with h1|h1
    · exact h1
    · omega
  have C:Chain X W ops (rec 0).h.next hf rec:=zqI hst hgood hb0 rfl hlow0 hcs hcsD
  let Q:Exit→Act→World→Prop:=fun ex a w=>ex=.normal∧∃ F',a=actF F' (rec ops.size).tmps∧AInv X F' w0 M (Kn (rec ops.size).h.next (X.cnt (rec ops.size).S)) (fun v=>v∈(rec ops.size).tmps) (rec ops.size).h (rec ops.size).S w∧Same (Kn (rec 0).h.next (X.cnt (rec 0).S)) F F'∧X.cnt (rec 0).S≤X.cnt (rec ops.size).S
  have hend:∀ (listed:Array Bool) (a:Act) (w:World),(∀ i,i<ops.size→listed.getD i true=true)→(∃ F' e c,DInv X W ops (rec 0).h.next rec F w0 M listed a w F' e c)→Q .normal a w:=by
    intro listed a w hall hI
    refine⟨rfl,DInv.end' C hlim (fun i hi=>?_) hI⟩
    obtain⟨F',e,c,I'⟩:=hI
    rw [zdj (by rw [I'.size];exact hi) false true];exact hall i hi
  have hgo:∀ (fuel t:Nat) (listed:Array Bool) (a:Act) (w:World),zbx listed ops.size≤fuel→(∃ F' e c,DInv X W ops (rec 0).h.next rec F w0 M listed a w F' e c) →
      ∃ a' w',Q .normal a' w'∧XSt P (G (b.at a (.inRegion ops (Region.linearise.go .any ops fuel t listed [])::k)) cs) w (G (b.at a' (.inRegion ops []::k)) cs) w':=by
    intro fuel
    induction fuel with
    | zero =>
      intro t listed a w hf hI
      have hall:=zcJ ops.size (Nat.le_zero.1 hf)
      exact⟨a,w,hend listed a w hall hI,.refl⟩
    | succ fuel ih =>
      intro t listed a w hf hI
      simp only [Region.linearise.go]
      change ∃ a' w',Q .normal a' w'∧XSt P (G (b.at a (.inRegion ops (match (Region.ready .any ops listed)[t % (Region.ready .any ops listed).length]? with
        | some i=>Region.linearise.go .any ops fuel (t / (Region.ready .any ops listed).length) (listed.setIfInBounds i true) [i]
        | none=>[].reverse)::k)) cs) w (G (b.at a' (.inRegion ops []::k)) cs) w'
      cases hi:(Region.ready .any ops listed)[t % (Region.ready .any ops listed).length]? with
      | none =>
        have hnil:Region.ready .any ops listed=[]:=by
          cases hr:Region.ready .any ops listed with
          | nil=>rfl
          | cons x xs =>
            rw [hr] at hi
            have hlt:t % (x::xs).length<(x::xs).length:=Nat.mod_lt _ (by simp)
            simp at hi
            simp at hlt
            omega
        exact⟨a,w,hend listed a w (zkt L hnil) hI,.refl⟩
      | some i =>
        simp only []
        rw [linearise_go_acc,List.reverse_singleton,List.singleton_append]
        have hir:i∈Region.ready .any ops listed:=List.mem_of_getElem? hi
        obtain⟨a1,w1,hI1,hs1⟩:=zoq (rest:=Region.linearise.go .any ops fuel (t / (Region.ready .any ops listed).length) (listed.setIfInBounds i true) []) (k:=k) (cs:=cs) C L hkd hI hir
        obtain⟨a2,w2,hQ,hs2⟩:=ih (t / (Region.ready .any ops listed).length) _ a1 w1 (by
          obtain⟨hun,o,ho,_⟩:=mem_ready.1 hir
          have hlt:=(Array.getElem?_eq_some_iff.1 ho).1
          obtain⟨F',e,c,I'⟩:=hI
          have:=zbZ hun ops.size hlt (by rw [I'.size];exact hlt)
          omega) hI1
        exact⟨a2,w2,hQ,hs1.trans hs2⟩
  have hno:∀ i,(Array.replicate ops.size false).getD i false=false:=fun i=>by
    rcases Nat.lt_or_ge i ops.size with h|h<;>simp [h]
  have hbn:∀ n,zeA rec ops (Array.replicate ops.size false) n=false:=fun n=>by
    cases h:zeA rec ops (Array.replicate ops.size false) n with
    | false=>rfl
    | true=>obtain⟨j,_,h2⟩:=zcb.1 h;rw [hno] at h2;cases h2
  obtain⟨e,_,he2,he3,he4⟩:=zkK (wrB W) ops ops.size 0 (by omega)
  have hKn:∀ n,Kn (rec 0).h.next (X.cnt (rec 0).S) n→KD X rec ops (rec 0).h.next (Array.replicate ops.size false) 0 n:=fun n hn=>by
    rcases hn with hn|hn
    · exact .inl hn
    · exact .inr (.inr hn)
  have hget:∀ n b,(hD rec ops (rec 0).h.next (Array.replicate ops.size false) e).get n=some b→(rec 0).h.get n=some b:=fun n b hb=>by
    obtain⟨h1,h2⟩:=zjT hb
    rw [hbn] at h1
    have h1:n<(rec 0).h.next:=by rcases h1 with h|h;exact h;cases h
    rw [C.stays' (Nat.zero_le e) he2 (fun j o _ h hj=>he3 j o (Nat.zero_le _) h hj) h1] at h2
    exact h2
  have hdr:Kept w0 M w.drew:=⟨I.kept.os,I.kept.tape,I.kept.output,I.kept.size,I.kept.block⟩
  have hH:Holds F (rec 0).h w.drew:=⟨I.holds.row,I.holds.apart⟩
  have hD0:DInv X W ops (rec 0).h.next rec F w0 M (Array.replicate ops.size false) (actF F (rec 0).tmps) w.drew F e 0:=by
    refine⟨by simp,fun i o _ hl=>(by rw [hno] at hl;cases hl),by simp [actF],rfl,fun t ht=>?_,fun j hj=>(by rw [hno] at hj;cases hj),fun v hv=>(I.vst v hv).move (Same.refl _ _) hKn,he2,fun i o h1 h2 h3=>(by rw [he3 i o (Nat.zero_le _) h1 h2] at h3;cases h3),fun i o _ _ _=>hno i,he4,
      Nat.zero_le _,fun i o h=>(by omega),fun i o _ _ _=>hno i,hH.sub hget,hlim,fun n b hb v hv=>(I.hst n b (hget n b hb) v hv).move (Same.refl _ _) hKn,X.rep_kept _ _ _ _ I.rep (Nat.le_refl _) (fun _ _=>rfl),hdr,fun n b hb=>I.own n b (hget n b hb),I.fown,fun n b hb=>I.sep n b (hget n b hb),Same.refl _ _,Nat.le_refl _⟩
    have:∀ n,zbK (dstD ops) (fun j=>(rec j).v) (fun j=>(Array.replicate ops.size false).getD j false) ⟨(rec 0).tmps.toArray,[]⟩ t n=(rec 0).tmps.getD t undef:=by
      intro n
      induction n with
      | zero=>simp [zbK,List.getD]
      | succ n ih=>rw [zbK,if_neg,ih];rintro ⟨h1,_⟩;rw [hno] at h1;cases h1
    unfold ziF
    rw [this]
    exact zb8 F (rec 0).tmps (.tmp t) rfl
  obtain⟨a',w',⟨_,F',rfl,I',hs,hc⟩,hst⟩:=hgo ops.size (w.tape w.drawn (.order b.fn id)) _ _ _ (zc2 _ _) ⟨F,e,0,hD0⟩
  have hdraw:=zr0 (P:=P) (b:=b) (a:=actF F (rec 0).tmps) (k:=k) (cs:=cs) (ops:=ops) (id:=id) w
  rw [show Region.schedule (P.follows .mixedOrders) ops (w.tape w.drawn (.order b.fn id))=Region.linearise.go .any ops ops.size (w.tape w.drawn (.order b.fn id)) (Array.replicate ops.size false) [] by
    simp only [Region.schedule,X.mix,Bool.true_or,if_true];rfl] at hdraw
  exact⟨F',w',_,.head hdraw (hst.trans (.one (zcB rfl (fun _ _=>stepG_region_end) w'))),rfl,⟨I',C.lim hlim ops.size (Nat.le_refl _)⟩,hs,hc,C.next_le' (Nat.zero_le _) (Nat.le_refl _)⟩
theorem zkr {o:Oper} {e:Operand→Value} {h h':AHeap} {S S':σ} {v:Value} (H:Op0 X o e h S v h' S'):X.cnt S≤X.cnt S':=(zhE H).2.1
theorem Goes.cnt' {fn:Func} {A:Conf σ→Prop} {c:Conf σ} (G:Goes X fn A c):∃ c',A c'∧X.cnt (st c)≤X.cnt (st c'):=by
  induction G with
  | here h=>exact⟨_,h,Nat.le_refl _⟩
  | ctl _ _ ih=>exact ih
  | ret _ _ _ ih=>exact ih
  | skip _ _ _ ih=>exact ih
  | op _ _ _ hop _ _ ih =>
    obtain⟨c',h1,h2⟩:=ih
    exact⟨c',h1,Nat.le_trans (zkr hop) h2⟩
  | call _ _ _ _ _ _ _ _ _ _ _ _ _ _ _ _ _ ihc ih =>
    obtain⟨c',h1,h2⟩:=ih
    obtain⟨c2,rfl,h4⟩:=ihc
    exact⟨c',h1,Nat.le_trans h4 h2⟩
  | callD _ _ _ _ _ _ _ _ _ _ _ _ _ _ _ _ ihc ih =>
    obtain⟨c',h1,h2⟩:=ih
    obtain⟨c2,rfl,h4⟩:=ihc
    exact⟨c',h1,Nat.le_trans h4 h2⟩
  | @draw fn A id ops k tmps h S W rec hB h0 hf hstill hgood hcalls hcallsD hk ihc ihd ih =>
    obtain⟨c',h1,h2⟩:=ih
    refine⟨c',h1,Nat.le_trans ?_ h2⟩
    obtain⟨_,_,rfl,_⟩:=h0
    have key:∀ i,i≤ops.size→X.cnt (rec 0).S≤X.cnt (rec i).S:=by
      intro i
      induction i with
      | zero=>exact fun _=>Nat.le_refl _
      | succ i ih' =>
        intro hi
        refine Nat.le_trans (ih' (by omega)) ?_
        have ho:ops[i]?=some ops[i]:=Array.getElem?_eq_getElem (by omega)
        have hg:=(hgood i _ ho).2
        split at hg
        · rw [hg.2.2.2.1];exact Nat.le_refl _
        · obtain⟨_,_,_,_,_,_,hg,_⟩:=hg
          rw [hg];exact Nat.le_refl _
        · obtain⟨_,_,_,_,_,hg⟩:=hg
          split at hg
          · exact zkr hg.2
          · obtain⟨_,hv,hg,_⟩:=hg
            exact zkr hg
        · rename_i hkind
          obtain⟨c2,rfl,h4⟩:=ihc i _ _ _ _ _ _ _ _ _ _ _ (by omega) hkind
          exact h4
        · rename_i hkind
          obtain⟨c2,rfl,h4⟩:=ihd i _ _ _ _ (by omega) hkind
          exact h4
    exact key ops.size (Nat.le_refl _)
  | weak _ _ _ ih=>exact ih
  | raise _ _ _ _ ih=>exact ih
theorem Goes.cnt {fn:Func} {c:Conf σ} {v:Value} {h1:AHeap} {S':σ} (G:Goes X fn (fun x=>x=.done v h1 S') c):X.cnt (st c)≤X.cnt S':=by
  obtain⟨c',rfl,h⟩:=G.cnt'
  exact h
theorem zpR {fn:Func} {ops:Array Oper} {i:Nat} {rest:List Nat} {k:List Item} {tmps:List Value} {h h':AHeap} {S S':σ} {o:Oper} {v:Value} (ho:ops[i]?=some o) (hw:Region.wanted o (zai ops tmps)=true) (hb':o.op.operands.all zaP=true) (hl:h'.next=h.next∨h'.next≤VB) (hsem:OpSem X o (evA tmps) h S v h' S')
    (b:Frame) (cs:List Frame) (F:Emb) (w0 w:World) (M:Nat→Prop) (m:Goroutine) (_:P.funcs[b.fn]?=some fn) (hkd:b.kind=.normal) (hS:zdr P F b cs (.run (.inRegion ops (i::rest)::k) tmps h S) w m) (hI:InvC X F w0 M (.run (.inRegion ops (i::rest)::k) tmps h S) w) :
    ∃ F' w' m',XSt P m w m' w'∧zdr P F' b cs (.run (.inRegion ops rest::k) (putL o.dst v tmps) h' S') w' m'∧InvC X F' w0 M (.run (.inRegion ops rest::k) (putL o.dst v tmps) h' S') w'∧Same (Kn h.next (X.cnt S)) F F'∧X.cnt S≤X.cnt S'∧h.next≤h'.next:=by
  subst hS
  obtain⟨I,hlim⟩:=hI
  have I:AInv X F w0 M (Kn h.next (X.cnt S)) (fun v=>v∈tmps) h S w:=I
  obtain⟨hn,hcn,_,hsem⟩:=hsem
  have hlim:h.next≤VB:=hlim
  have hl:h'.next≤VB:=by omega
  have hop:∀ x∈o.op.operands,zaP x=true:=fun x hx=>by simpa using (Array.all_eq_true_iff_forall_mem.1 hb') x hx
  have hmain:=hsem (Kn h.next (X.cnt S)) F w0 w M (actF F tmps).eval (fun x h1 h2=>⟨fun hk=>by
    rcases hk with hk|hk
    · omega
    · omega,by omega⟩) (fun x hx=>zb8 F tmps x (hop x hx)) (I.vals' (by rintro _ ⟨x,hx,rfl⟩;exact zfP I.vst x (hop x hx)))
  obtain⟨u,w',⟨F',rfl,hs,J⟩,hst⟩:=OpWp.steps (b:=b) (rest:=rest) (k:=k) (cs:=cs) hkd ho (by rw [zdh];exact hw) hmain
  rw [←zbw I.vst hs,zdt,zbw I.vst hs] at hst
  have hKK:∀ x,KAdd (Kn h.next (X.cnt S)) h.next h'.next (X.cnt S) (X.cnt S') x→Kn h'.next (X.cnt S') x:=fun x hx=>by
    rcases hx with (hx|hx)|hx|hx
    · exact .inl (by omega)
    · exact .inr ⟨hx.1,by omega⟩
    · exact .inl hx.2
    · exact .inr ⟨by omega,hx.2⟩
  have J2:=J.kmono hKK (fun x hx=>by
    rcases hx with hx|hx
    · omega
    · exact hx.2)
  refine⟨F',w',_,hst,rfl,⟨J2.vals' (zcY (fun u hu=>(I.vst u hu).move hs (fun x hx=>hKK x (.inl hx))) (J2.vst _ rfl) o.dst),hl⟩,hs,hcn,hn⟩
theorem Stab.func {K:Nat→Prop} {F:Emb} {fn:Fn} {xs ys:Array Value} (h:Stab K F (.func fn xs ys)):(∀ u∈xs,Stab K F u)∧∀ u∈ys,Stab K F u:=by
  have key:∀ F',Same K F F'→xs.map (ren F')=xs.map (ren F)∧ys.map (ren F')=ys.map (ren F):=fun F' hs=>by
    have:=h F' hs
    simp only [zbN,Value.func.injEq,true_and] at this
    exact this
  have one:∀ (zs:Array Value) (F':Emb),zs.map (ren F')=zs.map (ren F)→∀ u∈zs,ren F' u=ren F u:=fun zs F' he u hu=>by
    obtain⟨i,hi,rfl⟩:=Array.mem_iff_getElem.1 hu
    have h1:=congrArg (fun a:Array Value=>a[i]?) he
    simpa [hi] using h1
  exact⟨fun u hu F' hs=>one xs F' (key F' hs).1 u hu,fun u hu F' hs=>one ys F' (key F' hs).2 u hu⟩
theorem zfM {K:Nat→Prop} {F:Emb} {e:Operand→Value} {o:Op} {f:FuncId} {args:Array Value} (hs:∀ x∈o.operands,Stab K F (e x)) (hv:zaN P e o=some (f,args)):∀ u∈args,Stab K F u:=by
  unfold zaN at hv
  split at hv
  · rename_i g zs ats
    split at hv
    · rename_i k xs ys hg
      cases hv
      have h1:=hs g (by simp [Op.operands,Call.operands])
      rw [hg] at h1
      intro u hu
      rcases Array.mem_append.1 hu with hu|hu
      · rcases Array.mem_append.1 hu with hu|hu
        · exact (Stab.func h1).1 u hu
        · obtain⟨x,hx,rfl⟩:=Array.mem_map.1 hu
          exact hs x (by simp [Op.operands,Call.operands,hx])
      · exact (Stab.func h1).2 u hu
    · rename_i name xs ys hg
      split at hv
      · rename_i t p hx
        split at hv
        · cases hv
          have h1:=hs g (by simp [Op.operands,Call.operands])
          rw [hg] at h1
          obtain rfl:xs=#[.iface t (.pointer p)]:=by rw [←Array.toArray_toList (xs:=xs),hx]
          have h2:=(Stab.func h1).1 (.iface t (.pointer p)) (by simp)
          intro u hu
          rcases Array.mem_append.1 hu with hu|hu
          · simp only [List.mem_toArray,List.mem_singleton] at hu
            subst hu
            intro F' hF
            have:=h2 F' hF
            simpa using this
          · obtain⟨x,hx,rfl⟩:=Array.mem_map.1 hu
            exact hs x (by simp [Op.operands,Call.operands,hx])
        · cases hv
      · cases hv
    · cases hv
  · rename_i r name zs ats
    split at hv
    · rename_i t p hr
      split at hv
      · cases hv
        have h1:=hs r (by simp [Op.operands,Call.operands])
        rw [hr] at h1
        intro u hu
        rcases Array.mem_append.1 hu with hu|hu
        · simp only [List.mem_toArray,List.mem_singleton] at hu
          subst hu
          intro F' hF
          have:=h1 F' hF
          simpa using this
        · obtain⟨x,hx,rfl⟩:=Array.mem_map.1 hu
          exact hs x (by simp [Op.operands,Call.operands,hx])
      · cases hv
    · cases hv
  · cases hv
theorem zoe {o:Oper} {e:Operand→Value} {h h1:AHeap} {S S1:σ} {v:Value} {f:FuncId} {g:Func} {c:Code} {args:Array Value} (hop:∀ x∈o.op.operands,zaP x=true) (hca:zaN P e o.op=some (f,args)) (hf:P.funcs[f]?=some g) (hg:goB g=true) (hbd:g.body=some c)
    (hle:h.next≤h1.next) (hcn:X.cnt S≤X.cnt S1) (hrun:Simul X g (fun x=>x=.done v h1 S1) (.run (zah g c args).1 (zah g c args).2 h S)):zhm X o e h S v h1 S1:=by
  refine⟨hle,hcn,fun F w0 w M ρ hlim hρ I=>?_⟩
  have hst:∀ x∈o.op.operands,Stab (Kn h.next (X.cnt S)) F (e x):=fun x hx=>I.vst _ ⟨x,hx,rfl⟩
  have hgo:=hg
  unfold goB at hgo
  rw [Bool.and_eq_true] at hgo
  have hcall:=zeh (P:=P) (ρ:=ρ) (F:=F) (w:=w) hρ hca hf hgo.1 (by simpa using hgo.2)
  have Ic:AInv X F w (fun b=>(∃ n bb,h.get n=some bb∧bb.ro=false∧F.blk n=b)∨X.fp F S b) (Kn h.next (X.cnt S)) (fun u=>u∈(zah g c args).2) h S w:=by
    refine⟨I.holds,I.rep,fun u hu=>?_,I.hst,I.hk,I.hand,I.klim,Kept.refl _ _,fun n b hb hro _=>.inl ⟨n,b,hb,hro,rfl⟩,fun b hb _=>.inr hb,I.sep⟩
    simp only [zah,List.mem_append] at hu
    rcases hu with hu|hu
    · exact zfM hst hca u (by simpa using hu)
    · rw [List.eq_of_mem_replicate hu];exact Stab.undef
  have hcalls:TCalls P f (args.map (ren F)) w fun e w'=>∃ u,e=.returned u∧∃ F',u=ren F' v∧AInv X F' w (fun b=>(∃ n bb,h.get n=some bb∧bb.ro=false∧F.blk n=b)∨X.fp F S b) (Kn h1.next (X.cnt S1)) (fun u=>u∈[v]) h1 S1 w'∧Same (Kn h.next (X.cnt S)) F F':=by
    intro cs
    let b:Frame:={ (default:Frame) with fn:=f,kind:=.normal }
    have henter:Frame.enter P f (args.map (ren F)) .normal=b.at (actF F (zah g c args).2) (zah g c args).1:=by
      simp [Frame.enter,Frame.at,hf,hbd,b,actF,zah,zaY]
    obtain⟨c',F',w',m',hA,hst,hS,hI,hs,hcn,hnx⟩:=hrun b cs F w w _ _ hf rfl rfl ⟨Ic,hlim⟩
    subst hA
    obtain⟨fr,rfl,hfn,hleave⟩:=hS
    exact⟨.returned (ren F' v),w',fr,⟨_,rfl,F',rfl,hI.1,hs⟩,by rw [henter];exact hst,hfn,hleave⟩
  have hM:∀ b,b<w0.heap.size→((∃ n bb,h.get n=some bb∧bb.ro=false∧F.blk n=b)∨X.fp F S b)→M b:=fun b hb hm=>by
    rcases hm with ⟨n,bb,k1,k2,rfl⟩|hm
    · exact I.own n bb k1 k2 hb
    · exact I.fown b hm hb
  refine OpWp.mono ⟨zcn (zdO hρ hca hf hgo.1 (by simpa using hgo.2)),.inr ⟨f,_,w,hcall,hcalls⟩⟩ fun u w' hu=>?_
  obtain⟨F',rfl,J,hs⟩:=hu
  refine⟨F',rfl,hs,?_⟩
  rw [zrR hle hcn]
  exact⟨J.holds,J.rep,fun u hu=>J.vst u (by rw [hu];simp),J.hst,J.hk,J.hand,J.klim,I.kept.trans J.kept hM,fun n b hb hro hlt=>hM _ hlt (J.own n b hb hro (Nat.lt_of_lt_of_le hlt I.kept.size)),fun b hb hlt=>hM b hlt (J.fown b hb (Nat.lt_of_lt_of_le hlt I.kept.size)),J.sep⟩
theorem znB {fn:Func} {ops:Array Oper} {i:Nat} {rest:List Nat} {k:List Item} {tmps:List Value} {h h1:AHeap} {S S1:σ} {o:Oper} {v:Value} {f:FuncId} {g:Func} {c:Code} {args:Array Value} (ho:ops[i]?=some o) (hw:Region.wanted o (zai ops tmps)=true) (hb':o.op.operands.all zaP=true) (hca:zaN P (evA tmps) o.op=some (f,args)) (hf:P.funcs[f]?=some g) (hg:goB g=true) (hbd:g.body=some c)
    (hrun:Simul X g (fun x=>x=.done v h1 S1) (.run (zah g c args).1 (zah g c args).2 h S))
    (b:Frame) (cs:List Frame) (F:Emb) (w0 w:World) (M:Nat→Prop) (m:Goroutine) (_:P.funcs[b.fn]?=some fn) (hkd:b.kind=.normal) (hS:zdr P F b cs (.run (.inRegion ops (i::rest)::k) tmps h S) w m) (hI:InvC X F w0 M (.run (.inRegion ops (i::rest)::k) tmps h S) w) :
    ∃ F' w' m',XSt P m w m' w'∧zdr P F' b cs (.run (.inRegion ops rest::k) (putL o.dst v tmps) h1 S1) w' m'∧InvC X F' w0 M (.run (.inRegion ops rest::k) (putL o.dst v tmps) h1 S1) w'∧Same (Kn h.next (X.cnt S)) F F'∧X.cnt S≤X.cnt S1∧h.next≤h1.next:=by
  subst hS
  obtain⟨I,hlim⟩:=hI
  have I:AInv X F w0 M (Kn h.next (X.cnt S)) (fun v=>v∈tmps) h S w:=I
  have hlim:h.next≤VB:=hlim
  have hop:∀ x∈o.op.operands,zaP x=true:=fun x hx=>by simpa using (Array.all_eq_true_iff_forall_mem.1 hb') x hx
  have hst:∀ x∈o.op.operands,Stab (Kn h.next (X.cnt S)) F (evA tmps x):=fun x hx=>zfP I.vst x (hop x hx)
  have hgo:=hg
  unfold goB at hgo
  rw [Bool.and_eq_true] at hgo
  have hcall:=zeh (P:=P) (ρ:=(actF F tmps).eval) (F:=F) (w:=w) (fun x hx=>zb8 F tmps x (hop x hx)) hca hf hgo.1 (by simpa using hgo.2)
  have Ic:AInv X F w (fun b=>(∃ n bb,h.get n=some bb∧bb.ro=false∧F.blk n=b)∨X.fp F S b) (Kn h.next (X.cnt S)) (fun u=>u∈(zah g c args).2) h S w:=by
    refine⟨I.holds,I.rep,fun u hu=>?_,I.hst,I.hk,I.hand,I.klim,Kept.refl _ _,fun n b hb hro _=>.inl ⟨n,b,hb,hro,rfl⟩,fun b hb _=>.inr hb,I.sep⟩
    simp only [zah,List.mem_append] at hu
    rcases hu with hu|hu
    · exact zfM hst hca u (by simpa using hu)
    · rw [List.eq_of_mem_replicate hu];exact Stab.undef
  have hcalls:TCalls P f (args.map (ren F)) w fun e w'=>∃ u,e=.returned u∧∃ F',u=ren F' v∧AInv X F' w (fun b=>(∃ n bb,h.get n=some bb∧bb.ro=false∧F.blk n=b)∨X.fp F S b) (Kn h1.next (X.cnt S1)) (fun u=>u∈[v]) h1 S1 w'∧Same (Kn h.next (X.cnt S)) F F'∧X.cnt S≤X.cnt S1∧h.next≤h1.next∧h1.next≤VB:=by
    intro cs
    let b:Frame:={ (default:Frame) with fn:=f,kind:=.normal }
    have henter:Frame.enter P f (args.map (ren F)) .normal=b.at (actF F (zah g c args).2) (zah g c args).1:=by
      simp [Frame.enter,Frame.at,hf,hbd,b,actF,zah,zaY]
    obtain⟨c',F',w',m',hA,hst,hS,hI,hs,hcn,hnx⟩:=hrun b cs F w w _ _ hf rfl rfl ⟨Ic,hlim⟩
    subst hA
    obtain⟨fr,rfl,hfn,hleave⟩:=hS
    exact⟨.returned (ren F' v),w',fr,⟨_,rfl,F',rfl,hI.1,hs,hcn,hnx,hI.2⟩,by rw [henter];exact hst,hfn,hleave⟩
  obtain⟨u,w',⟨F',rfl,J,hs,hcn,hnx,hl1⟩,hst2⟩:=OpWp.steps (b:=b) (rest:=rest) (k:=k) (cs:=cs) (a:=actF F tmps) (w:=w) hkd ho (by rw [zdh];exact hw) ⟨zcn (zdO (F:=F) (fun x hx=>zb8 F tmps x (hop x hx)) hca hf hgo.1 (by simpa using hgo.2)),.inr ⟨f,_,w,hcall,hcalls⟩⟩
  rw [←zbw I.vst hs,zdt,zbw I.vst hs] at hst2
  have hKK:∀ x,Kn h.next (X.cnt S) x→Kn h1.next (X.cnt S1) x:=fun x hx=>by
    rcases hx with hx|hx
    · exact .inl (by omega)
    · exact .inr ⟨hx.1,by omega⟩
  have hM:∀ b,b<w0.heap.size→((∃ n bb,h.get n=some bb∧bb.ro=false∧F.blk n=b)∨X.fp F S b)→M b:=fun b hb hm=>by
    rcases hm with ⟨n,bb,k1,k2,rfl⟩|hm
    · exact I.own n bb k1 k2 hb
    · exact I.fown b hm hb
  refine⟨F',w',_,hst2,rfl,⟨⟨J.holds,J.rep,zcY (fun u hu=>(I.vst u hu).move hs hKK) (J.vst v (by simp)) o.dst,J.hst,J.hk,J.hand,J.klim,I.kept.trans J.kept hM,fun n b hb hro hlt=>hM _ hlt (J.own n b hb hro (Nat.lt_of_lt_of_le hlt I.kept.size)),fun b hb hlt=>hM b hlt (J.fown b hb (Nat.lt_of_lt_of_le hlt I.kept.size)),J.sep⟩,hl1⟩,hs,hcn,hnx⟩
theorem Goes.simul {fn:Func} {A:Conf σ→Prop} {c:Conf σ} (G:Goes X fn A c):Simul X fn A c:=by
  induction G with
  | here h=>exact fun b cs F w0 w M m hb hkd hS hI=>⟨_,F,w,m,h,.refl,hS,hI,.refl _ _,Nat.le_refl _,Nat.le_refl _⟩
  | ctl hc hk ih =>
    refine ih.step fun b cs F w0 w M m hb hkd hS hI=>?_
    subst hS
    exact⟨F,w,_,.one (zqe F hc b cs w),rfl,hI,.refl _ _,Nat.le_refl _,Nat.le_refl _⟩
  | @ret fn A todo tmps h S v ht hv hk ih =>
    refine ih.step fun b cs F w0 w M m hb hkd hS hI=>?_
    subst hS
    obtain⟨I,hlim⟩:=hI
    have I:AInv X F w0 M (Kn h.next (X.cnt S)) (fun v=>v∈tmps) h S w:=I
    have hres:=zlr I.holds hv
    have hstab:Stab (Kn h.next (X.cnt S)) F v:=by
      intro F' hs
      have h2:=zlr (I.holds.same (fun n b hb=>(I.hk n b hb).1) I.hst hs) hv
      rw [zbw I.vst hs,hres] at h2
      simpa using h2.symm
    have hI2:InvC X F w0 M (.done v h S) w:=⟨I.vals' (fun u hu=>by rw [List.mem_singleton.1 hu];exact hstab),hlim⟩
    have hlv:∀ todo,zdr P F b cs (.done v h S) w (G { b.at (actF F tmps) todo with mode:=.returning } cs) :=
      fun todo=>⟨_,rfl,rfl,rfl,rfl,hkd,fn,hb,hres⟩
    unfold retB at ht
    split at ht
    · exact⟨F,w,_,.one (zcB rfl (fun _ _=>stepG_end) w),hlv _,hI2,.refl _ _,Nat.le_refl _,Nat.le_refl _⟩
    · exact⟨F,w,_,.one (zcB rfl (fun _ _=>stepG_ret') w),hlv _,hI2,.refl _ _,Nat.le_refl _,Nat.le_refl _⟩
    · cases ht
  | @skip fn A ops i rest k tmps h S o ho hw hk ih =>
    refine ih.step fun b cs F w0 w M m hb hkd hS hI=>?_
    subst hS
    obtain⟨I,hlim⟩:=hI
    have I:AInv X F w0 M (Kn h.next (X.cnt S)) (fun v=>v∈tmps) h S w:=I
    have hst:=zgY (P:=P) (b:=b) (a:=actF F tmps) (k:=k) (cs:=cs) (ops:=ops) (i:=i) (rest:=rest) ho (by rw [zdh];exact hw) w
    rw [zne] at hst
    exact⟨F,w,_,.one hst,rfl,⟨I.vals' (zcY I.vst Stab.undef o.dst),hlim⟩,.refl _ _,Nat.le_refl _,Nat.le_refl _⟩
  | op ho hw hb' hop hl hk ih =>
    exact ih.step (zpR ho hw hb' hl (zhE hop))
  | call f g c zs E Q hc h1 ex v0 ho hw hb' hok hl hrun0 hk ihc ih =>
    exact ih.step (zpR ho hw hb' hl (zgz hok hrun0.cnt ihc))
  | callD f g c args v h1 S1 ho hw hb' hca hf hg hbd hrun hk ihc ih =>
    exact ih.step (znB ho hw hb' hca hf hg hbd ihc)
  | @draw fn A id ops k tmps h S W rec hB h0 hf hstill hgood hcalls hcallsD hk ihc ihd ih =>
    obtain⟨rfl,rfl,rfl,hb0⟩:=h0
    refine ih.step fun b cs F w0 w M m hb hkd hS hI=>?_
    subst hS
    refine zpk hB hstill hgood hb0 (fun i wr f g c zs E Q hc h1 ex v0 hi hk=>⟨(hcalls i wr f g c zs E Q hc h1 ex v0 hi hk).cnt,ihc i wr f g c zs E Q hc h1 ex v0 hi hk⟩) (fun i f g c args o ho hk=>?_) b cs hkd F w0 w M hI.1 hI.2
    have hi:=(Array.getElem?_eq_some_iff.1 ho).1
    have hg:=(hgood i o ho).2
    rw [hk] at hg
    obtain⟨_,_,g3,_,_,_,g7,_,g9,g10,g11,g12⟩:=hg
    exact zoe (fun x hx=>by simpa using (Array.all_eq_true_iff_forall_mem.1 g3) x hx) g9 g10 g11 g12 g7 (hcallsD i f g c args hi hk).cnt (ihd i f g c args hi hk)
  | @raise fn A todo tmps h h0 S hg hn hl hk ih =>
    refine ih.step fun b cs F w0 w M m hb hkd hS hI=>?_
    subst hS
    obtain⟨I,hlim⟩:=hI
    have I:AInv X F w0 M (Kn h.next (X.cnt S)) (fun v=>v∈tmps) h S w:=I
    have hlim:h.next≤VB:=hlim
    have I2:=I.kmono (K':=Kn h0.next (X.cnt S)) (fun x hx=>by
      rcases hx with hx|hx
      · exact .inl (by omega)
      · exact .inr hx) (fun x hx=>by
      rcases hx with hx|hx
      · omega
      · exact hx.2)
    have J:AInv X F w0 M (Kn h0.next (X.cnt S)) (fun v=>v∈tmps) h0 S w:=by
      obtain⟨g,n⟩:=h
      obtain⟨g0,n0⟩:=h0
      obtain rfl:g0=g:=hg
      exact⟨⟨I2.holds.row,I2.holds.apart⟩,I2.rep,I2.vst,I2.hst,I2.hk,I2.hand,I2.klim,I2.kept,I2.own,I2.fown,I2.sep⟩
    exact⟨F,w,_,.refl,rfl,⟨J,hl⟩,.refl _ _,Nat.le_refl _,hn⟩
  | @weak fn A todo tmps h h0 S hs hn hk ih =>
    refine ih.step fun b cs F w0 w M m hb hkd hS hI=>?_
    subst hS
    obtain⟨I,hlim⟩:=hI
    have I:AInv X F w0 M (Kn h.next (X.cnt S)) (fun v=>v∈tmps) h S w:=I
    have hlim:h.next≤VB:=hlim
    have J:AInv X F w0 M (Kn h0.next (X.cnt S)) (fun v=>v∈tmps) h0 S w:=by
      rw [hn]
      refine⟨⟨fun n b hb=>?_,fun n m b c hb hc hne hro=>?_⟩,I.rep,I.vst,fun n b hb v hv=>?_,fun n b hb=>?_,I.hand,I.klim,I.kept,fun n b hb hro hlt=>?_,I.fown,fun n b hb=>?_⟩
      · obtain⟨b',k1,k2,k3,k4,k5⟩:=hs n b hb
        obtain⟨pre,post,fr,g1,g2,g3,g4,g5⟩:=I.holds.row n b' k1
        rw [k2,k3] at g1
        refine⟨pre,post,fr,g1,g2,fun h=>g3 (k4 h),fun h=>g4 ?_,fun s h=>g5 s ?_⟩
        · rcases k5 with k5|k5
          · rw [←k5];exact h
          · rw [h] at k5;cases k5
        · rcases k5 with k5|k5
          · rw [←k5];exact h
          · rw [h] at k5;cases k5
      · obtain⟨b',k1,_,_,k4,_⟩:=hs n b hb
        obtain⟨c',k1',_⟩:=hs m c hc
        exact I.holds.apart n m b' c' k1 k1' hne (k4 hro)
      · obtain⟨b',k1,k2,_⟩:=hs n b hb
        exact I.hst n b' k1 v (by rw [k2];exact hv)
      · obtain⟨b',k1,_⟩:=hs n b hb
        exact I.hk n b' k1
      · obtain⟨b',k1,_,_,k4,_⟩:=hs n b hb
        exact I.own n b' k1 (k4 hro) hlt
      · obtain⟨b',k1,_⟩:=hs n b hb
        exact I.sep n b' k1
    exact⟨F,w,_,.refl,rfl,⟨J,by show h0.next≤VB;omega⟩,.refl _ _,Nat.le_refl _,Nat.le_of_eq hn.symm⟩
end
end Go.Proofs.Ytjhmhoapgbfgpaa
