/-
  Each call that is known does what is said of it, in every world.
  No condition: laws.
-/
import Derived.Test.YtgndgbnhkoppmaaUPm3
import Derived.Test.YtgndgbnhkoppmaaUThr15
import Derived.Conc.SmallLaws
set_option maxHeartbeats 40000000
set_option linter.unusedVariables false
set_option linter.unusedSimpArgs false
namespace Go.Proofs.Ytgndgbnhkoppmaa
open Go Go.RowKit
section
variable {mn:Bool} {OB WB:Nat->Prop} {F F':Emb} {S:St} {w w':World}
theorem ze3 {v:Value} (R:Rep mn OB WB F S w) (K:Kept w (fun _=>False) w') (hv:zac v=true):zca mn OB WB F S w S v (.returned v) w' :=
  ⟨F,Same.refl _ _,by rw [zaC _ hv],R.kept K.size fun b ⟨k,ob,hk,hb⟩=>K.block b (by
    obtain⟨c,el,fr,h1⟩:=zfa (R.at' k ob hk) b hb;exact zab h1) id,⟨K.os,K.tape,K.output,K.size,fun b hl _=>K.block b hl id⟩,fun b hb=>.inl hb⟩
theorem zgz {f:FuncId} {args:Array Value} {l:List (Option Blk)} {v:Value} {Ft:Emb} (D:ReadsI f args l v) (hH:Holds Ft (zar l) w) (hst:∀ u∈args,Clo (Kn l.length 0) u) (hc:∀ n b,(zar l).get n=some b->∀ u∈b.cells,Clo (Kn l.length 0) u) (hl:l.length<=VB) (hro:∀ n b,(zar l).get n=some b->b.ro=true) (hv:zac v=true) :
    TCalls Try.prog f (args.map (ren Ft)) w fun e w'=>e=.returned v/\Kept w (fun _=>False) w':=by
  obtain⟨g,c,h1,h2,G⟩:=D;refine (zfx (Q:=fun v' _=>v'=v) h1 h2 G (fun x ⟨h',hx⟩=>⟨v,h',hx,rfl⟩) hH (fun u hu=>(hst u hu).stab Ft) (fun n b hb u hu=>(hc n b hb u hu).stab Ft) hl).mono fun e w' ⟨v',h',Ft',e1,e2,_,_,e6,_⟩=>?_;subst e2;exact⟨by rw [e1,zaC _ hv],⟨e6.os,e6.tape,e6.output,e6.size,fun b hb _=>e6.block b hb fun⟨n,bb,z1,z2,_⟩=>by rw [hro n bb z1] at z2;cases z2⟩⟩
theorem zoR {f:FuncId} {args:Array Value} {v:Value} (R:Rep mn OB WB F S w) (D:zpB f args v) (ha:args.all zac=true) (hv:zac v=true):TCalls Try.prog f (args.map (ren F)) w (zca mn OB WB F S w S v):=by
  rw [zcl F ha];refine (D w).mono fun e w' ⟨e1,K⟩=>?_;rw [e1];exact ze3 R K hv
theorem zqO {f:FuncId} {args:Array Value} {l l':List Blk} {v:Value} {Ft:Emb} (D:DoesI f args l v l') (hH:Holds Ft (zar (l.map some)) w) (hl:l.length<=VB) (hro:l.all (·.ro)=true) (hv:zac v=true) :
    TCalls Try.prog f (args.map (ren Ft)) w fun e w'=>e=.returned v/\Kept w (fun _=>False) w' :=
  (zeK D hH hl).mono fun e w' ⟨h1,Ft',e1,_,_,_,e6⟩=>⟨by rw [e1,zaC _ hv],⟨e6.os,e6.tape,e6.output,e6.size,fun b hb _=>e6.block b hb fun⟨n,bb,z1,z2,_⟩=>by
    have:=List.all_eq_true.1 hro bb (List.mem_of_getElem? z1);rw [this] at z2;cases z2⟩⟩
theorem zjp {f:FuncId} {v:Value} {p:Nat} {me:Int} {s:Nat} (R:Rep mn OB WB F S w) (hp:S[p]?=some (.port me.natAbs me s)\/∃ m,S[p]?=some (.port m me s)) (D:∀ ws bs wc bc,DoesI f #[.pointer (some ⟨4,0,none⟩)] (dRo ws bs wc bc s me) v (dRo ws bs wc bc s me)) (hv:zac v=true) :
    TCalls Try.prog f (#[hndV p].map (ren F)) w (zca mn OB WB F S w S v):=by
  obtain⟨m,hp⟩:∃ m,S[p]?=some (.port m me s):=hp.elim (fun h=>⟨_,h⟩) id;obtain⟨⟨Y,hd⟩,ws,bs,hm⟩:=R.at' _ _ hp;obtain⟨X,hM⟩:=R.at' _ _ hm;have ha:#[hndV p].map (ren F)=#[Value.pointer (some ⟨4,0,none⟩)].map (ren (embM (F.blk (VB+m)) (F.base (VB+m)) (aux (F.slack (VB+m)) 1) X (aux (F.slack (VB+m)) 2) [(aux (F.slack (VB+p)) 1,Y.vpre.size),(F.blk (VB+p),F.base (VB+p))])):=by
    simp [hndV,adr,embC]
  rw [ha];refine (zqO (D ws bs X.wcap X.bcap) (zhW hM hd) (by simp [VB]) rfl hv).mono fun e w' ⟨e1,K⟩=>?_
  rw [e1];exact ze3 R K hv
theorem zon {f:FuncId} {v:Value} {k:Nat} {me:Int} {s a g q:Nat} (R:Rep mn OB WB F S w) (h:S[k]?=some (.wp me s a g q)) (D:ReadsI f #[.pointer (some ⟨0,0,none⟩)] [some (wpR me s)] v) (hv:zac v=true) :
    TCalls Try.prog f (#[hndV k].map (ren F)) w (zca mn OB WB F S w S v):=by
  obtain⟨_,told,fr,hr⟩:=R.at' _ _ h;have h0:=R.base _ _ h rfl;have ha:#[hndV k].map (ren F)=#[Value.pointer (some ⟨0,0,none⟩)].map (ren (embB [F.blk (VB+k)])):=by
    simp [hndV,adr,embB,h0]
  rw [ha];refine (zgz D (znk (fun _=>rfl) (fun n b hn=>?_) (fun n n' b c h1 h2 hne _=>?_)) (fun u hu=>?_) (fun n b hb u hu=>?_) (by simp [VB]) (fun n b hb=>?_) hv).mono fun e w' ⟨e1,K⟩=>(by rw [e1];exact ze3 R K hv)
  . match n,hn with
    | 0,hn =>
      obtain rfl:b=wpR me s:=by simpa using hn.symm
      exact⟨rfl,_,fr,by show w.heap[F.blk (VB+k)]?=_;rw [hr];simp [zdp];rfl,fun z=>by cases z⟩
    | n+1,hn=>simp at hn
  . have l1:=(List.getElem?_eq_some_iff.1 h1).1;have l2:=(List.getElem?_eq_some_iff.1 h2).1;simp at l1 l2;omega
  . simp only [List.mem_toArray,List.mem_cons,List.not_mem_nil,or_false] at hu;subst hu;exact zeF (by simp)
  . match n,hb with
    | 0,hb =>
      obtain rfl:b=wpR me s:=by simpa [zar] using hb.symm
      simp only [List.mem_cons,List.not_mem_nil,or_false] at hu;rcases hu with rfl|rfl<;>exact Clo.plain rfl
    | n+1,hb=>simp [zar] at hb
  . match n,hb with
    | 0,hb =>
      obtain rfl:b=wpR me s:=by simpa [zar] using hb.symm
      rfl
    | n+1,hb=>simp [zar] at hb
def wOf (o:Option Nat) (i:Nat):Value:=match o with|none=>.pointer none|some _=>.pointer (some ⟨i,0,none⟩)
theorem zoA {o:Option Nat} {i n c:Nat} (h:i<n):Clo (Kn n c) (wOf o i):=by
  cases o with
  | none=>exact Clo.plain rfl
  | some _=>exact zeF h
abbrev embT (F:Emb) (k:Nat) (o1 o2:Option Nat):Emb:=embB [F.blk (VB+k),(o1.map fun c=>F.blk (VB+c)).getD 0,(o2.map fun c=>F.blk (VB+c)).getD 0]
theorem ztq (F:Emb) (k:Nat) (o1 o2:Option Nat):ren (embT F k o1 o2) (wOf o1 1)=ptrO F o1:=by
  cases o1<;>simp [wOf,ptrO,adr,embB]
theorem zs5 (F:Emb) (k:Nat) (o1 o2:Option Nat):ren (embT F k o1 o2) (wOf o2 2)=ptrO F o2:=by
  cases o2<;>simp [wOf,ptrO,adr,embB]
theorem zcJ {zs:List Value} (hz:∀ u∈zs,∀ F:Emb,ren F u=u) {f:FuncId} {v:Value} {k:Nat} {self:Int} {quit:Nat} {closed busy:Bool} {cur:Option (Nat × Nat × Nat)} {pend:Option Nat} {x1 x2:Option Blk} (R:Rep true OB WB F S w) (h:S[k]?=some (.thr self quit closed busy cur pend)) (D:ReadsI f (.pointer (some ⟨0,0,none⟩)::zs).toArray [some (thB self (wOf (cur.map (·.1)) 1) (cur.map (·.2.2)) (wOf pend 2) busy closed),x1,x2] v)
    (h1:∀ b,x1=some b->b.grow=none/\b.ro=true/\(∀ u∈b.cells,zac u=true)/\∃ (c:Nat) (post:Array Value) (fr:Nat × Nat),cur.map (·.1)=some c/\w.heap[F.blk (VB+c)]?=some (.cells (b.cells.toArray++post) b.elem fr))
    (h2:∀ b,x2=some b->b.grow=none/\b.ro=true/\(∀ u∈b.cells,zac u=true)/\∃ (c:Nat) (post:Array Value) (fr:Nat × Nat),pend=some c/\w.heap[F.blk (VB+c)]?=some (.cells (b.cells.toArray++post) b.elem fr)) (hv:zac v=true) :
    TCalls Try.prog f ((hndV k::zs).toArray.map (ren F)) w (zca true OB WB F S w S v):=by
  obtain⟨_,_,_,hr⟩:=R.at' _ _ h rfl;have h0:=R.base _ _ h rfl;have ha:(hndV k::zs).toArray.map (ren F)=(Value.pointer (some ⟨0,0,none⟩)::zs).toArray.map (ren (embT F k (cur.map (·.1)) pend)):=by
    simp only [List.map_toArray,List.map_cons];congr 1;congr 1
    . simp [hndV,adr,embB,h0]
    . exact List.map_congr_left fun u hu=>(hz u hu _).trans (hz u hu _).symm
  rw [ha];have hpl:∀ b:Blk,(∀ u∈b.cells,zac u=true)->b.cells.map (ren (embT F k (cur.map (·.1)) pend))=b.cells:=fun b hb=>by
    have:b.cells.map (ren (embT F k (cur.map (·.1)) pend))=b.cells.map id:=List.map_congr_left fun u hu=>zaC _ (hb u hu);rw [this,List.map_id]
  have hall:∀ (n:Nat) b,([some (thB self (wOf (cur.map (·.1)) 1) (cur.map (·.2.2)) (wOf pend 2) busy closed),x1,x2]:List (Option Blk))[n]?=some (some b)->b.grow=none/\b.ro=true/\(∀ u∈b.cells,Clo (Kn 3 0) u)/\∃ (post:Array Value) (fr:Nat × Nat),w.heap[(embT F k (cur.map (·.1)) pend).blk n]?=some (.cells ((b.cells.map (ren (embT F k (cur.map (·.1)) pend))).toArray++post) b.elem fr):=fun n b hn=>by
    match n,hn with
    | 0,hn =>
      obtain rfl:b=thB self (wOf (cur.map (·.1)) 1) (cur.map (·.2.2)) (wOf pend 2) busy closed:=by simpa using hn.symm
      refine⟨rfl,rfl,fun u hu=>?_,#[chV quit],(0,0),?_⟩
      . simp only [List.mem_cons,List.not_mem_nil,or_false] at hu;rcases hu with rfl|rfl|rfl|rfl|rfl|rfl
        . exact Clo.plain rfl
        . exact zoA (by decide)
        . exact fun F F' _=>(by rw [zdy,zdy])
        . exact zoA (by decide)
        . exact Clo.plain rfl
        . exact Clo.plain rfl
      . show w.heap[F.blk (VB+k)]?=_;rw [hr];simp only [List.map_cons,List.map_nil,ztq,zs5,zbp,za3,zdy];rfl
    | 1,hn =>
      obtain⟨g1,g2,g3,c,post,fr,g4,g5⟩:=h1 b (by simpa using hn)
      refine⟨g1,g2,fun u hu=>Clo.plain (g3 u hu),post,fr,?_⟩;rw [hpl b g3];have:(embT F k (cur.map (·.1)) pend).blk 1=F.blk (VB+c):=by simp [embB,g4]
      rw [this];exact g5
    | 2,hn =>
      obtain⟨g1,g2,g3,c,post,fr,g4,g5⟩:=h2 b (by simpa using hn)
      refine⟨g1,g2,fun u hu=>Clo.plain (g3 u hu),post,fr,?_⟩;rw [hpl b g3];have:(embT F k (cur.map (·.1)) pend).blk 2=F.blk (VB+c):=by simp [embB,g4]
      rw [this];exact g5
    | n+3,hn=>simp at hn
  have hget:∀ n b,(zar ([some (thB self (wOf (cur.map (·.1)) 1) (cur.map (·.2.2)) (wOf pend 2) busy closed),x1,x2]:List (Option Blk))).get n=some b->([some (thB self (wOf (cur.map (·.1)) 1) (cur.map (·.2.2)) (wOf pend 2) busy closed),x1,x2]:List (Option Blk))[n]?=some (some b):=fun n b hb=>by
    rw [zaJ] at hb;cases hx:([some (thB self (wOf (cur.map (·.1)) 1) (cur.map (·.2.2)) (wOf pend 2) busy closed),x1,x2]:List (Option Blk))[n]? with
    | none=>rw [hx] at hb;cases hb
    | some y=>rw [hx] at hb;exact congrArg some hb
  refine (zgz D (znk (fun _=>rfl) (fun n b hn=>?_) (fun n n' b c h1 h2 hne hro=>?_)) (fun u hu=>?_) (fun n b hb u hu=>(hall n b (hget n b hb)).2.2.1 u hu) (by simp [VB]) (fun n b hb=>(hall n b (hget n b hb)).2.1) hv).mono fun e w' ⟨e1,K⟩=>(by rw [e1];exact ze3 R K hv)
  . obtain⟨g1,g2,_,post,fr,g3⟩:=hall n b hn;exact⟨g1,post,fr,g3,fun z=>by rw [g2] at z;cases z⟩
  . rw [(hall n b h1).2.1] at hro;cases hro
  . rcases List.mem_cons.1 (List.mem_toArray.1 hu) with rfl|hu
    . exact zeF (by simp)
    . exact fun F F' _=>(hz u hu F).trans (hz u hu F').symm
theorem zk2 {o:Ob} (R:Rep mn OB WB F S w) (hF:Same (fun n=>n<VB+S.length) F F') (K:Kept w (fun _=>False) w') (hbs:rowB o=true->F'.base (VB+S.length)=0) (hat:obAt mn OB WB F' (S++[o]) w' S.length o) (hnew:∀ b∈zay mn F' S.length o,w.heap.size<=b) :
    Rep mn OB WB F' (S++[o]) w'/\Kept w (fpS mn F S) w'/\∀ b,fpS mn F' (S++[o]) b->fpS mn F S b\/w.heap.size<=b:=by
  obtain⟨R',hfp⟩:Rep mn OB WB F' S w/\∀ b,fpS mn F' S b->fpS mn F S b:=Rep.same (hF.mono fun n hn=>hn.2) R;have hlen:(S++[o]).length=S.length+1:=by simp
  have hself:(S++[o])[S.length]?=some o:=by simp
  have hold:∀ i,i<S.length->(S++[o])[i]?=S[i]?:=fun i hi=>List.getElem?_append_left hi;have hcase:∀ (i:Nat) ob,(S++[o])[i]?=some ob->S[i]?=some ob\/(i=S.length/\ob=o):=fun i ob hi=>by
    have:=zaL hi;rw [hlen] at this;by_cases z:i<S.length
    . rw [hold i z] at hi;exact .inl hi
    . have z:i=S.length:=by omega
      subst z;rw [hself] at hi;exact .inr ⟨rfl,(Option.some.inj hi).symm⟩
  have hlow:∀ (i:Nat) ob,S[i]?=some ob->∀ b∈zay mn F' i ob,b<w.heap.size:=fun i ob ho b hb=>by
    obtain⟨c,el,fr,h1⟩:=zfa (R'.at' i ob ho) b hb;exact zab h1
  refine⟨⟨fun i ob hi hr=>?_,fun i ob hi=>?_,fun i i' ob ob' hne hi hi' x hx hx'=>?_,fun i ob hi x hx hW=>?_,fun b hb=>Nat.lt_of_lt_of_le (R.wlow b hb) K.size⟩,⟨K.os,K.tape,K.output,K.size,fun b hl _=>K.block b hl id⟩,fun b ⟨i,ob,hi,hb⟩=>?_⟩
  . rcases hcase i ob hi with h|⟨rfl,rfl⟩
    . exact R'.base i ob h hr
    . exact hbs hr
  . rcases hcase i ob hi with h|⟨rfl,rfl⟩
    . have h1:=zdj (R'.at' i ob h) fun x hx=>K.block x (hlow i ob h x hx) id;cases ob with
      | port m me st=>obtain⟨z1,ws0,bs0,z2⟩:=h1;exact⟨z1,ws0,bs0,(hold m (zaL z2)).trans z2⟩
      | thr a b c d e f=>intro y;obtain⟨a1,a2,a3,a4⟩:=h1 y;exact⟨a1,fun c hc=>by rw [hlen];have:=a2 c hc;omega,fun c hc=>by rw [hlen];have:=a3 c hc;omega,a4⟩
      | mem=>exact h1
      | wp=>exact h1
      | acc=>exact h1
      | box=>exact h1
    . exact hat
  . rcases hcase i ob hi with h|⟨rfl,rfl⟩<;>rcases hcase i' ob' hi' with h'|⟨rfl,rfl⟩
    . exact R'.apart i i' ob ob' hne h h' x hx hx'
    . have:=hlow i ob h x hx;have:=hnew x hx';omega
    . have:=hlow i' ob' h' x hx';have:=hnew x hx;omega
    . exact hne rfl
  . rcases hcase i ob hi with h|⟨rfl,rfl⟩
    . exact R'.waits i ob h x hx hW
    . have:=hnew x hx;have:=R.wlow x hW;omega
  . rcases hcase i ob hi with h|⟨rfl,rfl⟩
    . exact .inl (hfp b ⟨i,ob,h,hb⟩)
    . exact .inr (hnew b hb)
def Emb.addE (F:Emb) (k:Nat) (b o s:Nat):Emb:=⟨fun n=>if n=k then b else F.blk n,fun n=>if n=k then o else F.base n,fun n=>if n=k then s else F.slack n⟩
theorem Emb.addE_same {F:Emb} {k b o s:Nat}:Same (fun n=>n<k) F (F.addE k b o s):=fun n hn=>by
  have hn:n<k:=hn;have:n≠k:=by omega
  simp [Emb.addE,this]
theorem zgY {f:FuncId} {args:Array Value} {l l1:List (Option Blk)} {v:Value} {Ft:Emb} (D:MakesI f args l v l1) (hl:∀ x∈l,x=none) (hst:∀ u∈args,Clo (Kn l.length 0) u) (hL:l.length<=VB) :
    TCalls Try.prog f (args.map (ren Ft)) w fun e w'=>∃ Ft',e=.returned (ren Ft' v)/\Holds Ft' (zar l1) w'/\Same (Kn l.length 0) Ft Ft'/\Kept w (fun _=>False) w'/\∀ n b,(zar l1).get n=some b->b.ro=false->w.heap.size<=Ft'.blk n:=by
  obtain⟨g,c,h1,h2,G⟩:=D;have hg0:∀ n b,(zar l).get n=some b->False:=fun n b hb=>by
    rw [zaJ] at hb;cases hx:l[n]? with
    | none=>rw [hx] at hb;cases hb
    | some y =>
      rw [hl y (List.mem_of_getElem? hx)] at hx;rw [hx] at hb;cases hb
  refine (zfx (Q:=fun v' h'=>v'=v/\h'=zar l1) h1 h2 G (fun x hx=>⟨v,_,hx,rfl,rfl⟩) ⟨fun n b hb=>(hg0 n b hb).elim,fun n m b c hb=>(hg0 n b hb).elim⟩ (fun u hu=>(hst u hu).stab Ft) (fun n b hb u hu=>(hg0 n b hb).elim) hL).mono fun e w' ⟨v',h',Ft',e1,⟨e2,e3⟩,e4,e5,e6,e7⟩=>?_;subst e2 e3;refine⟨Ft',e1,e4,e5,⟨e6.os,e6.tape,e6.output,e6.size,fun b hb _=>e6.block b hb fun⟨n,bb,z1,_⟩=>hg0 n bb z1⟩,fun n b hb hro=>?_⟩;refine Nat.le_of_not_lt fun hlt=>?_;obtain⟨n',bb,z1,_⟩:=e7 n b hb hro hlt;exact hg0 n' bb z1
theorem zoj {m:Nat} {me:Int} {ws:List UInt64} {bs:List UInt8} (R:Rep mn OB WB F S w) (h:S[m]?=some (Ob.mem ws bs)):TCalls Try.prog 25 (#[hndV m,.int .i64 me].map (ren F)) w (zca mn OB WB F S w (S++[.port m me 0]) (hndV S.length)):=by
  have hml:=zaL h;have ha:#[hndV m,.int .i64 me].map (ren F)=#[Value.pointer (some ⟨0,0,none⟩),.int .i64 me].map (ren (embC [(F.blk (VB+m),F.base (VB+m))])):=by
    simp [hndV,adr,embC]
  rw [ha];refine (zgY (zsF me) (fun x hx=>by simpa using hx) (fun u hu=>?_) (by simp [VB])).mono fun e w' ⟨Ft',e1,H,hs,K,hfr⟩=>?_
  . simp only [List.mem_toArray,List.mem_cons,List.not_mem_nil,or_false] at hu;rcases hu with rfl|rfl
    . exact zeF (by simp)
    . exact Clo.plain rfl
  obtain⟨s1,s2,_⟩:=hs 0 (.inl (by simp))
  have s1:F.blk (VB+m)=Ft'.blk 0:=s1;have s2:F.base (VB+m)=Ft'.base 0:=s2;obtain⟨p1,q1,fr1,r1,r2,r3,_⟩:=H.row 1 _ rfl;obtain⟨p2,q2,fr2,t1,t2,t3,_⟩:=H.row 2 _ rfl;have f1:=hfr 1 _ rfl rfl;have f2:=hfr 2 _ rfl rfl;rw [r3 rfl] at r1;rw [t3 rfl] at t1;have hne:∀ i,i<S.length->VB+i≠VB+S.length:=fun i hi=>by omega
  have hE:Same (fun n=>n<VB+S.length) F (F.addE (VB+S.length) (Ft'.blk 2) (Ft'.base 2) (code (Ft'.blk 1) 0)):=Emb.addE_same;have eb:(F.addE (VB+S.length) (Ft'.blk 2) (Ft'.base 2) (code (Ft'.blk 1) 0)).blk (VB+S.length)=Ft'.blk 2:=if_pos rfl;have eo:(F.addE (VB+S.length) (Ft'.blk 2) (Ft'.base 2) (code (Ft'.blk 1) 0)).base (VB+S.length)=Ft'.base 2:=if_pos rfl;have es:(F.addE (VB+S.length) (Ft'.blk 2) (Ft'.base 2) (code (Ft'.blk 1) 0)).slack (VB+S.length)=code (Ft'.blk 1) 0:=if_pos rfl;have em:(F.addE (VB+S.length) (Ft'.blk 2) (Ft'.base 2) (code (Ft'.blk 1) 0)).blk (VB+m)=Ft'.blk 0:=(if_neg (hne m hml)).trans s1;have en:(F.addE (VB+S.length) (Ft'.blk 2) (Ft'.base 2) (code (Ft'.blk 1) 0)).base (VB+m)=Ft'.base 0:=(if_neg (hne m hml)).trans s2;generalize F.addE (VB+S.length) (Ft'.blk 2) (Ft'.base 2) (code (Ft'.blk 1) 0)=F' at *;obtain⟨z1,z2,z3⟩:=zk2 (o:=.port m me 0) R hE K (fun z=>by cases z) ⟨⟨(⟨p2,#[.pointer none]++q2,p1,q1,by rw [eo];exact t2⟩:DirP (F'.base (VB+S.length))),⟨by
      show w'.heap[F'.blk (VB+S.length)]?=_;rw [eb,t1,es,zmt];simp [adr,r2],by
      show w'.heap[aux (F'.slack (VB+S.length)) 1]?=_;rw [es,zmt,r1,em,en];simp [adr]⟩⟩,ws,bs,by rw [List.getElem?_append_left hml];exact h⟩ (fun b hb=>by
      simp only [zay,List.mem_cons,List.not_mem_nil,or_false] at hb;rcases hb with rfl|rfl
      . rw [eb];exact f2
      . rw [es,zmt];exact f1)
  exact⟨F',hE,by rw [e1];simp [hndV,adr,eb,eo],z1,z2,z3⟩
theorem zmq (a:Nat):zbr [Value.int .u64 0] a=wL (List.replicate a 0):=by
  induction a with
  | zero=>rfl
  | succ n ih=>simp only [zbr,ih,List.replicate_succ];rfl
theorem zlF (a:Nat):zbr [Value.int .u8 0] a=bL (List.replicate a 0):=by
  induction a with
  | zero=>rfl
  | succ n ih=>simp only [zbr,ih,List.replicate_succ];rfl
theorem znx {a b:Nat} (R:Rep mn OB WB F S w) (ha:a<=2097152) (hb:b<=1048576):TCalls Try.prog 36 (#[.int .i64 (a:Int),.int .i64 (b:Int)].map (ren F)) w (zca mn OB WB F S w (S++[.mem (List.replicate a 0) (List.replicate b 0)]) (.tuple #[hndV S.length,.int .i64 0])):=by
  refine (zgY (Ft:=F) (zsf a b ha hb) (fun x hx=>by cases hx) (fun u hu=>?_) (by simp)).mono fun e w' ⟨Ft',e1,H,hs,K,hfr⟩=>?_
  . simp only [List.mem_toArray,List.mem_cons,List.not_mem_nil,or_false] at hu;rcases hu with rfl|rfl<;>exact Clo.plain rfl
  obtain⟨p0,q0,fr0,o1,o2,o3,_⟩:=H.row 0 _ rfl;obtain⟨p1,q1,fr1,r1,r2,r3,_⟩:=H.row 1 _ rfl;obtain⟨p2,q2,fr2,t1,t2,t3,_⟩:=H.row 2 _ rfl;have f0:=hfr 0 _ rfl rfl;have f1:=hfr 1 _ rfl rfl;have f2:=hfr 2 _ rfl rfl;rw [o3 rfl] at o1;rw [r3 rfl] at r1;rw [t3 rfl] at t1;have hE:Same (fun n=>n<VB+S.length) F (F.addE (VB+S.length) (Ft'.blk 2) (Ft'.base 2) (code (Ft'.blk 0) (Ft'.blk 1))):=Emb.addE_same;have eb:(F.addE (VB+S.length) (Ft'.blk 2) (Ft'.base 2) (code (Ft'.blk 0) (Ft'.blk 1))).blk (VB+S.length)=Ft'.blk 2:=if_pos rfl;have eo:(F.addE (VB+S.length) (Ft'.blk 2) (Ft'.base 2) (code (Ft'.blk 0) (Ft'.blk 1))).base (VB+S.length)=Ft'.base 2:=if_pos rfl;have es:(F.addE (VB+S.length) (Ft'.blk 2) (Ft'.base 2) (code (Ft'.blk 0) (Ft'.blk 1))).slack (VB+S.length)=code (Ft'.blk 0) (Ft'.blk 1):=if_pos rfl;generalize F.addE (VB+S.length) (Ft'.blk 2) (Ft'.base 2) (code (Ft'.blk 0) (Ft'.blk 1))=F' at *;obtain⟨z1,z2,z3⟩:=zk2 (o:=.mem (List.replicate a 0) (List.replicate b 0)) R hE K (fun z=>by cases z) ⟨(⟨p2,q2,p0,q0,a+Ft'.slack 0,p1,q1,b+Ft'.slack 1,by rw [eo];exact t2⟩:MemP (F'.base (VB+S.length))),⟨by
      show w'.heap[F'.blk (VB+S.length)]?=_;rw [eb,t1,es,zmt,zqT];simp [adr,o2,r2],by
      show w'.heap[aux (F'.slack (VB+S.length)) 1]?=_;rw [es,zmt,o1];simp only [zmq,zaX];rw [zfc],by
      show w'.heap[aux (F'.slack (VB+S.length)) 2]?=_;rw [es,zqT,r1];simp only [zlF,zaX];rw [zfl],by simpa using ha,by simpa using hb⟩⟩ (fun x hx=>by
      simp only [zay,List.mem_cons,List.not_mem_nil,or_false] at hx;rcases hx with rfl|rfl|rfl
      . rw [eb];exact f2
      . rw [es,zmt];exact f0
      . rw [es,zqT];exact f1)
  exact⟨F',hE,by rw [e1];simp [hndV,adr,eb,eo],z1,z2,z3⟩
theorem prim_ok {f:FuncId} {args:Array Value} {v:Value} {S':St} (h:Prim f args S v S') (R:Rep mn OB WB F S w):TCalls Try.prog f (args.map (ren F)) w (zca mn OB WB F S w S' v):=by
  cases h with
  | pure h ha hv=>exact zoR R (h w) ha hv
  | @do' k ws bs S c n A B h h1 h4=>exact zis (zs:=#[accV c n A B]) R h (fun wc bc=>zsC ws bs wc bc c n A B h1 h4) (by simp [zac,accV]) (by simp [zac]) (zee ..) rfl
  | @load p m me st ws bs S n h hm hs =>
    rw [zeO];exact zdi (zs:=#[.int .i64 n]) R h hm (fun wc bc=>zrj ws bs wc bc st me n hs) (by simp [zac]) (by simp [zac]) rfl rfl
  | @store p m me st ws bs S n A h hm hs=>exact zdi (zs:=#[.int .i64 n,.int .u64 (A.toNat:Int)]) R h hm (fun wc bc=>zo9 ws bs wc bc st me n A hs) (by simp [zac]) (by simp [zac]) (zee ..) rfl
  | @cas p m me st ws bs S n A B h hm hs=>exact zdi (zs:=#[.int .i64 n,.int .u64 (A.toNat:Int),.int .u64 (B.toNat:Int)]) R h hm (fun wc bc=>zsQ ws bs wc bc st me n A B hs) (by simp [zac]) (by simp [zac]) (zee ..) rfl
  | @add p m me st ws bs S n A h hm hs=>exact zdi (zs:=#[.int .i64 n,.int .u64 (A.toNat:Int)]) R h hm (fun wc bc=>zsR ws bs wc bc st me n A hs) (by simp [zac]) (by simp [zac]) (zee ..) rfl
  | @self p m me st S h=>exact zjp (s:=st) R (.inr ⟨m,h⟩) (fun ws bs wc bc=>zrN ws bs wc bc st me) rfl
  | @steps p m me st S h=>exact zjp (s:=st) R (.inr ⟨m,h⟩) (fun ws bs wc bc=>zpu ws bs wc bc st me) rfl
  | @dget k ws bs S n A B h =>
    have h1:=zis (zs:=#[accV 5 n A B]) R h (fun wc bc=>zoK ws bs wc bc n A B) (by simp [zac,accV]) (by simp [zac]) rfl rfl
    rw [zkB h] at h1;exact h1
  | @dput k ws bs S n A B h=>exact zis (zs:=#[accV 6 n A B]) R h (fun wc bc=>zmX ws bs wc bc n A B) (by simp [zac,accV]) (by simp [zac]) rfl (zgx ..)
  | @get p m me st ws bs S n h hm hs=>exact zdi (zs:=#[.int .i64 n]) R h hm (fun wc bc=>zso ws bs wc bc st me n hs) (by simp [zac]) (by simp [zac]) rfl rfl
  | @put p m me st ws bs S n b h hm hs=>exact zdi (zs:=#[.int .i64 n,.int .u8 (b.toNat:Int)]) R h hm (fun wc bc=>zsL ws bs wc bc st me n b hs) (by simp [zac]) (by simp [zac]) rfl (zgx ..)
  | @wself k me st a b c S h=>exact zon R h (zrf me st) rfl
  | @wsteps k me st a b c S h=>exact zon R h (zpv me st) rfl
  | @pnew m me ws bs S h=>exact zoj R h
  | mnew a b ha hb=>exact znx R ha hb
theorem zo2 {f:FuncId} {args:Array Value} {v:Value} {S':St} (h:PrimM f args S v S') (R:Rep true OB WB F S w):TCalls Try.prog f (args.map (ren F)) w (zca true OB WB F S w S' v):=by
  cases h with
  | com h=>exact prim_ok h R
  | busy h=>exact zcJ (zs:=[]) (fun _ z=>by cases z) R h (zsm _ _ _ _ _ _) (fun _ z=>by cases z) (fun _ z=>by cases z) rfl
  | idle h=>exact zcJ (zs:=[]) (fun _ z=>by cases z) R h (zsg _ _ _ _ _) (fun _ z=>by cases z) (fun _ z=>by cases z) (by simp [zac,accZ,accV])
  | @pend k p self quit closed b cur S c n A B h hp =>
    refine zcJ (zs:=[]) (fun _ z=>by cases z) (x1:=none) (x2:=some (aR c n A B)) R h (zsI _ _ _ _ _ _ _ _ _) (fun _ z=>by cases z) (fun b z=>?_) (by simp [zac,accV])
    obtain rfl:=Option.some.inj z;exact⟨rfl,rfl,fun u hu=>by simp only [List.mem_cons,List.not_mem_nil,or_false] at hu;rcases hu with rfl|rfl|rfl|rfl<;>rfl,p,#[],(0,0),rfl,by simpa [zf0] using show w.heap[F.blk (VB+p)]?=some (.cells (zf0 c n A B) 31 (0,0)) from R.at' _ _ hp⟩
  | @steps k hp gid dn self ws quit st x y z closed b pend S h hw =>
    obtain⟨_,told,fr,hr⟩:=R.at' _ _ hw;refine zcJ (zs:=[]) (fun _ z=>by cases z) (x1:=some (wpR ws st)) (x2:=none) R h (zp9 _ _ _ _ _ _ _) (fun b e=>?_) (fun _ z=>by cases z) rfl
    obtain rfl:=Option.some.inj e;refine⟨rfl,rfl,fun u hu=>by simp only [List.mem_cons,List.not_mem_nil,or_false] at hu;rcases hu with rfl|rfl<;>rfl,hp,#[.pointer told,chV x,chV y,chV z],fr,rfl,?_⟩
    rw [hr];rfl
  | @grantNo k self quit closed b cur S v h=>exact zcJ (zs:=[.int .u64 (v.toNat:Int)]) (fun u hu F=>by rw [List.mem_singleton.1 hu];exact zaC F rfl) R h (zoZ _ _ _ _ _ _) (fun _ z=>by cases z) (fun _ z=>by cases z) rfl
  | @startShut k self quit b cur pend S fv hf h=>exact zcJ (zs:=[fv]) (fun u hu F=>by rw [List.mem_singleton.1 hu];exact hf F) R h (zjM _ _ _ _ _ _) (fun _ z=>by cases z) (fun _ z=>by cases z) rfl
  | @startBusy k self quit cur pend S fv hf h=>exact zcJ (zs:=[fv]) (fun u hu F=>by rw [List.mem_singleton.1 hu];exact hf F) R h (zjP _ _ _ _ _) (fun _ z=>by cases z) (fun _ z=>by cases z) rfl
  | startNil h=>exact zcJ (zs:=[.nilFunc]) (fun u hu F=>by rw [List.mem_singleton.1 hu];exact zaC F rfl) R h (zmx _ _ _ _) (fun _ z=>by cases z) (fun _ z=>by cases z) rfl
  | closeNo h=>exact zcJ (zs:=[]) (fun _ z=>by cases z) R h (znA _ _ _ _ _) (fun _ z=>by cases z) (fun _ z=>by cases z) (by simp [zac])
end
theorem zc4 (mn:Bool) (OB WB:Nat->Prop):zau mn OB WB:=by
  intro f args S v S' F w h R;cases mn with
  | true=>exact zo2 h R
  | false=>exact prim_ok h R
end Go.Proofs.Ytgndgbnhkoppmaa
namespace Go.Proofs.Ytgndgbnhkoppmaa
open Go Go.Conc
open Go.ConcN (sumTo upd sumTo_upd upd_ne upd_same)
section
variable (hok:∀ mn OB WB,zau mn OB WB)
variable {OB WB:Nat->Prop} {F:Emb} {hs hs' hs2:AHeap} {S:St} {w w':World}
theorem zf9 {k:Nat} {a b c d e f a' b' c' d' e' f'} (hk:S[k]?=some (Ob.thr a b c d e f)) (R:Rep false OB WB F S w):Rep false OB WB F (S.set k (.thr a' b' c' d' e' f')) w/\∀ x,fpS false F (S.set k (.thr a' b' c' d' e' f')) x->fpS false F S x:=by
  have hlen:(S.set k (Ob.thr a' b' c' d' e' f')).length=S.length:=by simp
  have hself:(S.set k (Ob.thr a' b' c' d' e' f'))[k]?=some (.thr a' b' c' d' e' f'):=List.getElem?_set_self (zaL hk);have hne:∀ i,i≠k->(S.set k (Ob.thr a' b' c' d' e' f'))[i]?=S[i]?:=fun i hi=>List.getElem?_set_ne (Ne.symm hi);have hblk:∀ (i:Nat) ob2,(S.set k (Ob.thr a' b' c' d' e' f'))[i]?=some ob2->∃ ob,S[i]?=some ob/\zay false F i ob2=zay false F i ob:=fun i ob2 hi=>by
    by_cases z:i=k
    . subst z;rw [hself] at hi;cases hi;exact⟨_,hk,rfl⟩
    . rw [hne i z] at hi;exact⟨_,hi,rfl⟩
  refine⟨⟨fun i ob2 hi hr=>?_,fun i ob2 hi=>?_,fun i i' ob ob' hne' hi hi' x hx hx'=>?_,fun i ob2 hi x hx hW=>?_,R.wlow⟩,fun x ⟨i,ob2,hi,hx⟩=>?_⟩
  . by_cases z:i=k
    . subst z;exact R.base i _ hk rfl
    . rw [hne i z] at hi;exact R.base i _ hi hr
  . by_cases z:i=k
    . subst z;rw [hself] at hi;cases hi;intro z;cases z
    . rw [hne i z] at hi;refine znT (S:=S) (fun m ws bs hm=>?_) hlen (R.at' i _ hi);rw [hne]
      . exact hm
      rintro rfl;rw [hk] at hm;cases hm
  . obtain⟨o1,g1,g2⟩:=hblk i ob hi;obtain⟨o2,g3,g4⟩:=hblk i' ob' hi';exact R.apart i i' o1 o2 hne' g1 g3 x (g2 ▸ hx) (g4 ▸ hx')
  . by_cases z:i=k
    . subst z;rw [hself] at hi;cases hi;simp [zay] at hx
    . rw [hne i z] at hi;exact R.waits i _ hi x hx hW
  . obtain⟨ob,h1,h2⟩:=hblk i ob2 hi;exact⟨i,ob,h1,h2 ▸ hx⟩
theorem zm8 {k:Nat} {a b c d e f a' b' c' d' e' f'} (hk:S[k]?=some (Ob.thr a b c d e f)) (H:RInv (XB hok OB WB) F (.run [] [] hs S) w):RInv (XB hok OB WB) F (.run [] [] hs (S.set k (.thr a' b' c' d' e' f'))) w:=by
  obtain⟨I,hV⟩:=H;have I:AInv (XB hok OB WB) F w (fun _=>True) (Kn hs.next S.length) (fun v=>v∈([]:List Value)) hs S w:=I;obtain⟨h1,h2⟩:=zf9 (a':=a') (b':=b') (c':=c') (d':=d') (e':=e') (f':=f') hk I.rep;refine⟨?_,hV⟩;show AInv (XB hok OB WB) F w (fun _=>True) (Kn hs.next (S.set k (Ob.thr a' b' c' d' e' f')).length) (fun v=>v∈([]:List Value)) hs (S.set k (.thr a' b' c' d' e' f')) w;rw [show (S.set k (Ob.thr a' b' c' d' e' f')).length=S.length by simp]
  refine⟨I.holds,h1,fun v hv=>(by cases hv),I.hst,I.hk,?_,?_,Kept.refl _ _,fun _ _ _ _ _=>trivial,fun _ _ _=>trivial,fun n r hr hf=>I.sep n r hr (h2 _ hf)⟩
  . intro n hn1 hn2;refine I.hand n hn1 ?_;have hn2:n<VB+(S.set k (Ob.thr a' b' c' d' e' f')).length:=hn2;show n<VB+S.length;simpa using hn2
  . intro n hn;have:n<VB+S.length:=I.klim n hn;show n<VB+(S.set k (Ob.thr a' b' c' d' e' f')).length;simpa using this
theorem zo4 (R:Rep false OB WB F S w) (hO:∀ (k:Nat) a b c d e f,S[k]?=some (Ob.thr a b c d e f)->OB (F.blk (VB+k))) (ht:∀ (k:Nat) a b c d e f,S[k]?=some (Ob.thr a b c d e f)->obAt true OB WB F S w k (.thr a b c d e f))
    (hv:∀ x,OB x->¬ fpS false F S x) (hd:∀ (k k':Nat) a b c d e f a' b' c' d' e' f',k≠k'->S[k]?=some (Ob.thr a b c d e f)->S[k']?=some (Ob.thr a' b' c' d' e' f')->F.blk (VB+k)≠F.blk (VB+k')) (hap:∀ x,OB x->¬ WB x):Rep true OB WB F S w:=by
  have hthr:∀ ob:Ob,(∃ a b c d e f,ob=.thr a b c d e f)\/∀ a b c d e f,ob≠.thr a b c d e f:=fun ob=>by
    cases ob with
    | thr a b c d e f=>exact .inl ⟨a,b,c,d,e,f,rfl⟩
    | _=>exact .inr fun _ _ _ _ _ _ z=>by cases z
  refine⟨R.base,fun k ob hk=>?_,fun k k' ob ob' hne hk hk' x hx hx'=>?_,fun k ob hk x hx hW=>?_,R.wlow⟩
  . rcases hthr ob with ⟨a,b,c,d,e,f,rfl⟩|h
    . exact ht _ _ _ _ _ _ _ hk
    . exact znV h (R.at' k ob hk)
  . rcases hthr ob with ⟨a,b,c,d,e,f,rfl⟩|h<;>rcases hthr ob' with ⟨a',b',c',d',e',f',rfl⟩|h'
    . simp only [zay,if_true,List.mem_cons,List.not_mem_nil,or_false] at hx hx';exact hd _ _ _ _ _ _ _ _ _ _ _ _ _ _ hne hk hk' (hx.symm.trans hx')
    . simp only [zay,if_true,List.mem_cons,List.not_mem_nil,or_false] at hx;exact hv x (hx ▸ hO _ _ _ _ _ _ _ hk) ⟨k',ob',hk',zcN h' hx'⟩
    . simp only [zay,if_true,List.mem_cons,List.not_mem_nil,or_false] at hx';exact hv x (hx' ▸ hO _ _ _ _ _ _ _ hk') ⟨k,ob,hk,zcN h hx⟩
    . exact R.apart k k' ob ob' hne hk hk' x (zcN h hx) (zcN h' hx')
  . rcases hthr ob with ⟨a,b,c,d,e,f,rfl⟩|h
    . simp only [zay,if_true,List.mem_cons,List.not_mem_nil,or_false] at hx;exact absurd hW (hap x (hx ▸ hO _ _ _ _ _ _ _ hk))
    . exact R.waits k ob hk x (zcN h hx) hW
structure zqY {Γ:Type} (Pr:Proto Γ) (d:BD Γ) (γ:Γ) (hs hs':AHeap) (S0:St):Prop where
  ok:d.Ok
  lend:LendH hs hs'
  inv:RInv (XM hok d.p.OB d.p.WB) d.p.FR (.run [] [] hs S0) d.p.wR
  len:S0.length=d.S.length
  nr:d.p.NR=hs.next
  cr:d.p.CR=S0.length
  px:∀ x,zmS d.p.FR hs hs' x->d.p.PX x
  tb:d.tb=d.p.FR.blk (VB+d.k)
  wro:∀ n r,hs.get n=some r->d.p.WB (d.p.FR.blk n)->r.ro=true
  rows:∀ (i:Nat) a b c x e f,(d.S.set d.k (.thr d.self d.quit false true (some (d.hp,d.p.h,d.dn)) none))[i]?=some (Ob.thr a b c x e f)->(∀ c,e=some c->c.1<d.S.length)/\(∀ p,f=some p->p<d.S.length)/\d.wN.heap[d.p.FR.blk (VB+i)]?=some (.cells (zaO d.p.FR a b c x e f) 72 (0,0))
  dist:∀ k k':Nat,k≠k'->(∃ a b c x e f,(d.S.set d.k (.thr d.self d.quit false true (some (d.hp,d.p.h,d.dn)) none))[k]?=some (Ob.thr a b c x e f))->(∃ a b c x e f,(d.S.set d.k (.thr d.self d.quit false true (some (d.hp,d.p.h,d.dn)) none))[k']?=some (Ob.thr a b c x e f))->d.p.FR.blk (VB+k)≠d.p.FR.blk (VB+k')
  su:d.Su=SuM hok Pr () γ
  ph:∀ i,i≠d.k->Pr.ph d.γ i=Pr.ph γ i
  fuel:Pr.fuel d.γ<=Pr.fuel γ
  base0:∀ n r,hs.get n=some r->r.ro=false->d.p.n0<=d.p.FR.blk n
end
section
variable {F F':Emb} {S:St} {x:Nat}
theorem zgJ {k:Nat} {a b c d e f a' b' c' d' e' f'} (hk:S[k]?=some (Ob.thr a b c d e f)) (h:fpS true F (S.set k (.thr a' b' c' d' e' f')) x):fpS true F S x:=by
  obtain⟨i,ob,hi,hx⟩:=h;by_cases z:i=k
  . subst z;rw [List.getElem?_set_self (zaL hk)] at hi;cases hi;exact⟨i,_,hk,hx⟩
  . rw [List.getElem?_set_ne (Ne.symm z)] at hi;exact⟨i,ob,hi,hx⟩
theorem zgf {o:Ob} (ho:zrY o=true) (hF:Same (fun n=>VB<=n/\n<VB+S.length) F F') (h:fpS true F' (S++[o]) x):fpS true F S x\/x=F'.blk (VB+S.length):=by
  obtain⟨i,ob,hi,hx⟩:=h;by_cases z:i<S.length
  . rw [List.getElem?_append_left z] at hi;rw [zdt hF z] at hx;exact .inl ⟨i,ob,hi,hx⟩
  . have:=zaL hi;have z:i=S.length:=by simp at this;omega
    subst z;rw [List.getElem?_append_right (Nat.le_refl _),Nat.sub_self] at hi;cases hi;rw [zlf ho] at hx;exact .inr (by simpa using hx)
theorem znS (h:fpS true F S x):(∃ k a b c d e f,S[k]?=some (Ob.thr a b c d e f)/\x=F.blk (VB+k))\/fpS false F S x:=by
  obtain⟨i,ob,hi,hx⟩:=h;cases ob with
  | thr a b c d e f=>exact .inl ⟨i,_,_,_,_,_,_,hi,by simpa [zay] using hx⟩
  | _=>exact .inr ⟨i,_,hi,hx⟩
end
section
variable (hok:∀ mn OB WB,zau mn OB WB)
variable {Γ:Type} (Pr:Proto Γ)
def zm6 (n00:Nat) (w00:World) (d:BD Γ) (hs hs':AHeap) (n0 c0:Nat) (fr:Frame) (cs:List Frame) (m:Machine) (T:Trace):Prop :=
  ∃ (gs:Array Goroutine) (w:World) (sl:Option (Nat × Nat)) (F:Emb) (hs2:AHeap) (γ2:Γ) (Inb:Nat->Option Seat) (p:Par) (S3:St),m=crowd gs w sl/\gs[0]?=some (Go.Conc.G (fr.finish (.tuple #[])) cs)/\ClM n00 w00 () (γ2,S3) p/\Standing p hok (SuM hok Pr () γ2) S3 F (.run [] [] (uniH hs hs' hs2) S3) Inb gs w T /\
    Same (Kn n0 c0) d.p.FR F/\n0<=hs2.next/\Pr.Inv γ2 hs2 d.S/\Pr.FC γ2 d.γ/\(∀ i,i≠d.k->Pr.ph γ2 i=Pr.ph d.γ i) /\
    ((∃ q,Pr.ph γ2 d.k=some q/\S3=d.S.set d.k (.thr d.self d.quit false true (some (d.hp,d.p.h,d.dn)) (some d.S.length))++[.acc (Pr.acc q).1 (Pr.acc q).2.1 (Pr.acc q).2.2.1 (Pr.acc q).2.2.2]) \/
      (Pr.ph γ2 d.k=none/\S3=d.S.set d.k (.thr d.self d.quit false false (some (d.hp,d.p.h,d.dn)) none)))
variable {Pr}
theorem zik {p:Par} {Su:SuT} {S:St} {F:Emb} {N C:Nat} {Inb:Nat->Option Seat} {gs:Array Goroutine} {w:World} {T:Trace} (H:Com p Su S F N C Inb gs w T) {x:Nat} (hx:p.OB x):(∀ i s,Inb i=some s->¬ s.has x)/\¬ p.WB x:=by
  obtain⟨B,Mem,q,R,_⟩:=H.ring;exact⟨fun i s hi hs=>R.far i s x hi hs hx,R.apart x hx⟩
theorem zfE {p:Par} {Su:SuT} {S:St} {F:Emb} {N C:Nat} {Inb:Nat->Option Seat} {gs:Array Goroutine} {w:World} {T:Trace} (H:Com p Su S F N C Inb gs w T) (hW:∀ x,p.WB x->∃ cc el,w.heap[x]?=some (.cells cc el (0,0))/\cc.size≠0):∀ b,zfv p.OB p.WB Inb b->b<w.heap.size:=fun b hb=>by
  obtain⟨B,Mem,q,R,_⟩:=H.ring;rcases hb with hb|hb|⟨i,s,hi,hs⟩
  . exact H.tab.olow b hb
  . obtain⟨_,_,h1,_⟩:=hW b hb;exact zab h1
  . obtain⟨cap,k,hx⟩:=R.chans i s b (fun z=>z) hi hs;exact zab hx
theorem zjH {n00:Nat} {w00:World} {d:BD Γ} {γ:Γ} {hs hs':AHeap} {S0:St} (L:zqY hok Pr d γ hs hs' S0) {fr:Frame} {cs:List Frame} (hcs:d.cs0=fr::cs) {m:Machine} {T:Trace} (hn00:d.p.n0=n00) (hw00:d.p.w0=w00) (H:Came hok Pr (BSusp hok Pr) d m T):Reach Try.prog m T (zm6 hok Pr n00 w00 d hs hs' hs.next S0.length fr cs):=by
  obtain⟨gs,w,sl,F,hs2,γ2,kk,val,Inb,S',Su',Iv',rfl,hg,hph,hfu,hInv,hF,hnx,hown,hB,hov,hpx,hwr,hro,hbase,hCom,hcase⟩:=H;rw [L.nr,L.cr] at hF;rw [L.nr] at hnx;have hthr:=L.ok.thr;have hkl:=zaL hthr;have hlenS:=L.len
  -- the state with nothing pending
  let S1:St:=d.S.set d.k (.thr d.self d.quit false true (some (d.hp,d.p.h,d.dn)) none)
  have hS1:S1[d.k]?=some (.thr d.self d.quit false true (some (d.hp,d.p.h,d.dn)) none):=List.getElem?_set_self hkl;have hl1:S1.length=d.S.length:=by simp [S1]
  have hkc:KeepC d.S S1:=KeepC.pend hthr none;have hbl:∀ i,i<d.S.length->F.blk (VB+i)=d.p.FR.blk (VB+i):=fun i hi=>((hF (VB+i) (.inr ⟨by omega,by omega⟩)).1).symm
  have htb:d.tb=F.blk (VB+d.k):=by rw [L.tb,hbl _ hkl]
  have t:=hCom.tab;have hthr':∃ a b c x e f,S'[d.k]?=some (Ob.thr a b c x e f):=by
    rcases hcase with ⟨_,q,_,_,rfl,_⟩|⟨_,_,_,rfl,_⟩
    . exact⟨_,_,_,_,_,_,hthr⟩
    . exact⟨_,_,_,_,_,_,zff hthr⟩
  have hOBk:∀ (i:Nat) a b c x e f,S1[i]?=some (Ob.thr a b c x e f)->d.p.OB (F.blk (VB+i)):=fun i a b c x e f hi=>by
    refine (t.obs _).2 ?_;by_cases z:i=d.k
    . obtain⟨a1,a2,a3,a4,a5,a6,h⟩:=hthr';exact⟨d.k,a1,a2,a3,a4,a5,a6,h,by rw [z]⟩
    . have h0:d.S[i]?=some (Ob.thr a b c x e f):=by
        have:S1[i]?=d.S[i]?:=List.getElem?_set_ne (Ne.symm z);rw [<-this];exact hi
      refine⟨i,a,b,c,x,e,f,?_,rfl⟩;rcases hcase with ⟨_,q,_,_,rfl,_⟩|⟨_,_,_,rfl,_⟩
      . exact h0
      . rw [zeA z];exact h0
  have hOtb:d.p.OB d.tb:=by rw [htb];exact hOBk _ _ _ _ _ _ _ hS1
  have hB1:RInv (XB hok d.p.OB d.p.WB) F (.run [] [] hs2 S1) w:=zm8 hok hthr hB;have hov1:∀ x,d.p.OB x->¬ Vis (XB hok d.p.OB d.p.WB) F (.run [] [] hs2 S1) x:=fun x hx hv=>hov x hx (hv.imp id fun h=>(zf9 hthr hB.1.rep).2 x h);have hrow:∀ (i:Nat) a b c x e f,S1[i]?=some (Ob.thr a b c x e f)->obAt true d.p.OB d.p.WB F S1 w i (.thr a b c x e f):=fun i a b c x e f hi=>by
    have hil:i<d.S.length:=by rw [<-hl1];exact zaL hi
    obtain⟨h1,h2,h3⟩:=L.rows i a b c x e f hi;intro _;refine⟨hOBk _ _ _ _ _ _ _ hi,fun c hc=>by rw [hl1];exact h1 c hc,fun c hc=>by rw [hl1];exact h2 c hc,?_⟩
    rw [hown _ (hOBk _ _ _ _ _ _ _ hi),hbl i hil,h3];rw [zgq (F:=d.p.FR) (F':=F) (S:=S0) (hF.mono fun n hn=>.inr hn) (fun c hc=>by rw [hlenS];exact h1 c hc) (fun c hc=>by rw [hlenS];exact h2 c hc)]
  have hap:∀ x,d.p.OB x->¬ d.p.WB x:=by obtain⟨_,_,_,R,_⟩:=hCom.ring;exact R.apart
  have hinv:=L.inv;have hdist:∀ (k k':Nat) a b c x e f a' b' c' x' e' f',k≠k'->S1[k]?=some (Ob.thr a b c x e f)->S1[k']?=some (Ob.thr a' b' c' x' e' f')->F.blk (VB+k)≠F.blk (VB+k'):=fun k k' a b c x e f a' b' c' x' e' f' hne h1 h2=>by
    have R0:Rep true d.p.OB d.p.WB d.p.FR S0 d.p.wR:=hinv.1.rep;rw [hbl k (by rw [<-hl1];exact zaL h1),hbl k' (by rw [<-hl1];exact zaL h2)]
    exact L.dist k k' hne ⟨_,_,_,_,_,_,h1⟩ ⟨_,_,_,_,_,_,h2⟩
  have hRep:Rep true d.p.OB d.p.WB F S1 w:=zo4 hB1.1.rep hOBk hrow (fun x hx hv=>hov1 x hx (.inr hv)) hdist hap;have hM:RInv (XM hok d.p.OB d.p.WB) F (.run [] [] (uniH hs hs' hs2) S1) w:=zoL hok hinv (by rw [hl1];exact hlenS) hF hnx hRep hB1 hov1 (fun x hx=>by
    obtain⟨h1,h2,h3,h4⟩:=hpx x (L.px x hx);exact⟨h1,fun hv=>h2 (hv.imp id fun h=>(zf9 hthr hB.1.rep).2 x h),h3,h4⟩) hOBk
  have hwro:∀ n r,(uniH hs hs' hs2).get n=some r->d.p.WB (F.blk n)->r.ro=true:=fun n r hr hW=>by
    rcases zdu hr with h|⟨_,_,h⟩
    . exact hro n r h hW
    . refine L.wro n r h ?_;have:=(hinv.1.hk n r h).1;rw [(hF n this).1];exact hW
  have hrtb:w.heap[d.tb]?=some (.cells (zaO F d.self d.quit false true (some (d.hp,d.p.h,d.dn)) none) 72 (0,0)):=by
    rw [htb];exact (hrow _ _ _ _ _ _ _ hS1 rfl).2.2.2
  obtain⟨B,Mem,q0,R,hM0,_⟩:=hCom.ring;have hst:=zik hCom (x:=d.tb) hOtb;have hlow:=zfE hCom hwr;have hK:KA d.p.OB d.p.WB Inb w.heap.size w w:=⟨rfl,hlow,Nat.le_refl _⟩;have hhpl:d.hp<d.S.length:=zaL L.ok.wp;have hV:hs2.next<=VB:=hM.2;have hfγ:Pr.fuel γ2<=Pr.fuel γ:=by rw [hfu.1];exact L.fuel
  have hphγ:∀ i,i≠d.k->Pr.ph γ2 i=Pr.ph γ i:=fun i hi=>(hph i hi).trans (L.ph i hi);have hComS:Com ⟨0,none,d.p.OB,d.p.WB,Iv',none,fun _=>False,w,F,0,0,d.p.n0,d.p.w0⟩ (SuM hok Pr () γ2) S' F hs2.next d.S.length Inb gs w T:=by
    refine hCom.su fun i self quit closed hp gid dn pend ob g hi _ hsu=>?_;rcases hcase with ⟨_,q,hq,_,rfl,hQ⟩|⟨_,_,_,rfl,rfl⟩
    . have:=hQ _ _ _ _ _ _ _ hsu;by_cases z:i=d.k
      . subst z;rw [if_pos rfl] at this;obtain⟨F0,n0,c0,z1,z2,z3,z4⟩:=this;exact⟨q,F0,n0,c0,_,hq,z1,z2,z3,Nat.le_refl _,z4⟩
      . rw [if_neg z,L.su] at this;exact SuM.step hok hphγ hfγ z this
    . by_cases z:i=d.k
      . subst z;rw [zff hthr] at hi;cases hi
      . rw [L.su] at hsu;exact SuM.step hok hphγ hfγ z hsu
  have hfpM:∀ x,fpS true F S1 x->d.p.OB x\/fpS false F d.S x:=fun x hx=>by
    rcases znS hx with ⟨i,a,b,c,x',e,f,hi,rfl⟩|h
    . exact .inl (hOBk _ _ _ _ _ _ _ hi)
    . exact .inr ((zf9 hthr hB.1.rep).2 x h)
  have hchS:∀ k s c,ChS S' k s c->ChS d.S k s c:=fun k s c h=>by
    rcases hcase with ⟨_,q,_,_,rfl,_⟩|⟨_,_,_,rfl,_⟩
    . exact h
    . exact zkN hthr h
  have fin:∀ (S3:St) (F3:Emb) (gs2:Array Goroutine) (w2:World) (T2:Trace) (sl2:Option (Nat × Nat)),KeepC S' S3->RInv (XM hok d.p.OB d.p.WB) F3 (.run [] [] (uniH hs hs' hs2) S3) w2->Same (Kn hs2.next d.S.length) F F3->d.S.length<=S3.length->w.heap.size<=w2.heap.size->(∀ x,¬ d.p.OB x->x<w.heap.size->w2.heap[x]?=w.heap[x]?)->gs2.size=gs.size->(∀ x,fpS true F3 S3 x->d.p.OB x\/fpS false F d.S x\/w.heap.size<=x) ->
      (∃ B Mem q,RingO Try.prog d.p.OB d.p.WB B Iv' Mem Inb 0 T2 gs2 w2 q/\Mem 0/\Mem 0)->gs2[0]?=some (Go.Conc.G (fr.finish (.tuple #[])) cs)->((∃ q,Pr.ph γ2 d.k=some q/\S3=d.S.set d.k (.thr d.self d.quit false true (some (d.hp,d.p.h,d.dn)) (some d.S.length))++[.acc (Pr.acc q).1 (Pr.acc q).2.1 (Pr.acc q).2.2.1 (Pr.acc q).2.2.2]) \/
      (Pr.ph γ2 d.k=none/\S3=d.S.set d.k (.thr d.self d.quit false false (some (d.hp,d.p.h,d.dn)) none)))->zm6 hok Pr n00 w00 d hs hs' hs.next S0.length fr cs (crowd gs2 w2 sl2) T2:=by
    intro S3 F3 gs2 w2 T2 sl2 hk hI hFF hlen hws hkp hgz hfp3 hring hg2 hfin
    let p':Par:=⟨0,none,d.p.OB,d.p.WB,Iv',none,fun _=>False,w2,F3,0,0,d.p.n0,d.p.w0⟩
    have hC2:Com p' (SuM hok Pr () γ2) S' F hs2.next d.S.length Inb gs w T:=⟨hComS.ring,hComS.tab,hComS.main,hComS.seats,hComS.waits,hComS.n0,hComS.c0⟩;have hC3:Com p' (SuM hok Pr () γ2) S3 F3 hs2.next S3.length Inb gs2 w2 T2:=Com.keep hk (Nat.le_refl _) (hC2.turn (SuM.mono hok Pr () γ2) hFF (Nat.le_refl _) hlen hV hws (zd9 fun c hc hO=>hkp c hO (by obtain⟨_,_,_,_,_,_,h1⟩:=hc;exact zab h1)) hgz hring)
    have hwro3:∀ n r,(uniH hs hs' hs2).get n=some r->d.p.WB (F3.blk n)->r.ro=true:=fun n r hr hW=>hwro n r hr (by
      rw [(hFF n ((hM.1.hk n r hr).1.mono (Nat.le_refl _) (by show S1.length<=_;omega))).1];exact hW)
    refine⟨gs2,w2,sl2,F3,hs2,γ2,Inb,p',S3,rfl,hg2,⟨rfl,rfl,rfl,fun _ z=>z,hn00,hw00⟩,⟨hC3,(zdh hok (p:=p') rfl) ▸ hI,fun z=>absurd rfl z,fun x hx=>hx.elim,fun x hx=>?_,hwro3,?_,Same.refl _ _,Nat.zero_le _,Nat.zero_le _⟩,?_,hnx,hInv,hfu,hph,hfin⟩
    . obtain⟨cc,el,h1,h2⟩:=hwr x hx;exact⟨cc,el,(hkp x (fun z=>hap x z hx) (zab h1)).trans h1,h2⟩
    . refine⟨fun x hx=>?_,fun k s c h=>hbase.ch k s c (hchS k s c (hk.ch h))⟩;obtain⟨h1,h2,h3,h4⟩:=hbase.low x hx;refine⟨Nat.lt_of_lt_of_le h1 hws,fun hT=>?_,h3,(hkp x h3 h1).trans h4⟩;rw [zdh hok (p:=p') rfl] at hT;rcases hT with ⟨n,r,hr,hro',rfl⟩|hf
      . have hr:(uniH hs hs' hs2).get n=some r:=hr;have e:F3.blk n=F.blk n:=((hFF n ((hM.1.hk n r hr).1.mono (Nat.le_refl _) (by show S1.length<=_;omega))).1).symm
        rcases zdu hr with h|⟨_,_,h⟩
        . exact h2 (.inl ⟨n,r,h,hro',e.symm⟩)
        . have:=L.base0 n r h hro';have e2:F.blk n=d.p.FR.blk n:=(hF n (hinv.1.hk n r h).1).1.symm;have hx:F3.blk n<d.p.n0:=hx;omega
      . rcases hfp3 x hf with z|z|z
        . exact h3 z
        . exact h2 (.inr z)
        . omega
    . exact hF.trans (hFF.mono fun n hn=>hn.mono hnx (Nat.le_of_eq hlenS))
  have hk3:w.cell? ⟨d.tb,3,none⟩=some (.pointer none):=by simp [World.cell?,hrtb,zaO,ptrO]
  have hk4:w.cell? ⟨d.tb,4,none⟩=some (.bool true):=by simp [World.cell?,hrtb,zaO]
  have hfz:∀ o,w.frozen? ⟨d.tb,o,none⟩=false:=fun o=>by simp [World.frozen?,hrtb]
  have hvk:∀ x,Vis (XM hok d.p.OB d.p.WB) F (.run [] [] (uniH hs hs' hs2) S1) x->x<w.heap.size:=fun x hx=>by
    obtain⟨_,_,_,h1⟩:=zcX (XF.soft (hok _ _ _)) hM hx;exact zab h1
  rw [hcs] at hg;rcases hcase with ⟨rfl,q,hq,rfl,rfl,hQ⟩|⟨rfl,hnone,rfl,rfl,rfl⟩
  . rcases hacc:Pr.acc q with ⟨c,n,A,B'⟩
    rw [show accQ (Pr.acc q)=accV c n A B' by rw [hacc];rfl,zls] at hg
    refine (zaM (sl:=sl) (h:=0) 60 hg (zpy hK hst hk3 (hfz 3) fr cs) R).bind fun m2 T2=>?_;rintro ⟨gs2,g2,w2,sl2,q2,B2,rfl,j1,j2,⟨rfl,hK2⟩,R2⟩
    let F3:Emb:=⟨fun n=>if n=VB+d.S.length then w.heap.size else F.blk n,fun n=>if n=VB+d.S.length then 0 else F.base n,F.slack⟩
    have hFF:Same (Kn hs2.next d.S.length) F F3:=fun n hn=>by
      have:n≠VB+d.S.length:=by
        rcases hn with hn|⟨_,hn⟩
        . omega
        . omega
      simp [F3,this]
    have hb3:F3.blk (VB+d.S.length)=w.heap.size:=if_pos rfl;have htl:d.tb<w.heap.size:=zab hrtb
    -- the access comes
    let w3:World:=w.alloc (.cells (zf0 c n A B') 31)
    have hA:RInv (XM hok d.p.OB d.p.WB) F3 (.run [] [] (uniH hs hs' hs2) (S1++[.acc c n A B'])) w3:=by
      refine zgc hok (OB:=d.p.OB) (WB:=d.p.WB) rfl (fun _ h=>h) (fun _ h=>h) (by rw [hl1];exact hFF) (by rw [hl1];exact if_pos rfl) hM (fun hv=>?_) (fun b hb=>.inl hb) (fun x hx=>zaD _ _ _ (hvk x hx)) ?_ (fun z=>?_) (by rw [zaH];omega)
      . have:=hvk _ hv;rw [hl1,hb3] at this;omega
      . show w3.heap[F3.blk (VB+S1.length)]?=_;rw [hl1,hb3];exact zbw _ _
      . rw [hl1,hb3] at z;obtain⟨_,_,h1,_⟩:=hwr _ z;have:=zab h1;omega
    have hlA:(S1++[Ob.acc c n A B']).length=d.S.length+1:=by simp [S1]
    have hSA:(S1++[Ob.acc c n A B'])[d.k]?=some (.thr d.self d.quit false true (some (d.hp,d.p.h,d.dn)) none):=by
      rw [List.getElem?_append_left (by rw [hl1];exact hkl)];exact hS1
    have hbk3:F3.blk (VB+d.k)=d.tb:=by
      rw [htb];exact ((hFF (VB+d.k) (.inr ⟨by omega,by omega⟩)).1).symm
    have hbp3:F3.blk (VB+d.hp)=F.blk (VB+d.hp):=((hFF (VB+d.hp) (.inr ⟨by omega,by omega⟩)).1).symm
    have hS3:(S1++[Ob.acc c n A B']).set d.k (.thr d.self d.quit false true (some (d.hp,d.p.h,d.dn)) (some d.S.length))=d.S.set d.k (.thr d.self d.quit false true (some (d.hp,d.p.h,d.dn)) (some d.S.length))++[.acc c n A B']:=by
      rw [List.set_append_left _ _ (by rw [hl1];exact hkl)]
      simp [S1]
    have hI3:=ze9 hok (w':=w2) (a':=d.self) (b':=d.quit) (c':=false) (d':=true) (e':=some (d.hp,d.p.h,d.dn)) (f':=some d.S.length) hSA (fun c hc=>by cases hc;rw [hlA];show d.hp<_;omega) (fun p hp=>by cases hp;rw [hlA];omega) hA (fun x hx hne=>?_) ?_ (by rw [hK2.heap,zaE];exact Nat.le_refl _)
    . rw [hS3] at hI3;refine .here (fin _ F3 gs2 w2 T2 sl2 ?_ hI3 hFF (by simp) ?_ (fun x hx hlt=>?_) j1 (fun x hx=>?_) ⟨B2,Mem,q2,R2,hM0,hM0⟩ j2 (.inl ⟨q,hq,by rw [hacc]⟩))
      . exact (KeepC.pend hthr _).trans (KeepC.push rfl)
      . rw [hK2.heap,zaE,zaH];omega
      . rw [hK2.heap,heap_setCell,if_neg (fun (e:d.tb=x)=>hx (e ▸ hOtb)),zaD _ _ _ hlt]
      . rw [<-hS3] at hx;rcases zgf (S:=S1) rfl (by rw [hl1];exact hFF.mono fun n hn=>.inr hn) (zgJ hSA hx) with h|h
        . exact (hfpM x h).imp id .inl
        . rw [hl1,hb3] at h;exact .inr (.inr (Nat.le_of_eq h.symm))
    . rw [hbk3] at hne;rw [hK2.heap,heap_setCell,if_neg (fun (e:d.tb=x)=>hne e.symm)]
    . rw [hbk3,hK2.heap,heap_setCell,if_pos rfl,zaD _ _ _ htl,hrtb];simp [zaO,ptrO,hb3,hbp3]
  . rw [zne] at hg;refine (zaM (sl:=sl) (h:=0) 60 hg (zpU hK hst hk4 (hfz 4) fr cs) R).bind fun m2 T2=>?_;rintro ⟨gs2,g2,w2,sl2,q2,B2,rfl,j1,j2,⟨rfl,hK2⟩,R2⟩;have hS3:S1.set d.k (.thr d.self d.quit false false (some (d.hp,d.p.h,d.dn)) none)=d.S.set d.k (.thr d.self d.quit false false (some (d.hp,d.p.h,d.dn)) none):=by simp [S1]
    have hI3:=ze9 hok (w':=w2) (a':=d.self) (b':=d.quit) (c':=false) (d':=false) (e':=some (d.hp,d.p.h,d.dn)) (f':=none) hS1 (fun c hc=>by cases hc;rw [hl1];exact hhpl) (fun p hp=>by cases hp) hM (fun x hx hne=>?_) ?_ (by rw [hK2.heap,zaE];exact Nat.le_refl _)
    . rw [hS3] at hI3;refine .here (fin _ F gs2 w2 T2 sl2 (KeepC.refl _) hI3 (Same.refl _ _) (by simp) ?_ (fun x hx hlt=>?_) j1 (fun x hx=>?_) ⟨B2,Mem,q2,R2,hM0,hM0⟩ j2 (.inr ⟨hnone,rfl⟩))
      . rw [hK2.heap,zaE];omega
      . rw [hK2.heap,heap_setCell,if_neg (fun (e:d.tb=x)=>hx (e ▸ hOtb))]
      . rw [<-hS3] at hx;exact (hfpM x (zgJ hS1 hx)).imp id .inl
    . rw [<-htb] at hne;rw [hK2.heap,heap_setCell,if_neg (fun (e:d.tb=x)=>hne e.symm)]
    . rw [<-htb,hK2.heap,heap_setCell,if_pos rfl,hrtb];simp [zaO]
end
section
variable {p:Par} {Su:SuT} {S S0:St} {F:Emb} {N C:Nat} {Inb:Nat->Option Seat} {gs gs':Array Goroutine} {w w':World} {T T':Trace}
theorem Com.apartG (H:Com p Su S F N C Inb gs w T) (hr:p.run=none) {k hp gid dn:Nat} {self wself:Int} {quit steps ask grant:Nat} {closed bz:Bool} {pend:Option Nat} (hthr:S[k]?=some (.thr self quit closed bz (some (hp,gid,dn)) pend)) (hwp:S[hp]?=some (.wp wself steps ask grant quit)) :
    ∀ i s' c,i≠0->Inb i=some s'->s'.has c->c≠ask/\c≠dn:=by
  intro i s' c h0 hi hc;have t:=H.tab;obtain⟨_,_,h3⟩:=H.seats i s' hi;obtain⟨k2,a1,a2,a3,hp2,dn2,pe2,b1,b2⟩:=h3 h0;obtain⟨_,h4⟩:=H.waits k2 _ _ _ _ _ _ _ b2;obtain⟨ws2,st2,ak2,gr2,ab2,x2,y2,cs2,c1,c2,_⟩:=h4 b1;rw [c2] at hi;cases hi;rcases zcU hc with rfl|rfl
  . exact⟨fun e=>absurd (t.dist' (.grant c1) (.ask hwp) e).2 (by decide),fun e=>absurd (t.dist' (.grant c1) (.done hthr) e).2 (by decide)⟩
  . exact⟨fun e=>absurd (t.dist' (.quit b2) (.ask hwp) e).2 (by decide),fun e=>absurd (t.dist' (.quit b2) (.done hthr) e).2 (by decide)⟩
theorem zlG {wb wb':Nat} {ab ab':Nat × Nat} {ak qt gr ak' qt' gr':Nat} {x y x' y':Value} {cs cs':List Frame} (h:zcH wb ab ak qt gr x y cs=zcH wb' ab' ak' qt' gr' x' y' cs'):qt=qt':=by
  have h1:=congrArg Seat.cases h;simp only [zcH] at h1;have h2:=congrArg (fun a:Array CommCase=>(a[1]?).map (·.chan)) h1;simpa [rcase] using h2
theorem Com.lend (H:Com p Su S F N C Inb gs w T) (hr:p.run=none) (hSu:zcu Su) {k hp gid dn:Nat} {self:Int} {quit:Nat} {closed:Bool} {pend:Option Nat} (hthr:S[k]?=some (.thr self quit closed true (some (hp,gid,dn)) pend)) {sG:Seat} {Iv:Nat->World->Prop} {PX:Nat->Prop} {wR:World} {FR:Emb} {NR CR n0':Nat} {w0':World}
    (hs:w.heap.size<=w'.heap.size) (hk:∀ c,¬ p.OB c->(zbd w c->zbd w' c)/\∀ cap,ChanO w c cap->ChanO w' c cap) (hsz:gs'.size=gs.size)
    (hring:∃ B Mem q,RingO Try.prog p.OB p.WB B Iv Mem (fun i=>if i=gid then none else if i=0 then some sG else Inb i) gid T' gs' w' q/\Mem 0/\Mem gid):Com ⟨gid,some k,p.OB,p.WB,Iv,some sG,PX,wR,FR,NR,CR,n0',w0'⟩ Su S F N C (fun i=>if i=gid then none else if i=0 then some sG else Inb i) gs' w' T':=by
  have t:=H.tab;obtain⟨_,hp',gid',dn',ws',st',ak',gr',e1,e2,_,_,_,hgid,hgsz,_⟩:=t.busy _ _ _ _ _ _ hthr;cases e1;have huniq:∀ (k':Nat) a b c hp' dn' f,S[k']?=some (Ob.thr a b c true (some (hp',gid,dn')) f)->k'=k:=fun k' a b c hp' dn' f hk'=>by
    obtain⟨ws1,st1,ak1,gr1,ab1,x1,y1,cs1,c1,c2,_⟩:=(H.waits k _ _ _ _ _ _ _ hthr).2 (by rw [hr];simp)
    obtain⟨ws2,st2,ak2,gr2,ab2,x2,y2,cs2,d1,d2,_⟩:=(H.waits k' _ _ _ _ _ _ _ hk').2 (by rw [hr];simp)
    have:=zlG (Option.some.inj (d2.symm.trans c2));subst this;exact (t.dist _ _ _ _ _ (.quit hk') (.quit hthr)).1
  refine⟨hring,by rw [hsz];exact t.turn (p:=p) H.c0 (Same.refl (Kn N C) F) hs hk,?_,fun i s hi=>?_,fun k' a b c hp' gid' dn' f hk'=>?_,H.n0,H.c0⟩
  . show (if 0=gid then none else if 0=0 then some sG else Inb 0)=some sG
    rw [if_neg (by omega),if_pos rfl]
  . show i≠gid/\i<gs'.size/\_;by_cases z:i=gid
    . simp [z] at hi
    rw [if_neg z] at hi;by_cases z0:i=0
    . refine⟨z,by omega,fun h=>absurd z0 h⟩
    rw [if_neg z0] at hi;obtain⟨_,h2,h3⟩:=H.seats i s hi;refine⟨z,by omega,fun _=>?_⟩
    obtain⟨k',a1,a2,a3,a4,a5,a6,a7,a8⟩:=h3 z0;refine⟨k',a1,a2,a3,a4,a5,a6,fun e=>?_,a8⟩;have e:some k=some k':=e;cases e;rw [hthr] at a8;cases a8;exact z rfl
  . refine⟨fun e=>?_,fun hne=>?_⟩
    . have e:some k=some k':=e;cases e;rw [hthr] at hk';cases hk';rfl
    . obtain⟨ws2,st2,ak2,gr2,ab2,x2,y2,cs2,d1,d2,d3⟩:=(H.waits k' _ _ _ _ _ _ _ hk').2 (by rw [hr];simp)
      refine⟨ws2,st2,ak2,gr2,ab2,x2,y2,cs2,d1,?_,d3⟩;have z:gid'≠gid:=fun e=>by
        subst e;exact hne (by rw [huniq _ _ _ _ _ _ _ hk'])
      obtain⟨_,_,_,_,_,_,_,_,z1,_,_,_,_,z2,_⟩:=t.busy _ _ _ _ _ _ hk';cases z1;show (if gid'=gid then none else if gid'=0 then some sG else Inb gid')=_
      rw [if_neg z,if_neg (by omega)]
      exact d2
end
theorem zk7 (tb wb dn ak:Nat) (cs:List Frame) (h:ak≠dn):(zbR tb wb dn ak cs).Wf:=by
  refine⟨fun cc h=>?_,fun k m c z z' h1 h2=>?_⟩
  . simp only [zbR,List.mem_toArray,List.mem_cons,List.not_mem_nil,or_false] at h;rcases h with rfl|rfl
    . exact⟨_,_,rfl⟩
    . exact⟨_,_,rfl⟩
  . rcases k with _|_|k<;>rcases m with _|_|m<;>simp [zbR,rcase] at h1 h2<;>omega
section
variable (hok:∀ mn OB WB,zau mn OB WB)
variable {Γ:Type} {Pr:Proto Γ}
variable {n00:Nat} {w00:World}
variable {p:Par} {S:St} {F:Emb} {Inb:Nat->Option Seat} {gs:Array Goroutine} {w:World} {T:Trace} {sl:Option (Nat × Nat)}
theorem zmN {γ γ1:Γ} {hs hs':AHeap} {k hp gid dn pd s ask grant quit:Nat} {self wself:Int} {q:Pr.Ph} {v:UInt64} {fr:Frame} {cs:List Frame} (hC:ClM n00 w00 () (γ,S) p) (hthr:S[k]?=some (.thr self quit false true (some (hp,gid,dn)) (some pd))) (hwp:S[hp]?=some (.wp wself s ask grant quit))
    (hph:Pr.ph γ k=some q) (hl:LendH hs hs') (hRun:Pr.Run k q v γ1 hs' (cntS S hp wself (s+1) ask grant quit)) (hfu:Pr.fuel γ1<Pr.fuel γ) (hph1:∀ i,i≠k->Pr.ph γ1 i=Pr.ph γ i) (H:Standing p hok (SuM hok Pr () γ) S F (.run [] [] hs S) Inb gs w T)
    (hg:gs[0]?=some (Go.Conc.G ((base 11).at ⟨#[pt (F.blk (VB+k)),.int .u64 (v.toNat:Int),undef,undef,undef,undef,undef,undef,undef,undef,undef,undef,undef,undef,undef,undef,undef,undef,undef,undef,undef,undef,undef,undef],[]⟩ [.code zc6]) (fr::cs))) :
    Reach Try.prog (crowd gs w sl) T fun m T'=>∃ d:BD Γ,d.p.FR=F/\d.k=k/\d.hp=hp/\d.self=self/\d.quit=quit/\d.p.h=gid/\d.dn=dn/\d.S=cntS S hp wself (s+1) ask grant quit/\d.γ=γ1/\zm6 hok Pr n00 w00 d hs hs' hs.next S.length (zc7 (F.blk (VB+k)) (F.blk (VB+hp)) grant ⟨F.blk (VB+pd),0,none⟩ (.int .u64 (v.toNat:Int)) [1]) (fr::cs) m T':=by
  obtain⟨h0,hrun,hseat,hPX,hn00,hw00⟩:=hC;have hX:=zdh hok h0;have Rp:Rep true p.OB p.WB F S w:=by
    have:=H.inv.1.rep;rw [hX] at this;exact this
  obtain⟨hOtb,_,_,hrtb⟩:=Rp.at' _ _ hthr rfl;obtain⟨hWwb,told,hrwb⟩:=H.wp hok hwp;generalize htbE:F.blk (VB+k)=tb at *;generalize hwbE:F.blk (VB+hp)=wb at *;have hG:KGr w tb wb dn ask grant ⟨F.blk (VB+pd),0,none⟩:=⟨by simp [World.cell?,hrtb,zaO,ptrO,hwbE],by simp [World.cell?,hrtb,zaO,ptrO],by simp [World.cell?,hrwb,zdp,chV]⟩
  obtain⟨B0,Mem0,q0,R0,hM0,_⟩:=H.com.ring;rw [h0] at R0;refine (zaM (sl:=sl) (h:=0) 60 hg (zok hG ⟨rfl⟩ (fr::cs)) R0).bind fun m2 T2=>?_;rintro ⟨gs2,g2,w2,sl2,q2,B2,rfl,j1,j2,⟨rfl,hKM⟩,R2⟩;have H2:Standing p hok (SuM hok Pr () γ) S F (.run [] [] hs S) Inb gs2 w2 T2:=H.grown hok (SuM.mono hok Pr () γ) (fun x _ _=>by rw [hKM.heap]) (by rw [hKM.heap];exact Nat.le_refl _) j1 ⟨B2,Mem0,q2,h0 ▸ R2,hM0,h0 ▸ hM0⟩
  have hrtb2:w2.heap[tb]?=some (.cells (zaO F self quit false true (some (hp,gid,dn)) (some pd)) 72 (0,0)):=by rw [hKM.heap];exact hrtb
  have hrwb2:w2.heap[wb]?=some (.cells (zdp wself s (.pointer told) ask grant quit) 77 (0,0)):=by rw [hKM.heap];exact hrwb
  have hc:=H2.com;have t:=hc.tab;obtain⟨_,hp',gid',dn',ws',st',ak',gr',e1,e2,cask,cgr,cdn,hgid,hgsz,hbox⟩:=t.busy _ _ _ _ _ _ hthr;cases e1;rw [hwp] at e2;cases e2;have cqt:=t.quit _ _ _ _ _ _ hthr;have fask:=t.far _ _ _ (.ask hwp);have fgr:=t.far _ _ _ (.grant hwp);have fdn:=t.far _ _ _ (.done hthr);have hap:∀ x,p.OB x->¬ p.WB x:=R2.apart;have hne:ask≠dn:=fun e=>absurd (t.dist' (.ask hwp) (.done hthr) e).2 (by decide)
  have hlow:∀ {x},zbd w2 x->x<w2.heap.size:=fun {x} hx=>by obtain⟨_,_,_,_,_,_,h1⟩:=hx;exact zab h1
  have htl:tb<w2.heap.size:=zab hrtb2;have hwl:wb<w2.heap.size:=zab hrwb2
  -- goroutine 0 takes its seat
  let pb:Addr:=⟨F.blk (VB+pd),0,none⟩
  let vv:Value:=.int .u64 (v.toNat:Int)
  let cs0:List Frame:=zc7 tb wb grant pb vv [1]::fr::cs
  let sG:Seat:=zbR tb wb dn ask cs0
  let wN:World:=w2.setCell ⟨tb,3,none⟩ (.pointer none)
  let Inb1:Nat->Option Seat:=fun i=>if i=0 then some sG else Inb i
  have R3:RingO Try.prog p.OB p.WB (max B2 w2.heap.size) (IvN p.OB wN) Mem0 Inb 0 T2 gs2 w2 q2:=(CoF.mono (Nat.le_max_left _ _) (Nat.max_le.2 ⟨R2.lowB,Nat.le_refl _⟩) R2).iv (fun i w w1 hr hi h b hb=>(hr.2 h b hb).trans (hi h b hb)) (fun i s w' hi _ _ h=>absurd h hi);have R4:RingO Try.prog p.OB p.WB (max B2 w2.heap.size) (IvN p.OB wN) Mem0 Inb1 0 T2 gs2 w2 q2:=R3.reseat hM0 sG (zk7 _ _ _ _ _ hne)
    (fun c hcc=>by rcases zbT hcc with rfl|rfl;exact⟨_,cask⟩;exact⟨_,cdn⟩)
    (fun c hcc=>by rcases zbT hcc with rfl|rfl;exact fask.2.1;exact fdn.2.1)
    (fun c hcc=>by
      have:c<w2.heap.size:=by rcases zbT hcc with rfl|rfl;exact hlow fask.1;exact hlow fdn.1
      omega)
    (fun i s' c hi hs hx hcc=>by
      obtain⟨h1,h2⟩:=hc.apartG hrun hthr hwp i s' c hi hs hx;rcases zbT hcc with z|z
      . exact h1 z
      . exact h2 z)
  obtain⟨wsx,stx,akx,grx,ab,x,y,csb,c1,c2,hSuk⟩:=(hc.waits _ _ _ _ _ _ _ _ hthr).2 (by rw [hrun];simp)
  rw [hwp] at c1;cases c1;rw [hwbE] at c2 hSuk;have hIg:Inb1 gid=some (zcH wb ab ask quit grant x y csb):=by
    show (if gid=0 then _ else _)=_
    rw [if_neg (by omega)];exact c2
  obtain⟨kg,hkg⟩:=cgr;refine (zsM (P:=Try.prog) (h:=0) (j:=gid) (kk:=0) (kh:=0) (c:=grant) (v:=vv) (z:=.int .u64 0) (z':=.tuple #[]) (cases:=#[scase grant vv (.tuple #[])]) (shape:=.send) (by omega) hIg rfl hM0 rfl fgr.2.2 (fun main w=>zmj tb wb grant pb vv (fr::cs) main w) rfl (fun m c' hm hc'=>?_) (Inb':=Inb1) (fun _ _=>rfl) (.inl rfl) (nh:=46) w2 (fun T' w1 k1 _ hw1 _=>?_) _ (sl:=sl2) false rfl hgsz (SideD.refl w2) hkg j2 (fun z=>by cases z) R4).bind fun m T3=>?_
  . rcases m with _|m
    . exact absurd rfl hm
    . simp at hc'
  . rw [zlZ];have hh1:w1.heap=w2.heap:=Array.ext_getElem? fun b=>hw1.only b fun z=>z.2 rfl;have hneg:∀ b,p.OB b\/b=wb->(w1.setChan grant 0 #[] false (k1+1) (k1+1) false).heap[b]?=w2.heap[b]?:=fun b hb=>by
      rw [heap_setChan_ne _ _ _ _ _ _ _ (fun e=>?_),hh1];rcases hb with hb|rfl
      . exact fgr.2.1 (e ▸ hb)
      . exact fgr.2.2 (e ▸ hWwb)
    have hKG:KG p.OB p.WB w2 tb wb dn ask (w1.setChan grant 0 #[] false (k1+1) (k1+1) false):=⟨fun b hb=>hneg b (.inl hb),hOtb,hWwb,by simp [World.cell?,hrtb2,zaO,ptrO,hwbE],by simp [World.cell?,hrtb2,zaO],⟨_,by simp [World.cell?,hrtb2,zaO];rfl⟩,by simp [World.frozen?,hrtb2],by rw [zaZ w2 _ _ (hneg _ (.inr rfl))];simp [World.cell?,hrwb2,zdp,chV]⟩
    refine .inl ⟨45,rfl,?_⟩;exact zd2 (fun g w h=>⟨h.1,fun _ b hb=>h.2.own b hb⟩) (zmd (B:=max B2 w2.heap.size) (pb:=pb) (v:=vv) hKG (fun e=>hap tb hOtb (e ▸ hWwb)) (by omega) (by omega) (fr::cs))
  rintro ⟨gs3,gq,w1,k1,sl3,q3,rfl,b1,b2,b3,b4,b5,b6,R5⟩;have b3:gq=doG wb ab ask quit grant x y csb:=b3;subst b3;have hh1:w1.heap=w2.heap:=Array.ext_getElem? fun b=>b4.only b fun z=>z.2 rfl;have hset:∀ x,x≠grant->(w1.setChan grant 0 #[] false (k1+1) (k1+1) false).heap[x]?=w2.heap[x]?:=fun x hx=>by
    rw [heap_setChan_ne _ _ _ _ _ _ _ (fun e=>hx e.symm),hh1]
  have hgr3:(w1.setChan grant 0 #[] false (k1+1) (k1+1) false).heap[grant]?=some (.chan 0 #[] false (k1+1) (k1+1) false):=heap_setChan_self w1 b6 _ _ _ _ _ _;have hsz3:(w1.setChan grant 0 #[] false (k1+1) (k1+1) false).heap.size=w2.heap.size:=by rw [<-hh1];simp [World.setChan]
  generalize hw3:w1.setChan grant 0 #[] false (k1+1) (k1+1) false=w3 at *;have hvis:∀ x,Vis (XM hok p.OB p.WB) F (.run [] [] hs S) x->w3.heap[x]?=w2.heap[x]?:=fun x hx=>hset x fun e=>H2.chan_out hok fgr.1 (hX ▸ e ▸ hx);have hinv2:RInv (XM hok p.OB p.WB) F (.run [] [] hs S) w2:=hX ▸ H2.inv;have hinv3:RInv (XM hok p.OB p.WB) F (.run [] [] hs S) w3:=zeo (Nat.le_of_eq hsz3.symm) hvis hinv2;have hch:∀ c,¬ p.OB c->(zbd w2 c->zbd w3 c)/\∀ cap,ChanO w2 c cap->ChanO w3 c cap:=fun c hO=>by
    by_cases e:c=grant
    . subst e;refine⟨fun _=>⟨_,_,_,_,_,_,hgr3⟩,fun cap h=>?_⟩;obtain⟨m,hm⟩:=h;rw [hkg] at hm;cases hm;exact⟨_,hgr3⟩
    . refine⟨fun h=>?_,fun cap h=>?_⟩
      . obtain⟨a1,a2,a3,a4,a5,a6,a7⟩:=h;exact⟨a1,a2,a3,a4,a5,a6,by rw [hset c e];exact a7⟩
      . obtain⟨m,hm⟩:=h;exact⟨m,by rw [hset c e];exact hm⟩
  -- the body goes on
  obtain⟨q',F0,n0,c0,n,z1,z2,z3,z4,z5,z6⟩:=hSuk;rw [hph] at z1;cases z1
  let d:BD Γ:=⟨⟨gid,some k,p.OB,p.WB,IvN p.OB wN,some sG,zmS F hs hs',w3,F,hs.next,S.length,p.n0,p.w0⟩,SuM hok Pr () γ,k,hp,self,quit,dn,some pd,wself,s+1,ask,grant,γ1,cntS S hp wself (s+1) ask grant quit,wN,tb,cs0⟩
  have hcom3:Com d.p (SuM hok Pr () γ) S F hs.next S.length (fun i=>if i=gid then none else if i=0 then some sG else Inb i) gs3 w3 T3:=hc.lend hrun (SuM.mono hok Pr () γ) hthr (Nat.le_of_eq hsz3.symm) hch b1 ⟨_,_,_,R5.unseat,⟨hM0,.inl (by show (if 0=0 then some sG else _)≠none;simp)⟩,⟨(R4.mem gid _ hIg).1,.inr rfl⟩⟩
  have t3:=hcom3.tab;have hXb:=zkD hok (p:=d.p) (by show gid≠0;omega)
  have hdok:d.Ok:=by
    refine⟨SuM.mono hok Pr () γ,rfl,by show gid≠0;omega,rfl,?_,(zbZ hwp).2 hthr,zfp hwp,cnt_len.symm,fun x hx=>(zfg hok hinv3 hl t3 hx).2.2.2⟩
    show some sG=some (zbR tb (F.blk (VB+hp)) dn ask cs0);rw [hwbE]
  have hstand:Standing d.p hok d.Su S F (.run [] [] hs' S) (fun i=>if i=gid then none else if i=0 then some sG else Inb i) gs3 w3 T3:=by
    refine⟨?_,hXb ▸ zgk hok hinv3 hl,fun _ x hx=>hXb ▸ zke hok hinv3 hl t3 hx,fun x hx=>?_,fun x hx=>?_,fun n r hr hW=>H2.wro n r (hl.sub n r hr) hW,H2.base.move (Nat.le_of_eq hsz3.symm) (fun x _ hx=>?_) (fun _ _ h=>h) (fun x _ _ _ h4=>hset x (h4 _ _ _ (.grant hwp))) (fun _ _ _ h=>.inl h),Same.refl _ _,Nat.le_of_eq hl.next.symm,Nat.le_refl _⟩
    . show Com d.p (SuM hok Pr () γ) S F hs'.next S.length _ gs3 w3 T3;rw [hl.next];exact hcom3
    . obtain⟨y1,y2,y3,_⟩:=zfg hok hinv3 hl t3 hx;exact⟨y1,hXb ▸ y2,y3,rfl⟩
    . obtain⟨cc,el,y1,y2⟩:=H2.wrow x hx;exact⟨cc,el,(hset x fun e=>by rw [e,hkg] at y1;cases y1).trans y1,y2⟩
    . rw [hXb] at hx;rw [hX];rcases hx with ⟨n,r,h1,h2,h3⟩|⟨i,ob,h1,h2⟩
      . exact .inl ⟨n,r,hl.sub n r h1,h2,h3⟩
      . exact .inr ⟨i,ob,h1,zbF h2⟩
  refine ((BSusp.unfold hok z6).1 d s S F hs' _ gs3 w3 sl3 T3 v hdok rfl rfl rfl rfl hwp rfl hstand ?_ z2 (by rw [hl.next];exact z3) z4 hRun (by show Pr.fuel γ1<n;omega)).bind fun m4 T4 hCame=>?_
  . exact b2
  have L:zqY hok Pr d γ hs hs' S:=by
    refine⟨hdok,hl,hinv3,cnt_len.symm,rfl,rfl,fun x hx=>hx,htbE.symm,H2.wro,fun i a b c e f g hi=>?_,fun i i' hne hi hi'=>?_,rfl,hph1,Nat.le_of_lt hfu,fun n r hr hro=>Nat.le_of_not_lt fun hlt=>(H2.base.low _ hlt).2.1 (by rw [hX];exact .inl ⟨n,r,hr,hro,rfl⟩)⟩
    . have hi:((cntS S hp wself (s+1) ask grant quit).set k (.thr self quit false true (some (hp,gid,dn)) none))[i]?=some (Ob.thr a b c e f g):=hi;have hlc:(cntS S hp wself (s+1) ask grant quit).length=S.length:=cnt_len;have Rp2:Rep true p.OB p.WB F S w2:=hinv2.1.rep;show _/\_/\(w2.setCell ⟨tb,3,none⟩ (.pointer none)).heap[F.blk (VB+i)]?=some (.cells (zaO F a b c e f g) 72 (0,0));by_cases zi:i=k
      . subst zi;rw [List.getElem?_set_self (by rw [hlc];exact zaL hthr)] at hi
        cases hi;refine⟨fun c hc=>(by cases hc;rw [hlc];exact zaL hwp),fun p hp=>(by cases hp),?_⟩
        rw [htbE,heap_setCell,if_pos rfl,hrtb2];simp [zaO,ptrO,hwbE]
      . rw [List.getElem?_set_ne (Ne.symm zi)] at hi;have hi':=(zbZ hwp).1 hi;obtain⟨y1,y2,y3,y4⟩:=Rp2.at' _ _ hi' rfl;refine⟨fun c hc=>by rw [hlc];exact y2 c hc,fun c hc=>by rw [hlc];exact y3 c hc,?_⟩
        rw [heap_setCell,if_neg]
        . exact y4
        intro e;have e:tb=F.blk (VB+i):=e;exact Rp2.apart i k _ _ zi hi' hthr (F.blk (VB+i)) (by simp [zay]) (by rw [<-e,<-htbE];simp [zay])
    . have Rp2:Rep true p.OB p.WB F S w2:=hinv2.1.rep;have key:∀ j:Nat,(∃ a b c x e f,((cntS S hp wself (s+1) ask grant quit).set k (.thr self quit false true (some (hp,gid,dn)) none))[j]?=some (Ob.thr a b c x e f))->∃ a b c x e f,S[j]?=some (Ob.thr a b c x e f):=by
        rintro j ⟨a,b,c,x,e,f,hj⟩;by_cases zj:j=k
        . subst zj;exact⟨_,_,_,_,_,_,hthr⟩
        . rw [List.getElem?_set_ne (Ne.symm zj)] at hj;exact⟨_,_,_,_,_,_,(zbZ hwp).1 hj⟩
      obtain⟨_,_,_,_,_,_,y1⟩:=key i hi;obtain⟨_,_,_,_,_,_,y2⟩:=key i' hi';exact fun e=>Rp2.apart i i' _ _ hne y1 y2 (F.blk (VB+i)) (by simp [zay]) (by simp only [zay,if_true,List.mem_cons,List.not_mem_nil,or_false];exact e)
  exact (zjH hok L rfl hn00 hw00 hCame).mono fun m5 T5 hB=>⟨d,rfl,rfl,rfl,rfl,rfl,rfl,rfl,rfl,rfl,hB⟩
end
section
variable (hok:∀ mn OB WB,zau mn OB WB)
variable {Γ:Type} (Pr:Proto Γ)
def zkd (Q:Value->AHeap->St->Γ × St->Prop) (r:Value) (hs hs':AHeap) (k:Nat) (self:Int) (quit hp gid dn:Nat) (S:St) (γ1:Γ):Prop :=
  ∀ (γ2:Γ) (hs2:AHeap),Pr.Inv γ2 hs2 S->Pr.FC γ2 γ1->(∀ i,i≠k->Pr.ph γ2 i=Pr.ph γ1 i)->hs.next<=hs2.next ->
    (∀ q,Pr.ph γ2 k=some q->Q r (uniH hs hs' hs2) (S.set k (.thr self quit false true (some (hp,gid,dn)) (some S.length))++[.acc (Pr.acc q).1 (Pr.acc q).2.1 (Pr.acc q).2.2.1 (Pr.acc q).2.2.2]) (γ2,S.set k (.thr self quit false true (some (hp,gid,dn)) (some S.length))++[.acc (Pr.acc q).1 (Pr.acc q).2.1 (Pr.acc q).2.2.1 (Pr.acc q).2.2.2])) /\
    (Pr.ph γ2 k=none->Q r (uniH hs hs' hs2) (S.set k (.thr self quit false false (some (hp,gid,dn)) none)) (γ2,S.set k (.thr self quit false false (some (hp,gid,dn)) none)))
def znE:SpT Γ:=fun f args hs S γ Q=>∃ (k hp gid dn pd s ask grant quit:Nat) (self wself:Int) (v:UInt64) (q:Pr.Ph) (hs':AHeap) (γ1:Γ),f=11/\args=#[hndV k,.int .u64 (v.toNat:Int)]/\KeepC γ.2 S/\S[k]?=some (.thr self quit false true (some (hp,gid,dn)) (some pd))/\S[hp]?=some (.wp wself s ask grant quit) /\
  Pr.ph γ.1 k=some q/\LendH hs hs'/\Pr.Run k q v γ1 hs' (cntS S hp wself (s+1) ask grant quit)/\Pr.fuel γ1<Pr.fuel γ.1/\(∀ i,i≠k->Pr.ph γ1 i=Pr.ph γ.1 i)/\zkd Pr Q (.bool true) hs hs' k self quit hp gid dn (cntS S hp wself (s+1) ask grant quit) γ1
variable {Pr}
variable {n00:Nat} {w00:World}
variable {p:Par} {Su:SuT} {S S0:St} {F:Emb} {c:Conf St} {Inb:Nat->Option Seat} {gs:Array Goroutine} {w:World} {T:Trace} {sl:Option (Nat × Nat)}
theorem Standing.keep (k:KeepC S0 (st c)) (H:Standing p hok Su S0 F c Inb gs w T):Standing p hok Su (st c) F c Inb gs w T:=⟨H.com.keep k (Nat.le_refl _),H.inv,H.ov,H.prot,H.wrow,H.wro,⟨H.base.low,fun a b c h=>H.base.ch a b c (k.ch h)⟩,H.same⟩
theorem zly:Try.f11.body=some zc6:=rfl
set_option maxRecDepth 100000 in
theorem zkw {k:Nat} {v:Int} (hb:F.base (VB+k)=0):actF F (zag Try.f11 zc6 #[hndV k,.int .u64 v]).2=⟨#[pt (F.blk (VB+k)),.int .u64 v,undef,undef,undef,undef,undef,undef,undef,undef,undef,undef,undef,undef,undef,undef,undef,undef,undef,undef,undef,undef,undef,undef],[]⟩:=by
  simp only [zag,Try.ntmps11];simp [actF,adr,hndV,zaS,hb,List.replicate]
theorem znK {Fin:Unit->Machine->Trace->Prop} {hs:AHeap} {d:BD Γ} {hs':AHeap} {fr:Frame} {r:Value} {Q:Value->AHeap->St->Γ × St->Prop} {k hp gid dn quit:Nat} {self:Int} {S1:St} {γ1:Γ} (hbk:zkd Pr Q r hs hs' k self quit hp gid dn S1 γ1)
    (hd:d.p.FR=F/\d.k=k/\d.hp=hp/\d.self=self/\d.quit=quit/\d.p.h=gid/\d.dn=dn/\d.S=S1/\d.γ=γ1) {b:Frame} {cs:List Frame} {F0:Emb} {N0 C0 n0 c0:Nat} {ops:Array Oper} {i:Nat} {rest:List Nat} {kk:List Item} {tmps:List Value} {o:Oper} (ho:ops[i]?=some o) (hN:hs.next=n0) (hst:∀ u∈tmps,Stab (Kn n0 c0) F u) (hr:zac r=true) (hc0:c0<=S1.length)
    (hret:∀ {OB WB:Nat->Prop} {Inb:Nat->Option Seat} {n0:Nat} {w0 w:World} (c0:Frame) (cs:List Frame),KA OB WB Inb n0 w0 w->Conc.Goes Try.prog true (Ro OB 0) (DO OB WB Inb 0) (fun g w'=>g=Go.Conc.G (c0.finish r) cs/\KA OB WB Inb n0 w0 w') 20 (Go.Conc.G (fr.finish (.tuple #[])) (c0::cs)) w)
    (hF:Same (Kn N0 C0) F0 F) (hN0:N0<=n0) (hC0:C0<=c0) (K:∀ v h1 S1 γ',Q v h1 S1 γ'->Safe hok (ClM n00 w00) (SuM hok Pr) Fin b cs F0 N0 C0 (.run (.inRegion ops rest::kk) (putL o.dst v tmps) h1 S1) γ') {m:Machine}
    (hB:zm6 hok Pr n00 w00 d hs hs' n0 c0 fr (b.at (actF F tmps) (.inRegion ops (i::rest)::kk)::cs) m T):Reach Try.prog m T (Fin ()):=by
  obtain⟨rfl,rfl,rfl,rfl,rfl,rfl,rfl,rfl,rfl⟩:=hd;obtain⟨gs,w,sl,F2,hs2,γ2,Inb,p,S3,rfl,hg,hC,H,hsame,hn,hInv,hfu,hph,hS3⟩:=hB;obtain⟨h0,hrun,hseat,hPX,hn00,hw00⟩:=id hC;obtain⟨B,Mem,q0,R,hM0,_⟩:=H.com.ring;rw [h0] at R;have hlow:=zfE H.com H.wrow;refine (zaM (sl:=sl) (h:=0) 20 hg (hret _ cs ⟨rfl,hlow,Nat.le_refl _⟩) R).bind fun m2 T2=>?_;rintro ⟨gs2,g2,w2,sl2,q2,B2,rfl,j1,j2,⟨rfl,hK⟩,R2⟩;have H2:=H.grown hok (SuM.mono hok Pr () γ2) (w':=w2) (gs':=gs2) (T':=T2) (fun x _ _=>by rw [hK.heap]) (by rw [hK.heap];exact Nat.le_refl _) j1 ⟨B2,Mem,q2,h0 ▸ R2,hM0,h0 ▸ hM0⟩
  obtain⟨hq1,hq2⟩:=hbk γ2 hs2 hInv hfu hph (by rw [hN];exact hn)
  have hlen:d.S.length<=S3.length:=by
    rcases hS3 with ⟨q,_,rfl⟩|⟨_,rfl⟩
    . simp
    . simp
  have hQ:Q r (uniH hs hs' hs2) S3 (γ2,S3):=by
    rcases hS3 with ⟨q,hq,rfl⟩|⟨hq,rfl⟩
    . exact hq1 q hq
    . exact hq2 hq
  have hfin:(b.at (actF d.p.FR tmps) (.inRegion ops (i::rest)::kk)).finish r=b.at (actF F2 (putL o.dst r tmps)) (.inRegion ops rest::kk):=by
    rw [Frame.finish_at,ho];show b.at ((actF d.p.FR tmps).put o.dst r) (.inRegion ops rest::kk)=_;rw [<-zbo hst hsame,<-zcI,zaC F2 hr]
  rw [hfin] at j2;have hKK:∀ x,Kn n0 c0 x->Kn hs2.next S3.length x:=fun x hx=>hx.mono hn (by omega)
  exact K r _ S3 (γ2,S3) hQ () p Inb F2 gs2 w2 sl2 T2 _ hC (Standing.conf hok H2 rfl rfl (zb9 (fun u hu=>(hst u hu).move hsame hKK) (Stab.plain hr) o.dst)) (h0 ▸ j2) rfl (hF.trans (hsame.mono fun x hx=>hx.mono hN0 hC0)) (Nat.le_trans hN0 hn) (by show C0<=S3.length;omega)
theorem zp8 {Fin:Unit->Machine->Trace->Prop} {Stk:List Frame->Prop}:SpOK hok (ClM n00 w00) (SuM hok Pr) Fin Stk (znE Pr):=by
  intro f args hs S γ Q hsp b cs F0 N0 C0 fn ops i rest kk tmps o hfn hkd hsk ho hw hb' hca K d p Inb F gs w sl T g hC H hg hgS hF hN hC0;obtain⟨k,hp,gid,dn,pd,s,ask,grant,quit,self,wself,v,q,hs',γ1,rfl,rfl,hkeep,hthr,hwp,hph,hl,hRun,hfu,hph1,hbk⟩:=hsp;obtain⟨h0,hrun,hseat,hPX,hn00,hw00⟩:=id hC;have hst:∀ u∈tmps,Stab (Kn hs.next S.length) F u:=fun u hu=>H.inv.1.vst u hu;refine (zbY hok (SuM.mono hok Pr d γ.1) ho hw hb' hca Try.func11 rfl zly hkd H hg hgS).bind fun m1 T1=>?_;rintro ⟨gs1,w1,sl1,rfl,k1,H1⟩;have H1:Standing p hok (SuM hok Pr d γ.1) S F (.run [] [] hs S) Inb gs1 w1 T1:=Standing.keep (c:=.run [] [] hs S) hok hkeep (Standing.conf hok H1 rfl rfl (fun v hv=>by cases hv))
  have Rp:Rep p.mn p.OB p.WB F S w1:=H1.inv.1.rep;rw [zkw (Rp.base _ _ hthr rfl)] at k1;refine (zmN hok (sl:=sl1) ⟨h0,hrun,hseat,hPX,hn00,hw00⟩ hthr hwp hph hl hRun hfu hph1 H1 (h0 ▸ k1)).bind fun m2 T2=>?_;rintro ⟨d',e1,e2,e3,e4,e5,e6,e7,e8,e9,hB⟩;exact znK hok hbk ⟨e1,e2,e3,e4,e5,e6,e7,e8,e9⟩ ho rfl hst rfl (Nat.le_of_eq cnt_len.symm) (fun c0 cs hK=>znp hK c0 cs) hF hN hC0 K hB
end
section
variable {OB WB:Nat->Prop} {Inb:Nat->Option Seat}
theorem DO.alloc0 {w:World} {o:Obj} {es:Array Event} (hW:∀ b,WB b->b<w.heap.size) (hS:∀ i s c,Inb i=some s->s.has c->c<w.heap.size) (hs:∀ e∈es,EvO OB WB 0 (w.alloc o) e):DO OB WB Inb 0 w (w.alloc o) es :=
  ⟨fun i s c hi hc=>zaD w o c (hS i s c hi hc),fun a ha _=>zaZ _ _ _ (zaD w o _ (hW _ ha)),fun h=>absurd rfl h,by rw [zaH];omega,rfl,hs⟩
noncomputable def newC:Code:=(Try.f6.body).getD .skip
noncomputable def zjW:Array Oper:=cOps (cL (cR newC))
noncomputable def newR:Code:=cR (cR newC)
abbrev thrV (self:Int) (qc:Nat):Value:=.agg #[.int .i64 self,.pointer none,.chan none,.pointer none,.bool false,.bool false,.chan (some qc)]
noncomputable def zpM (self:Int) (qc:Nat) (rest:List Nat):Frame:=(base 6).at ⟨#[.int .i64 self,undef,.pointer none,.int .i64 self,.chan (some qc),thrV self qc,undef],[]⟩ [.inRegion zjW rest,.code newR]
theorem zli {P:Program} {t:TypeId} {n:Nat} {dir:ChanDir} {e:TypeId} {i:TypeInfo} (ht:P.underlying t=some (.chan dir e)) (hi:P.info? e=some i) (hn:n<=1) (hb:i.bytes<=1000) (w:World):(Instr.makeChan t (.int .i64 (n:Int))).run P w=.ok (.chan (some w.heap.size)) (w.alloc (.chan n #[] false 0 0 false)):=run_makeChan ht hi .i64 n (by omega) (by
  have h1:i.bytes * n<=1000 * 1:=Nat.mul_le_mul hb hn;have:(i.bytes:Int) * n=((i.bytes * n:Nat):Int):=by push_cast;rfl
  rw [this];omega)
theorem zfn {P:Program} {fn:FuncId} {a:Act} {o:Oper} {w:World} {t:TypeId} {n:Nat} {x:Operand} {dir:ChanDir} {e:TypeId} {i:TypeInfo} (ho:o.op=.makeChan t x) (hx:a.eval x=.int .i64 (n:Int)) (ht:P.underlying t=some (.chan dir e)) (hi:P.info? e=some i) (hn:n<=1) (hb:i.bytes<=1000):listed P fn a o w=#[]:=by
  have hev:=events_makeChan (P:=P) (w:=w) ht hi .i64 n (by omega) (by
    have h1:i.bytes * n<=1000 * 1:=Nat.mul_le_mul hb hn;have:(i.bytes:Int) * n=((i.bytes * n:Nat):Int):=by push_cast;rfl
    rw [this];omega) #[]
  have he:(execOp a.eval o).events P w #[]=#[]:=by
    unfold execOp;simp only [ho,hx];simp [go_sem,hev]
  show seen P fn ((execOp a.eval o).events P w #[])=#[];rw [he,seen_none]
theorem KM.alloc {w0 w:World} (K:KM w0 w) {o:Obj}:KM (w0.alloc o) (w.alloc o):=⟨by rw [zbH,zbH,K.heap]⟩
set_option maxRecDepth 100000 in
theorem zpp {n0:Nat} {w0 w:World} {self:Int} (hK:KA OB WB Inb n0 w0 w) (cs:List Frame) :
    Conc.Goes Try.prog true (Ro OB 0) (DO OB WB Inb 0) (fun g w'=>g=Go.Conc.G (zpM self w0.heap.size [3,4]) cs/\KA OB WB Inb n0 (w0.alloc (.chan 0 #[] false 0 0 false)) w') 60 (Go.Conc.G ((base 6).at ⟨#[.int .i64 self,undef,undef,undef,undef,undef,undef],[]⟩ [.code newC]) cs) w:=by
  simp only [newC,Try.f6,Option.getD_some];(refine Conc.Goes.step rfl (fun w₁ h₁=>?_);replace hK:=hK.rely h₁;clear h₁;rw [stepG_seq];simp only [goes_go];refine⟨DO.none _,?_⟩);(refine Conc.Goes.step rfl (fun w₁ h₁=>?_);replace hK:=hK.rely h₁;clear h₁;rw [stepG_region];simp only [goes_go,List.size_toArray,List.length_cons,List.length_nil,Nat.reduceAdd,Nat.zero_add,List.range,List.range.loop];refine⟨DO.none _,?_⟩);(refine Conc.Goes.step rfl (fun w₁ h₁=>?_);replace hK:=hK.rely h₁;clear h₁;refine goes_oper_k rfl rfl (by decide) (fun K hK'=>?_);go_simp;refine hK' _ _ ⟨DO.quiet (fun e he=>(by have hm:=mem_listed he;simp [go_sem,Instr.makeInterface,Instr.makeFunc] at hm)),?_⟩;clear hK' K)
  (refine Conc.Goes.step rfl (fun w₁ h₁=>?_);replace hK:=hK.rely h₁;clear h₁;rw [stepG_region_end];simp only [goes_go];refine⟨DO.none _,?_⟩);(refine Conc.Goes.step rfl (fun w₁ h₁=>?_);replace hK:=hK.rely h₁;clear h₁;rw [stepG_seq];simp only [goes_go];refine⟨DO.none _,?_⟩);(refine Conc.Goes.step rfl (fun w₁ h₁=>?_);replace hK:=hK.rely h₁;clear h₁;rw [stepG_region];simp only [goes_go,List.size_toArray,List.length_cons,List.length_nil,Nat.reduceAdd,Nat.zero_add,List.range,List.range.loop];refine⟨DO.none _,?_⟩);(refine Conc.Goes.step rfl (fun w₁ h₁=>?_);replace hK:=hK.rely h₁;clear h₁;refine goes_oper_k rfl rfl (by decide) (fun K hK'=>?_);go_simp;refine hK' _ _ ⟨DO.quiet (fun e he=>(by have hm:=mem_listed he;simp [go_sem,Instr.makeInterface,Instr.makeFunc] at hm)),?_⟩;clear hK' K);refine Conc.Goes.step rfl (fun w₁ h₁=>?_);replace hK:=hK.rely h₁;clear h₁
  refine goes_oper_k rfl rfl (by decide) (fun K hK'=>?_)
  go_simp
  rw [show (Value.int IntKind.i64 0)=.int .i64 ((0:Nat):Int) from rfl,zli rfl rfl (by omega) (by decide)]
  refine hK' _ _ ⟨DO.alloc (fun b hb=>by have:=hK.low b hb;have:=hK.size;rw [hK.heap];omega) (fun e he=>(by rw [zfn (n:=0) rfl rfl rfl rfl (by omega) (by decide)] at he;simp at he)),?_⟩
  clear hK' K;rw [show w₁.heap.size=w0.heap.size by rw [hK.heap]]
  have hn0:=hK.size;replace hK:=hK.alloc (o:=.chan 0 #[] false 0 0 false);refine Conc.Goes.step rfl (fun w₁ h₁=>?_);replace hK:=hK.rely h₁;clear h₁;refine goes_oper_k rfl rfl (by decide) (fun K hK'=>?_)
  go_simp
  refine hK' _ _ ⟨DO.quiet (fun e he=>(by have hm:=mem_listed he;simp [go_sem,Act.put] at hm)),?_⟩
  clear hK' K;exact Conc.Goes.stop (fun w₁ h₁=>⟨by simp only [zpM,zjW,newR,newC,cOps,cL,cR,Try.f6,Option.getD_some,thrV],hK.rely h₁⟩)
set_option maxRecDepth 100000 in
theorem zp4 {w0 w:World} {self:Int} {qc:Nat} (hK:KM w0 w) (hW:∀ b,WB b->b<w0.heap.size) (hS:∀ i s c,Inb i=some s->s.has c->c<w0.heap.size) (c0:Frame) (cs:List Frame) :
    Conc.Goes Try.prog true (Ro OB 0) (DO OB WB Inb 0) (fun g w'=>g=Go.Conc.G (c0.finish (pt w0.heap.size)) cs/\KM (w0.alloc (.cells #[.int .i64 self,.pointer none,.chan none,.pointer none,.bool false,.bool false,.chan (some qc)] 72)) w') 60 (Go.Conc.G (zpM self qc [3,4]) (c0::cs)) w:=by
  simp only [zpM,zjW,newR,newC,cOps,cL,cR,Try.f6,Option.getD_some,thrV];refine Conc.Goes.step rfl (fun w₁ h₁=>?_);replace hK:=hK.rely h₁;clear h₁;refine goes_oper_k rfl rfl (by decide) (fun K hK'=>?_)
  go_simp
  have hsz:w₁.heap.size=w0.heap.size:=by rw [hK.heap]
  refine hK' _ _ ⟨DO.alloc0 (fun b hb=>by rw [hsz];exact hW b hb) (fun i s c hi hc=>by rw [hsz];exact hS i s c hi hc) (fun e he=>(by have hm:=mem_listed he;simp [go_sem] at hm)),?_⟩
  clear hK' K;rw [hsz];replace hK:=hK.alloc (o:=.cells #[.int .i64 self,.pointer none,.chan none,.pointer none,.bool false,.bool false,.chan (some qc)] 72);(refine Conc.Goes.step rfl (fun w₁ h₁=>?_);replace hK:=hK.rely h₁;clear h₁;refine goes_oper_k rfl rfl (by decide) (fun K hK'=>?_);go_simp;refine hK' _ _ ⟨DO.quiet (fun e he=>(by have hm:=mem_listed he;simp [go_sem,Instr.makeInterface,Instr.makeFunc] at hm)),?_⟩;clear hK' K)
  (refine Conc.Goes.step rfl (fun w₁ h₁=>?_);replace hK:=hK.rely h₁;clear h₁;rw [stepG_region_end];simp only [goes_go];refine⟨DO.none _,?_⟩);(refine Conc.Goes.step rfl (fun w₁ h₁=>?_);replace hK:=hK.rely h₁;clear h₁;rw [stepG_ret'];simp only [goes_go];refine⟨DO.none _,?_⟩);refine Conc.Goes.step rfl (fun w₁ h₁=>?_);replace hK:=hK.rely h₁;clear h₁
  rw [stepG_leave rfl rfl Try.func6 (results_tmp Try.results6 _ _ _) (events_results_tmp Try.results6 _ _)];simp only [goes_go];refine⟨DO.none _,?_⟩;exact Conc.Goes.stop (fun w₁ h₁=>⟨rfl,hK.rely h₁⟩)
end
end Go.Proofs.Ytgndgbnhkoppmaa
