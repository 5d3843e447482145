/-
  The calls that are known, in a world: memories and direct ports.
  No condition: laws.
-/
import Derived.Test.YtkjnamhgemidkaaUPm2
import Derived.Test.YtkjnamhgemidkaaUCo21
namespace Go.Proofs.Ytkjnamhgemidkaa
open Go Go.RowKit
set_option linter.unusedSimpArgs false
set_option linter.unusedVariables false
def PrimPost (mn:Bool) (OB WB:Nat→Prop) (F:Emb) (S:St) (w:World) (S':St) (v:Value) (e:Ending) (w':World):Prop :=
  ∃ F',Same (fun n=>n<VB+S.length) F F'∧e=.returned (ren F' v)∧Rep mn OB WB F' S' w'∧Kept w (fpS mn F S) w'∧∀ b,fpS mn F' S' b→fpS mn F S b∨w.heap.size≤b
theorem wL_cells (ws:List UInt64):(wL ws).toArray=wcells ws:=by simp [numRow,wcells]
theorem bL_cells (bs:List UInt8):(bL bs).toArray=bcells bs:=by simp [numRow,bcells]
def embC (bs:List (Nat × Nat)):Emb:=⟨fun n=>(bs.getD n (0,0)).1,fun n=>(bs.getD n (0,0)).2,fun _=>0⟩
theorem rows_in {l:List (Option Blk)} {Ft:Emb} {w:World} (h:∀ n b,l[n]?=some (some b)→b.grow=none∧∃ (pre post:Array Value) (fr:Nat × Nat),w.heap[Ft.blk n]?=some (.cells (pre++(b.cells.map (ren Ft)).toArray++post) b.elem fr)∧pre.size=Ft.base n∧(b.ro=false→fr=(0,0)))
    (ha:∀ n m b c,l[n]?=some (some b)→l[m]?=some (some c)→n≠m→b.ro=false→Ft.blk n≠Ft.blk m):Holds Ft (heapL l) w:=by
  have hget:∀ n b,(heapL l).get n=some b→l[n]?=some (some b):=fun n b hb=>by
    rw [heapL_get] at hb
    cases hx:l[n]? with
    | none=>rw [hx] at hb;cases hb
    | some y=>rw [hx] at hb;exact congrArg some hb
  refine⟨fun n b hn=>?_,fun n m b c h1 h2=>ha n m b c (hget n b h1) (hget m c h2)⟩
  obtain⟨h0,pre,post,fr,h1,h2,h3⟩:=h n b (hget n b hn)
  exact⟨pre,post,fr,h1,h2,h3,(by rw [h0];intro z;cases z),(by rw [h0];intro s z;cases z)⟩
section
variable {w w':World} {m bw bb d v km kd:Nat} {X:MemP km} {Y:DirP kd} {ws ws':List UInt64} {bs bs':List UInt8} {me:Int} {s:Nat}
theorem MemO.ne1 (h:MemO w m bw bb X ws bs):m≠bw:=cells_type h.hm h.hw (by decide)
theorem MemO.ne2 (h:MemO w m bw bb X ws bs):m≠bb:=cells_type h.hm h.hb (by decide)
theorem MemO.ne3 (h:MemO w m bw bb X ws bs):bw≠bb:=cells_type h.hw h.hb (by decide)
abbrev embM (m km bw:Nat) (X:MemP km) (bb:Nat) (t:List (Nat × Nat)):Emb:=embC ((m,km)::(bw,X.wpre.size)::(bb,X.bpre.size)::t)
theorem mem_holds (h:MemO w m bw bb X ws bs):Holds (embM m km bw X bb []) (heapL ((mRows ws bs X.wcap X.bcap).map some)) w:=by
  refine rows_in (fun n b hn=>?_) (fun n n' b c h1 h2 hne _=>?_)
  · match n,hn with
    | 0,hn =>
      obtain rfl:b=mB ws.length X.wcap bs.length X.bcap:=by simpa using hn.symm
      exact⟨rfl,X.pre,X.post,(0,0),by show w.heap[m]?=_;rw [h.hm];simp [adr,embC],X.hn,fun _=>rfl⟩
    | 1,hn =>
      obtain rfl:b=wB ws:=by simpa using hn.symm
      exact⟨rfl,X.wpre,X.wpost,(0,0),by show w.heap[bw]?=_;rw [h.hw,map_row,wL_cells],rfl,fun _=>rfl⟩
    | 2,hn =>
      obtain rfl:b=bB bs:=by simpa using hn.symm
      exact⟨rfl,X.bpre,X.bpost,(0,0),by show w.heap[bb]?=_;rw [h.hb,map_row,bL_cells],rfl,fun _=>rfl⟩
    | n+3,hn=>simp at hn
  · have l1:n<3:=by have:=(List.getElem?_eq_some_iff.1 h1).1;simpa using this
    have l2:n'<3:=by have:=(List.getElem?_eq_some_iff.1 h2).1;simpa using this
    have e1:=h.ne1;have e2:=h.ne2;have e3:=h.ne3
    match n,n',l1,l2,hne with
    | 0,1,_,_,_=>exact e1
    | 0,2,_,_,_=>exact e2
    | 1,0,_,_,_=>exact e1.symm
    | 1,2,_,_,_=>exact e3
    | 2,0,_,_,_=>exact e2.symm
    | 2,1,_,_,_=>exact e3.symm
    | 0,0,_,_,h=>exact absurd rfl h
    | 1,1,_,_,h=>exact absurd rfl h
    | 2,2,_,_,h=>exact absurd rfl h
theorem port_holds (h:MemO w m bw bb X ws bs) (hd:DirO w ⟨d,v⟩ m km me Y s) {r1 r2 r3:Bool}:Holds (embM m km bw X bb [(v,Y.vpre.size),(d,kd)]) (heapL ([mB ws.length X.wcap bs.length X.bcap,⟨wL ws,26,r1,none⟩,⟨bL bs,5,r2,none⟩,⟨[.pointer (some ⟨0,0,none⟩),.int .i64 (s:Int)],126,r3,none⟩,dB me].map some)) w:=by
  have e1:=h.ne1;have e2:=h.ne2;have e3:=h.ne3
  have f0:m≠v:=cells_type h.hm hd.hv (by decide)
  have f1:m≠d:=cells_type h.hm hd.hd (by decide)
  have f2:bw≠v:=cells_type h.hw hd.hv (by decide)
  have f3:bw≠d:=cells_type h.hw hd.hd (by decide)
  have f4:bb≠v:=cells_type h.hb hd.hv (by decide)
  have f5:bb≠d:=cells_type h.hb hd.hd (by decide)
  have f6:v≠d:=cells_type hd.hv hd.hd (by decide)
  refine rows_in (fun n b hn=>?_) (fun n n' b c h1 h2 hne _=>?_)
  · match n,hn with
    | 0,hn =>
      obtain rfl:b=mB ws.length X.wcap bs.length X.bcap:=by simpa using hn.symm
      exact⟨rfl,X.pre,X.post,(0,0),by show w.heap[m]?=_;rw [h.hm];simp [adr,embC],X.hn,fun _=>rfl⟩
    | 1,hn =>
      obtain rfl:b=⟨wL ws,26,r1,none⟩:=by simpa using hn.symm
      exact⟨rfl,X.wpre,X.wpost,(0,0),by show w.heap[bw]?=_;rw [h.hw];simp only [map_row];rw [wL_cells],rfl,fun _=>rfl⟩
    | 2,hn =>
      obtain rfl:b=⟨bL bs,5,r2,none⟩:=by simpa using hn.symm
      exact⟨rfl,X.bpre,X.bpost,(0,0),by show w.heap[bb]?=_;rw [h.hb];simp only [map_row];rw [bL_cells],rfl,fun _=>rfl⟩
    | 3,hn =>
      obtain rfl:b=⟨[.pointer (some ⟨0,0,none⟩),.int .i64 (s:Int)],126,r3,none⟩:=by simpa using hn.symm
      exact⟨rfl,Y.vpre,Y.vpost,(0,0),by show w.heap[v]?=_;rw [hd.hv];simp [adr,embC],rfl,fun _=>rfl⟩
    | 4,hn =>
      obtain rfl:b=dB me:=by simpa using hn.symm
      exact⟨rfl,Y.pre,Y.post,(0,0),by show w.heap[d]?=_;rw [hd.hd];simp [adr,embC],Y.hn,fun _=>rfl⟩
    | n+5,hn=>simp at hn
  · have l1:n<5:=by have:=(List.getElem?_eq_some_iff.1 h1).1;simpa using this
    have l2:n'<5:=by have:=(List.getElem?_eq_some_iff.1 h2).1;simpa using this
    match n,n',l1,l2,hne with
    | 0,0,_,_,h=>exact absurd rfl h
    | 1,1,_,_,h=>exact absurd rfl h
    | 2,2,_,_,h=>exact absurd rfl h
    | 3,3,_,_,h=>exact absurd rfl h
    | 4,4,_,_,h=>exact absurd rfl h
    | 0,1,_,_,_=>exact e1
    | 0,2,_,_,_=>exact e2
    | 0,3,_,_,_=>exact f0
    | 0,4,_,_,_=>exact f1
    | 1,0,_,_,_=>exact e1.symm
    | 1,2,_,_,_=>exact e3
    | 1,3,_,_,_=>exact f2
    | 1,4,_,_,_=>exact f3
    | 2,0,_,_,_=>exact e2.symm
    | 2,1,_,_,_=>exact e3.symm
    | 2,3,_,_,_=>exact f4
    | 2,4,_,_,_=>exact f5
    | 3,0,_,_,_=>exact f0.symm
    | 3,1,_,_,_=>exact f2.symm
    | 3,2,_,_,_=>exact f4.symm
    | 3,4,_,_,_=>exact f6
    | 4,0,_,_,_=>exact f1.symm
    | 4,1,_,_,_=>exact f3.symm
    | 4,2,_,_,_=>exact f5.symm
    | 4,3,_,_,_=>exact f6.symm
end
theorem turned_in {l l':List Blk} {h1:AHeap} {Ft Ft':Emb} {w':World} (T:TurnP l.length l l' h1) (H:Holds Ft' h1 w') (hs:Same (Kn l.length 0) Ft Ft') {i:Nat} {b b':Blk} (hi:l[i]?=some b) (hro:b.ro=false) (hi':l'[i]?=some b') :
    ∃ pre post:Array Value,w'.heap[Ft.blk i]?=some (.cells (pre++(b'.cells.map (ren Ft')).toArray++post) b'.elem (0,0))∧pre.size=Ft.base i:=by
  obtain⟨b1,e1,e2,e3,_⟩:=T i b hi hro
  rw [hi'] at e2
  cases e2
  obtain⟨pre,post,fr,r1,r2,r3,_⟩:=H.row i b' e1
  obtain⟨s1,s2,_⟩:=hs i (.inl (List.getElem?_eq_some_iff.1 hi).1)
  rw [←s1] at r1
  rw [←s2] at r2
  rw [r3 e3] at r1
  exact⟨pre,post,r1,r2⟩
section
variable {mn:Bool} {OB WB:Nat→Prop} {F:Emb} {S:St} {w w':World}
theorem set_same_ob {k:Nat} {o:Ob} (h:S[k]?=some o):S.set k o=S:=List.ext_getElem? fun j=>by
  by_cases z:k=j
  · subst z;rw [List.getElem?_set_self (ob_lt h),h]
  · rw [List.getElem?_set_ne z]
theorem one_turn {k:Nat} {o0 o1:Ob} (R:Rep mn OB WB F S w) (hk:S[k]?=some o0) (hbl:obBlk mn F k o1=obBlk mn F k o0) (hnw:∀ a b c d e,o0≠Ob.wp a b c d e) (hmm:(∃ ws bs,o0=Ob.mem ws bs)→∃ ws bs,o1=Ob.mem ws bs) (hrb:rowB o1=true→rowB o0=true) (K:Kept w (fun b=>b∈obBlk mn F k o0) w') (hat:obAt mn OB WB F (S.set k o1) w' k o1) :
    Rep mn OB WB F (S.set k o1) w'∧Kept w (fpS mn F S) w'∧∀ b,fpS mn F (S.set k o1) b→fpS mn F S b:=by
  have hkl:=ob_lt hk
  have hlen:(S.set k o1).length=S.length:=by simp
  have hself:(S.set k o1)[k]?=some o1:=List.getElem?_set_self hkl
  have hne:∀ i,i≠k→(S.set k o1)[i]?=S[i]?:=fun i hi=>List.getElem?_set_ne (Ne.symm hi)
  have hblk:∀ (i:Nat) ob2,(S.set k o1)[i]?=some ob2→∃ ob,S[i]?=some ob∧obBlk mn F i ob2=obBlk mn F i ob:=fun i ob2 hi=>by
    by_cases z:i=k
    · subst z;rw [hself] at hi;cases hi;exact⟨_,hk,hbl⟩
    · rw [hne i z] at hi;exact⟨_,hi,rfl⟩
  have hkept:∀ (i:Nat) ob,i≠k→S[i]?=some ob→∀ b∈obBlk mn F i ob,w'.heap[b]?=w.heap[b]?:=fun i ob hi ho b hb=>by
    have hlt:b<w.heap.size:=by
      obtain⟨c,el,fr,h1⟩:=obAt_row (R.at' i ob ho) b hb
      exact block_low h1
    exact K.block b hlt fun z=>R.apart i k _ _ hi ho hk b hb z
  refine⟨⟨fun i ob2 hi hr=>?_,fun i ob2 hi=>?_,fun i i' ob ob' hne' hi hi' x hx hx'=>?_,fun i ob2 hi x hx hW=>?_,fun b hb=>Nat.lt_of_lt_of_le (R.wlow b hb) K.size⟩,⟨K.os,K.tape,K.output,K.size,fun b hl hb=>K.block b hl fun z=>hb ⟨k,_,hk,z⟩⟩,fun b ⟨i,ob2,hi,hb⟩=>?_⟩
  · by_cases z:i=k
    · subst z;rw [hself] at hi;cases hi
      exact R.base i _ hk (hrb hr)
    · rw [hne i z] at hi;exact R.base i _ hi hr
  · by_cases z:i=k
    · subst z;rw [hself] at hi;cases hi
      exact hat
    · rw [hne i z] at hi
      have h1:=obAt_kept (R.at' i _ hi) (hkept i _ z hi)
      cases ob2 with
      | port m me st =>
        obtain⟨z1,ws0,bs0,z2⟩:=h1
        refine⟨z1,?_⟩
        by_cases e:m=k
        · subst e
          rw [hk] at z2
          obtain⟨ws1,bs1,rfl⟩:=hmm ⟨_,_,Option.some.inj z2⟩
          exact⟨_,_,hself⟩
        · exact⟨ws0,bs0,(hne m e).trans z2⟩
      | thr a b c d e f=>intro y;obtain⟨a1,a2,a3,a4⟩:=h1 y;exact⟨a1,fun c hc=>by rw [hlen];exact a2 c hc,fun p hp=>by rw [hlen];exact a3 p hp,a4⟩
      | mem=>exact h1
      | wp=>exact h1
      | acc=>exact h1
      | box=>exact h1
  · obtain⟨o1,g1,g2⟩:=hblk i ob hi
    obtain⟨o2,g3,g4⟩:=hblk i' ob' hi'
    exact R.apart i i' o1 o2 hne' g1 g3 x (g2 ▸ hx) (g4 ▸ hx')
  · by_cases z:i=k
    · subst z;rw [hself] at hi;cases hi
      obtain⟨_,_,_,_,_,h⟩:=R.waits i _ hk x (hbl ▸ hx) hW
      exact absurd h (hnw _ _ _ _ _)
    · rw [hne i z] at hi;exact R.waits i _ hi x hx hW
  · obtain⟨ob,h1,h2⟩:=hblk i ob2 hi
    exact⟨i,ob,h1,h2 ▸ hb⟩
theorem mem_turn {k:Nat} {ws ws':List UInt64} {bs bs':List UInt8} {X:MemP (F.base (VB+k))} (R:Rep mn OB WB F S w) (hk:S[k]?=some (.mem ws bs)) (K:Kept w (fun b=>b=aux (F.slack (VB+k)) 1∨b=aux (F.slack (VB+k)) 2) w') (hm:MemO w' (F.blk (VB+k)) (aux (F.slack (VB+k)) 1) (aux (F.slack (VB+k)) 2) X ws' bs') :
    Rep mn OB WB F (S.set k (.mem ws' bs')) w'∧Kept w (fpS mn F S) w'∧∀ b,fpS mn F (S.set k (.mem ws' bs')) b→fpS mn F S b :=
  one_turn R hk rfl (fun _ _ _ _ _ z=>by cases z) (fun _=>⟨_,_,rfl⟩) id ⟨K.os,K.tape,K.output,K.size,fun b hl hb=>K.block b hl fun z=>hb (by rcases z with rfl|rfl<;>simp [obBlk])⟩ ⟨X,hm⟩
theorem mem_prim {f:FuncId} {zs:Array Value} {v:Value} {k:Nat} {ws ws':List UInt64} {bs bs':List UInt8} (R:Rep mn OB WB F S w) (hk:S[k]?=some (.mem ws bs)) (D:∀ wc bc,DoesI f (#[.pointer (some ⟨0,0,none⟩)]++zs) (mRows ws bs wc bc) v [mB ws.length wc bs.length bc,wB ws',bB bs']) (hz:zs.all plainB=true) (hv:plainB v=true) (hw:ws'.length=ws.length) (hb:bs'.length=bs.length) :
    TCalls Try.prog f ((#[hndV k]++zs).map (ren F)) w (PrimPost mn OB WB F S w (S.set k (.mem ws' bs')) v):=by
  obtain⟨X,hM⟩:=R.at' _ _ hk
  have ha:(#[hndV k]++zs).map (ren F)=(#[Value.pointer (some ⟨0,0,none⟩)]++zs).map (ren (embM (F.blk (VB+k)) (F.base (VB+k)) (aux (F.slack (VB+k)) 1) X (aux (F.slack (VB+k)) 2) [])):=by
    rw [Array.map_append,Array.map_append,plain_args F hz,plain_args _ hz]
    simp [hndV,adr,embC]
  rw [ha]
  refine (doesI_calls (D X.wcap X.bcap) (mem_holds hM) (by simp [VB])).mono fun e w' ⟨h1,Ft',e1,T,H,hs,K⟩=>?_
  obtain⟨p1,q1,t1,u1⟩:=turned_in T H hs (i:=1) rfl rfl rfl
  obtain⟨p2,q2,t2,u2⟩:=turned_in T H hs (i:=2) rfl rfl rfl
  have K':Kept w (fun b=>b=aux (F.slack (VB+k)) 1∨b=aux (F.slack (VB+k)) 2) w':=⟨K.os,K.tape,K.output,K.size,fun b hl hb=>K.block b hl fun⟨n,bb,z1,z2,z3⟩=>by
    match n,z1 with
    | 0,z1=>simp at z1;subst z1;cases z2
    | 1,_=>exact hb (.inl z3.symm)
    | 2,_=>exact hb (.inr z3.symm)
    | n+3,z1=>simp at z1⟩
  have v1:p1.size=X.wpre.size:=u1
  have v2:p2.size=X.bpre.size:=u2
  have hmem:MemO w' (F.blk (VB+k)) (aux (F.slack (VB+k)) 1) (aux (F.slack (VB+k)) 2) (⟨X.pre,X.post,p1,q1,X.wcap,p2,q2,X.bcap,X.hn⟩:MemP (F.base (VB+k))) ws' bs':=by
    refine⟨?_,?_,?_,by rw [hw];exact hM.wl,by rw [hb];exact hM.bl⟩
    · rw [K'.block _ (block_low hM.hm) (fun z=>z.elim hM.ne1 hM.ne2),hM.hm,hw,hb]
      simp only [v1,v2]
    · rw [map_row,wL_cells] at t1;exact t1
    · rw [map_row,bL_cells] at t2;exact t2
  obtain⟨r1,r2,r3⟩:=mem_turn R hk K' hmem
  exact⟨F,Same.refl _ _,by rw [e1,ren_plain _ hv,ren_plain _ hv],r1,r2,fun b hb=>.inl (r3 b hb)⟩
theorem acc_turn {p m:Nat} {me:Int} {s s':Nat} {ws ws':List UInt64} {bs bs':List UInt8} {X:MemP (F.base (VB+m))} {Y:DirP (F.base (VB+p))} {pre post:Array Value} (R:Rep mn OB WB F S w) (hp:S[p]?=some (.port m me s)) (hm:S[m]?=some (.mem ws bs)) (hd0:DirO w ⟨F.blk (VB+p),aux (F.slack (VB+p)) 1⟩ (F.blk (VB+m)) (F.base (VB+m)) me Y s)
    (K:Kept w (fun b=>b=aux (F.slack (VB+m)) 1∨b=aux (F.slack (VB+m)) 2∨b=aux (F.slack (VB+p)) 1) w') (hM:MemO w' (F.blk (VB+m)) (aux (F.slack (VB+m)) 1) (aux (F.slack (VB+m)) 2) X ws' bs') (hv:w'.heap[aux (F.slack (VB+p)) 1]?=some (.cells (pre++#[.pointer (some ⟨F.blk (VB+m),F.base (VB+m),none⟩),.int .i64 (s':Int)]++post) 126 (0,0))) (hpre:pre.size=Y.vpre.size) :
    Rep mn OB WB F (accS S p m me s' ws' bs') w'∧Kept w (fpS mn F S) w'∧∀ b,fpS mn F (accS S p m me s' ws' bs') b→fpS mn F S b:=by
  have hpm:m≠p:=fun e=>by rw [e,hp] at hm;cases hm
  have hv0:=hd0.hv
  have hdv:F.blk (VB+p)≠aux (F.slack (VB+p)) 1:=cells_type hd0.hd hd0.hv (by decide)
  let w1:World:={ w with heap:=w.heap.setIfInBounds (aux (F.slack (VB+p)) 1) (.cells (pre++#[.pointer (some ⟨F.blk (VB+m),F.base (VB+m),none⟩),.int .i64 (s':Int)]++post) 126 (0,0)) }
  have h1v:w1.heap[aux (F.slack (VB+p)) 1]?=some (.cells (pre++#[.pointer (some ⟨F.blk (VB+m),F.base (VB+m),none⟩),.int .i64 (s':Int)]++post) 126 (0,0)):=Array.getElem?_setIfInBounds_self_of_lt (block_low hv0)
  have h1n:∀ x,x≠aux (F.slack (VB+p)) 1→w1.heap[x]?=w.heap[x]?:=fun x hx=>Array.getElem?_setIfInBounds_ne (Ne.symm hx)
  have hs1:w1.heap.size=w.heap.size:=by simp [w1]
  have K1:Kept w (fun b=>b∈obBlk mn F p (.port m me s)) w1:=⟨rfl,rfl,rfl,Nat.le_of_eq hs1.symm,fun b _ hb=>h1n b fun e=>hb (by rw [e];simp [obBlk])⟩
  have hself:(S.set p (Ob.port m me s'))[m]?=some (.mem ws bs):=by rw [List.getElem?_set_ne hpm.symm];exact hm
  obtain⟨r1,r2,r3⟩:=one_turn (o1:=.port m me s') R hp rfl (fun _ _ _ _ _ z=>by cases z) (fun⟨_,_,z⟩=>by cases z) id K1 ⟨⟨(⟨Y.pre,Y.post,pre,post,Y.hn⟩:DirP (F.base (VB+p))),⟨by
    show w1.heap[F.blk (VB+p)]?=_
    rw [h1n _ hdv,hd0.hd];simp only [hpre],h1v⟩⟩,_,_,hself⟩
  have K2:Kept w1 (fun b=>b=aux (F.slack (VB+m)) 1∨b=aux (F.slack (VB+m)) 2) w':=⟨K.os,K.tape,K.output,by rw [hs1];exact K.size,fun b hl hb=>by
    by_cases e:b=aux (F.slack (VB+p)) 1
    · rw [e,h1v,hv]
    · rw [h1n b e];exact K.block b (by rw [←hs1];exact hl) fun z=>by
        rcases z with z|z|z
        · exact hb (.inl z)
        · exact hb (.inr z)
        · exact e z⟩
  obtain⟨q1,q2,q3⟩:=mem_turn r1 hself K2 hM
  exact⟨q1,Kept.trans r2 q2 fun b _ hb=>r3 b hb,fun b hb=>r3 b (q3 b hb)⟩
theorem port_prim {f:FuncId} {zs:Array Value} {v:Value} {p m:Nat} {me:Int} {s s':Nat} {ws ws':List UInt64} {bs bs':List UInt8} (R:Rep mn OB WB F S w) (hp:S[p]?=some (.port m me s)) (hm:S[m]?=some (.mem ws bs)) (D:∀ wc bc,DoesI f (#[.pointer (some ⟨4,0,none⟩)]++zs) (dRows ws bs wc bc s me) v [mB ws.length wc bs.length bc,wB ws',bB bs',yB s',dB me]) (hz:zs.all plainB=true) (hv:plainB v=true) (hw:ws'.length=ws.length) (hb:bs'.length=bs.length) :
    TCalls Try.prog f ((#[hndV p]++zs).map (ren F)) w (PrimPost mn OB WB F S w (accS S p m me s' ws' bs') v):=by
  obtain⟨X,hM⟩:=R.at' _ _ hm
  obtain⟨⟨Y,hd⟩,_⟩:=R.at' _ _ hp
  have ha:(#[hndV p]++zs).map (ren F)=(#[Value.pointer (some ⟨4,0,none⟩)]++zs).map (ren (embM (F.blk (VB+m)) (F.base (VB+m)) (aux (F.slack (VB+m)) 1) X (aux (F.slack (VB+m)) 2) [(aux (F.slack (VB+p)) 1,Y.vpre.size),(F.blk (VB+p),F.base (VB+p))])):=by
    rw [Array.map_append,Array.map_append,plain_args F hz,plain_args _ hz]
    simp [hndV,adr,embC]
  rw [ha]
  refine (doesI_calls (D X.wcap X.bcap) (port_holds hM hd) (by simp [VB])).mono fun e w' ⟨h1,Ft',e1,T,H,hs,K⟩=>?_
  obtain⟨p1,q1,t1,u1⟩:=turned_in T H hs (i:=1) rfl rfl rfl
  obtain⟨p2,q2,t2,u2⟩:=turned_in T H hs (i:=2) rfl rfl rfl
  obtain⟨p3,q3,t3,u3⟩:=turned_in T H hs (i:=3) rfl rfl rfl
  have K':Kept w (fun b=>b=aux (F.slack (VB+m)) 1∨b=aux (F.slack (VB+m)) 2∨b=aux (F.slack (VB+p)) 1) w':=⟨K.os,K.tape,K.output,K.size,fun b hl hb=>K.block b hl fun⟨n,bb,z1,z2,z3⟩=>by
    match n,z1 with
    | 0,z1=>simp at z1;subst z1;cases z2
    | 1,_=>exact hb (.inl z3.symm)
    | 2,_=>exact hb (.inr (.inl z3.symm))
    | 3,_=>exact hb (.inr (.inr z3.symm))
    | 4,z1=>simp at z1;subst z1;cases z2
    | n+5,z1=>simp at z1⟩
  have v1:p1.size=X.wpre.size:=u1
  have v2:p2.size=X.bpre.size:=u2
  have v3:p3.size=Y.vpre.size:=u3
  have hmem:MemO w' (F.blk (VB+m)) (aux (F.slack (VB+m)) 1) (aux (F.slack (VB+m)) 2) (⟨X.pre,X.post,p1,q1,X.wcap,p2,q2,X.bcap,X.hn⟩:MemP (F.base (VB+m))) ws' bs':=by
    refine⟨?_,?_,?_,by rw [hw];exact hM.wl,by rw [hb];exact hM.bl⟩
    · rw [K'.block _ (block_low hM.hm) (fun z=>z.elim hM.ne1 fun z=>z.elim hM.ne2 (cells_type hM.hm hd.hv (by decide))),hM.hm,hw,hb]
      simp only [v1,v2]
    · rw [map_row,wL_cells] at t1;exact t1
    · rw [map_row,bL_cells] at t2;exact t2
  have h0:Ft'.blk 0=F.blk (VB+m)∧Ft'.base 0=F.base (VB+m):=by
    obtain⟨s1,s2,_⟩:=hs 0 (.inl (by simp))
    exact⟨s1.symm,s2.symm⟩
  have t3':w'.heap[aux (F.slack (VB+p)) 1]?=some (.cells (p3++#[.pointer (some ⟨F.blk (VB+m),F.base (VB+m),none⟩),.int .i64 (s':Int)]++q3) 126 (0,0)):=by
    simpa [adr,h0,embC] using t3
  obtain⟨r1,r2,r3⟩:=acc_turn R hp hm hd K' hmem t3' v3
  exact⟨F,Same.refl _ _,by rw [e1,ren_plain _ hv,ren_plain _ hv],r1,r2,fun b hb=>.inl (r3 b hb)⟩
end
section
variable {P:Program} {σ:Type} {X X':Face P σ}
theorem Op0.face (hp:∀ f a S v S',X.prim f a S v S'→X'.prim f a S v S') {o:Oper} {e:Operand→Value} {h h':AHeap} {S S':σ} {v:Value} (H:Op0 X o e h S v h' S'):Op0 X' o e h S v h' S':=by
  rcases H with H|H|H|⟨f,g,args,h1,h2,h3,h4,h5⟩
  · exact .inl H
  · exact .inr (.inl H)
  · exact .inr (.inr (.inl H))
  · exact .inr (.inr (.inr ⟨f,g,args,h1,h2,h3,hp _ _ _ _ _ h4,h5⟩))
theorem CallOK.face (hc:X'.cnt=X.cnt) {o:Oper} {e:Operand→Value} {h h':AHeap} {S S':σ} {v:Value} {f:FuncId} {g:Func} {c:Code} {zs:Array Value} {E Q:Emb} {hc' h1:AHeap} {ex:List Nat} {v0:Value} (H:CallOK X o e h S v h' S' f g c zs E Q hc' h1 ex v0):CallOK X' o e h S v h' S' f g c zs E Q hc' h1 ex v0 :=
  ⟨H.call,H.func,H.go,H.body,by rw [hc];exact H.lends,by rw [hc];exact H.clo,by rw [hc];exact H.back⟩
theorem GoodK.face (hp:∀ f a S v S',X.prim f a S v S'→X'.prim f a S v S') (hc:X'.cnt=X.cnt) {W:List Nat} {ops:Array Oper} {n0:Nat} {hf:AHeap} {i:Nat} {o:Oper} {p q:DRec σ} (H:GoodK X W ops n0 hf i o p q):GoodK X' W ops n0 hf i o p q:=by
  obtain⟨H1,H2⟩:=H
  refine⟨H1,?_⟩
  cases hk:p.kind with
  | skip=>rw [hk] at H2;exact H2
  | far=>rw [hk] at H2;exact H2
  | op wr =>
    rw [hk] at H2
    obtain⟨a1,a2,a3,a4,a5,a6⟩:=H2
    refine⟨a1,a2,a3,a4,a5,?_⟩
    cases wr with
    | true=>exact⟨a6.1,a6.2.face hp⟩
    | false=>obtain⟨b1,hv,b2,b3⟩:=a6;exact⟨b1,hv,b2.face hp,b3⟩
  | call wr f g c zs E Q hc' h1 ex v0 =>
    rw [hk] at H2
    obtain⟨a1,a2,a3,a4,a5,a6⟩:=H2
    refine⟨a1,a2,a3,a4,a5,?_⟩
    cases wr with
    | true=>exact⟨a6.1,a6.2.face hc⟩
    | false=>obtain⟨b1,hv,b2,b3⟩:=a6;exact⟨b1,hv,b2.face hc,b3⟩
  | callD f g c args=>rw [hk] at H2;exact H2
theorem Goes.face (hp:∀ f a S v S',X.prim f a S v S'→X'.prim f a S v S') (hc:X'.cnt=X.cnt) {fn:Func} {A:Conf σ→Prop} {c:Conf σ} (G:Goes X fn A c):Goes X' fn A c:=by
  induction G with
  | here h=>exact .here h
  | ctl h _ ih=>exact .ctl h ih
  | ret h1 h2 _ ih=>exact .ret h1 h2 ih
  | skip h1 h2 _ ih=>exact .skip h1 h2 ih
  | op h1 h2 h3 h4 h5 _ ih=>exact .op h1 h2 h3 (h4.face hp) h5 ih
  | call f g c zs E Q hc' h1 ex v0 a1 a2 a3 a4 a5 _ _ ih1 ih2=>exact .call f g c zs E Q hc' h1 ex v0 a1 a2 a3 (a4.face hc) a5 ih1 ih2
  | callD f g c args v h1 S1 a1 a2 a3 a4 a5 a6 a7 _ _ ih1 ih2=>exact .callD f g c args v h1 S1 a1 a2 a3 a4 a5 a6 a7 ih1 ih2
  | draw W rec a1 a2 hf a3 a4 _ _ _ ih1 ih2 ih3=>exact .draw W rec a1 a2 hf a3 (fun i o ho=>(a4 i o ho).face hp hc) ih1 ih2 ih3
  | raise a1 a2 a3 _ ih=>exact .raise a1 a2 a3 ih
  | weak a1 a2 _ ih=>exact .weak a1 a2 ih
end
inductive GE {P:Program} {σ Γ:Type} (X:Face P σ) (Sp:FuncId→Array Value→AHeap→σ→Γ→(Value→AHeap→σ→Γ→Prop)→Prop):Func→(Conf σ→Γ→Prop)→Conf σ→Γ→Prop
  | here {fn A c γ} (h:A c γ):GE X Sp fn A c γ
  | plain {fn A c γ} (A':Conf σ→Prop) (G:Goes X fn A' c) (hk:∀ c',A' c'→GE X Sp fn A c' γ):GE X Sp fn A c γ
  | call {fn A ops i rest k tmps h S o γ} (f:FuncId) (g:Func) (c:Code) (args:Array Value) (Q:Value→AHeap→σ→Γ→Prop) (ho:ops[i]?=some o) (hw:Region.wanted o (yieldedL ops tmps)=true) (hb:o.op.operands.all operB=true) (hca:callA P (evA tmps) o.op=some (f,args))
      (hf:P.funcs[f]?=some g) (hg:goB g=true) (hbd:g.body=some c) (hrun:GE X Sp g (fun x γ'=>∃ v h1 S1,x=.done v h1 S1∧Q v h1 S1 γ') (.run (enterL g c args).1 (enterL g c args).2 h S) γ)
      (hk:∀ v h1 S1 γ',Q v h1 S1 γ'→GE X Sp fn A (.run (.inRegion ops rest::k) (putL o.dst v tmps) h1 S1) γ'):GE X Sp fn A (.run (.inRegion ops (i::rest)::k) tmps h S) γ
  | spec {fn A ops i rest k tmps h S o γ} (f:FuncId) (args:Array Value) (Q:Value→AHeap→σ→Γ→Prop) (ho:ops[i]?=some o) (hw:Region.wanted o (yieldedL ops tmps)=true) (hb:o.op.operands.all operB=true) (hca:callA P (evA tmps) o.op=some (f,args))
      (hsp:Sp f args h S γ Q) (hk:∀ v h1 S1 γ',Q v h1 S1 γ'→GE X Sp fn A (.run (.inRegion ops rest::k) (putL o.dst v tmps) h1 S1) γ'):GE X Sp fn A (.run (.inRegion ops (i::rest)::k) tmps h S) γ
  | draws {fn A id ops k tmps h S γ} (hk:∀ t,GE X Sp fn A (.run (.inRegion ops (Region.schedule (P.follows .mixedOrders) ops t)::k) tmps h S) γ):GE X Sp fn A (.run (.code (.region id ops true)::k) tmps h S) γ
theorem GE.mono {P:Program} {σ Γ:Type} {X:Face P σ} {Sp:FuncId→Array Value→AHeap→σ→Γ→(Value→AHeap→σ→Γ→Prop)→Prop} {fn:Func} {A A1:Conf σ→Γ→Prop} {c:Conf σ} {γ:Γ} (G:GE X Sp fn A c γ) (h:∀ c γ,A c γ→A1 c γ):GE X Sp fn A1 c γ:=by
  induction G with
  | here a=>exact .here (h _ _ a)
  | plain A' G _ ih=>exact .plain A' G fun c' hc=>ih c' hc h
  | call f g c args Q a1 a2 a3 a4 a5 a6 a7 hr _ _ ih2=>exact .call f g c args Q a1 a2 a3 a4 a5 a6 a7 hr fun v h1 S1 γ' hq=>ih2 v h1 S1 γ' hq h
  | spec f args Q a1 a2 a3 a4 a5 _ ih=>exact .spec f args Q a1 a2 a3 a4 a5 fun v h1 S1 γ' hq=>ih v h1 S1 γ' hq h
  | draws _ ih=>exact .draws fun t=>ih t h
end Go.Proofs.Ytkjnamhgemidkaa
namespace Go.Proofs.Ytkjnamhgemidkaa
open Go Go.Conc
set_option linter.unusedSimpArgs false
set_option linter.unusedVariables false
open Go.ConcN (sumTo upd sumTo_upd upd_ne upd_same)
def ChanO (w:World) (c cap:Nat):Prop:=∃ m,w.heap[c]?=some (.chan cap #[] false m m false)
def IsChan (w:World) (c:Nat):Prop:=∃ cap buf cl a b tm,w.heap[c]?=some (.chan cap buf cl a b tm)
theorem ChanO.is {w:World} {c cap:Nat} (h:ChanO w c cap):IsChan w c:=⟨_,_,_,_,_,_,h.choose_spec⟩
inductive ChS (S:St):Nat→Nat→Nat→Prop
  | quit {k self c cl bz cur pe} (h:S[k]?=some (Ob.thr self c cl bz cur pe)):ChS S k 0 c
  | done {k self q cl bz hp gid c pe} (h:S[k]?=some (Ob.thr self q cl bz (some (hp,gid,c)) pe)):ChS S k 3 c
  | ask {k a s c y z} (h:S[k]?=some (Ob.wp a s c y z)):ChS S k 1 c
  | grant {k a s x c z} (h:S[k]?=some (Ob.wp a s x c z)):ChS S k 2 c
structure Tab (OB WB:Nat→Prop) (S:St) (F:Emb) (n:Nat) (w:World):Prop where
  obs:∀ b,OB b↔∃ k self quit closed busy cur pend,S[k]?=some (Ob.thr self quit closed busy cur pend)∧b=F.blk (VB+k)
  wbs:∀ b,WB b↔∃ k a s x y z,S[k]?=some (Ob.wp a s x y z)∧b=F.blk (VB+k)
  dist:∀ k s c k' s',ChS S k s c→ChS S k' s' c→k=k'∧s=s'
  far:∀ k s c,ChS S k s c→IsChan w c∧¬ OB c∧¬ WB c
  olow:∀ b,OB b→b<w.heap.size
  quit:∀ (k:Nat) self quit busy cur pend,S[k]?=some (Ob.thr self quit false busy cur pend)→ChanO w quit 0
  busy:∀ (k:Nat) self quit closed cur pend,S[k]?=some (Ob.thr self quit closed true cur pend)→closed=false∧∃ (hp gid dn:Nat) (wself:Int) (steps ask grant:Nat),cur=some (hp,gid,dn)∧S[hp]?=some (Ob.wp wself steps ask grant quit)∧ChanO w ask 0∧ChanO w grant 0∧ChanO w dn 1∧0<gid∧gid<n∧S[hp+1]?=some (Ob.box dn)
structure Par where
  h:Nat
  run:Option Nat
  OB:Nat→Prop
  WB:Nat→Prop
  Iv:Nat→World→Prop
  seat0:Option Seat
  PX:Nat→Prop
  wR:World
  FR:Emb
  NR:Nat
  CR:Nat
  n0:Nat
  w0:World
abbrev Par.mn (p:Par):Bool:=p.h==0
abbrev SuT:=Emb→Nat→Nat→Nat→Nat→Ob→Goroutine→Prop
structure Com (p:Par) (Su:SuT) (S0:St) (F:Emb) (N C:Nat) (Inb:Nat→Option Seat) (gs:Array Goroutine) (w:World) (T:Trace):Prop where
  ring:∃ B Mem q,RingO Try.prog p.OB p.WB B p.Iv Mem Inb p.h T gs w q∧Mem 0∧Mem p.h
  tab:Tab p.OB p.WB S0 F gs.size w
  main:Inb 0=p.seat0
  seats:∀ i s,Inb i=some s→i≠p.h∧i<gs.size∧(i≠0→∃ (k:Nat) (self:Int) (quit:Nat) (closed:Bool) (hp dn:Nat) (pend:Option Nat),p.run≠some k∧S0[k]?=some (Ob.thr self quit closed true (some (hp,i,dn)) pend))
  waits:∀ (k:Nat) self quit closed (hp gid:Nat) dn pend,S0[k]?=some (Ob.thr self quit closed true (some (hp,gid,dn)) pend)→(p.run=some k→gid=p.h) ∧
    (p.run≠some k→∃ wself steps ask grant ab x y cs,S0[hp]?=some (Ob.wp wself steps ask grant quit)∧Inb gid=some (seatD (F.blk (VB+hp)) ab ask quit grant x y cs)∧Su F N C k hp (.wp wself steps ask grant quit) (doG (F.blk (VB+hp)) ab ask quit grant x y cs))
  n0:N≤VB
  c0:S0.length≤C
def SuMono (Su:SuT):Prop:=∀ F N C F' N' C' k hp ob g,Su F N C k hp ob g→Same (Kn N C) F F'→N≤N'→C≤C'→Su F' N' C' k hp ob g
theorem Kn.mono {N C N' C' n:Nat} (h:Kn N C n) (hN:N≤N') (hC:C≤C'):Kn N' C' n:=by
  rcases h with h|h
  · exact .inl (by omega)
  · exact .inr ⟨h.1,by omega⟩
section
variable {p:Par} {Su:SuT} {S0:St} {F F':Emb} {c:Conf St} {N C N' C' n:Nat} {Inb:Nat→Option Seat} {gs gs':Array Goroutine} {w w':World} {T T':Trace}
theorem Tab.turn (h:Tab p.OB p.WB S0 F n w) (hC:S0.length≤C) (hF:Same (Kn N C) F F') (hs:w.heap.size≤w'.heap.size) (hk:∀ c,¬ p.OB c→(IsChan w c→IsChan w' c)∧∀ cap,ChanO w c cap→ChanO w' c cap):Tab p.OB p.WB S0 F' n w':=by
  have hb:∀ k ob,S0[k]?=some ob→F'.blk (VB+k)=F.blk (VB+k):=fun k ob hk=>((hF (VB+k) (.inr ⟨by omega,by have:=ob_lt hk;omega⟩)).1).symm
  have hch:∀ k s c cap,ChS S0 k s c→ChanO w c cap→ChanO w' c cap:=fun k s c cap hc hm=>(hk c (h.far _ _ _ hc).2.1).2 cap hm
  refine⟨fun b=>?_,fun b=>?_,h.dist,fun k s c hc=>?_,fun b hO=>Nat.lt_of_lt_of_le (h.olow b hO) hs,fun k self quit busy cur pend hq=>hch _ _ _ _ (.quit hq) (h.quit _ _ _ _ _ _ hq),fun k self quit closed cur pend hq=>?_⟩
  · rw [h.obs b]
    constructor
    · rintro ⟨k,a1,a2,a3,a4,a5,a6,a7,a8⟩;exact⟨k,a1,a2,a3,a4,a5,a6,a7,by rw [hb k _ a7];exact a8⟩
    · rintro ⟨k,a1,a2,a3,a4,a5,a6,a7,a8⟩;exact⟨k,a1,a2,a3,a4,a5,a6,a7,by rw [←hb k _ a7];exact a8⟩
  · rw [h.wbs b]
    constructor
    · rintro ⟨k,a1,a2,a3,a4,a5,a7,a8⟩;exact⟨k,a1,a2,a3,a4,a5,a7,by rw [hb k _ a7];exact a8⟩
    · rintro ⟨k,a1,a2,a3,a4,a5,a7,a8⟩;exact⟨k,a1,a2,a3,a4,a5,a7,by rw [←hb k _ a7];exact a8⟩
  · obtain⟨h1,h2,h3⟩:=h.far k s c hc
    exact⟨(hk c h2).1 h1,h2,h3⟩
  · obtain⟨h1,hp,gid,dn,wself,steps,ask,grant,h2,h3,h4,h5,h6,h7⟩:=h.busy k self quit closed cur pend hq
    subst h2
    exact⟨h1,hp,gid,dn,wself,steps,ask,grant,rfl,h3,hch _ _ _ _ (.ask h3) h4,hch _ _ _ _ (.grant h3) h5,hch _ _ _ _ (.done hq) h6,h7⟩
theorem chan_keep {OB:Nat→Prop} (hk:∀ c,IsChan w c→¬ OB c→w'.heap[c]?=w.heap[c]?):∀ c,¬ OB c→(IsChan w c→IsChan w' c)∧∀ cap,ChanO w c cap→ChanO w' c cap:=fun c hO =>
  ⟨fun h=>by have e:=hk c h hO;obtain⟨cap,buf,cl,a,b,tm,h1⟩:=h;exact⟨cap,buf,cl,a,b,tm,e.trans h1⟩,fun cap h=>by have e:=hk c h.is hO;obtain⟨m,h1⟩:=h;exact⟨m,e.trans h1⟩⟩
theorem Com.turn (h:Com p Su S0 F N C Inb gs w T) (hSu:SuMono Su) (hF:Same (Kn N C) F F') (hN:N≤N') (hC:C≤C') (hV:N'≤VB) (hs:w.heap.size≤w'.heap.size) (hk:∀ c,¬ p.OB c→(IsChan w c→IsChan w' c)∧∀ cap,ChanO w c cap→ChanO w' c cap) (hsz:gs'.size=gs.size)
    (hr:∃ B Mem q,RingO Try.prog p.OB p.WB B p.Iv Mem Inb p.h T' gs' w' q∧Mem 0∧Mem p.h):Com p Su S0 F' N' C' Inb gs' w' T':=by
  refine⟨hr,by rw [hsz];exact h.tab.turn h.c0 hF hs hk,h.main,fun i s hi=>by rw [hsz];exact h.seats i s hi,fun k self quit closed hp gid dn pend hq=>?_,hV,Nat.le_trans h.c0 hC⟩
  obtain⟨h1,h2⟩:=h.waits k self quit closed hp gid dn pend hq
  refine⟨h1,fun hne=>?_⟩
  obtain⟨wself,steps,ask,grant,ab,x,y,cs,h3,h4,h5⟩:=h2 hne
  have e:F'.blk (VB+hp)=F.blk (VB+hp):=((hF (VB+hp) (.inr ⟨by omega,by have:=ob_lt h3;have:=h.c0;omega⟩)).1).symm
  exact⟨wself,steps,ask,grant,ab,x,y,cs,h3,by rw [e];exact h4,by rw [e];exact hSu _ _ _ _ _ _ _ _ _ _ h5 hF hN hC⟩
variable (hok:∀ mn OB WB,PrimOK mn OB WB)
def Par.X (p:Par) (hok:∀ mn OB WB,PrimOK mn OB WB):Face Try.prog St:=XF p.mn p.OB p.WB (hok _ _ _)
structure BaseP (n0:Nat) (w0:World) (Tu OB:Nat→Prop) (S0:St) (w:World):Prop where
  low:∀ x,x<n0→x<w.heap.size∧¬ Tu x∧¬ OB x∧w.heap[x]?=w0.heap[x]?
  ch:∀ k s c,ChS S0 k s c→n0≤c
theorem BaseP.size {n0:Nat} {w0:World} {Tu OB:Nat→Prop} {S0:St} {w:World} (H:BaseP n0 w0 Tu OB S0 w):n0≤w.heap.size:=Nat.le_of_not_lt fun h=>by have:=(H.low _ h).1;omega
theorem BaseP.move {n0:Nat} {w0:World} {Tu Tu' OB OB':Nat→Prop} {S0 S':St} {w w':World} (H:BaseP n0 w0 Tu OB S0 w) (hs:w.heap.size≤w'.heap.size) (hT:∀ x,x<n0→Tu' x→Tu x) (hO:∀ x,x<n0→OB' x→OB x) (hw:∀ x,x<n0→¬ Tu x→¬ OB x→(∀ k s c,ChS S0 k s c→x≠c)→w'.heap[x]?=w.heap[x]?) (hc:∀ k s c,ChS S' k s c→ChS S0 k s c∨n0≤c):BaseP n0 w0 Tu' OB' S' w' :=
  ⟨fun x hx=>by
    obtain⟨h1,h2,h3,h4⟩:=H.low x hx
    exact⟨Nat.lt_of_lt_of_le h1 hs,fun z=>h2 (hT x hx z),fun z=>h3 (hO x hx z),(hw x hx h2 h3 fun k s c h e=>by have:=H.ch k s c h;omega).trans h4⟩,fun k s c h=>(hc k s c h).elim (H.ch k s c) id⟩
structure Standing (p:Par) (hok:∀ mn OB WB,PrimOK mn OB WB) (Su:SuT) (S0:St) (F:Emb) (c:Conf St) (Inb:Nat→Option Seat) (gs:Array Goroutine) (w:World) (T:Trace):Prop where
  com:Com p Su S0 F (heap c).next (st c).length Inb gs w T
  inv:RInv (p.X hok) F c w
  ov:p.h≠0→∀ x,p.OB x→¬ Vis (p.X hok) F c x
  prot:∀ x,p.PX x→x<w.heap.size∧¬ Vis (p.X hok) F c x∧¬ p.OB x∧w.heap[x]?=p.wR.heap[x]?
  wrow:∀ x,p.WB x→∃ cc el,w.heap[x]?=some (.cells cc el (0,0))∧cc.size≠0
  wro:∀ n r,(heap c).get n=some r→p.WB (F.blk n)→r.ro=true
  base:BaseP p.n0 p.w0 (Turns (p.X hok) F c) p.OB S0 w
  same:Same (Kn p.NR p.CR) p.FR F∧p.NR≤(heap c).next∧p.CR≤(st c).length
theorem Standing.chan_out (H:Standing p hok Su S0 F c Inb gs w T) {x:Nat} (hx:IsChan w x):¬ Vis (p.X hok) F c x:=fun hv=>by
  obtain⟨cc,el,fr,h1⟩:=vis_row (XF.soft (hok _ _ _)) H.inv hv
  obtain⟨_,_,_,_,_,_,h2⟩:=hx
  rw [h1] at h2;cases h2
theorem turns_vis {X:Face Try.prog St} {x:Nat} (h:Turns X F c x):Vis X F c x:=h.imp (fun⟨n,r,h1,_,h2⟩=>⟨n,r,h1,h2⟩) id
theorem stand_piece (hSu:SuMono Su) {fn:Func} {A:Conf St→Prop} {todo:List Item} {tmps:List Value} {hh:AHeap} {S:St} {b:Frame} {cs:List Frame} {g:Goroutine} {sl:Option (Nat × Nat)} (G:Goes (p.X hok) fn A (.run todo tmps hh S)) (hb:Try.prog.funcs[b.fn]?=some fn) (hk:b.kind=.normal)
    (H:Standing p hok Su S0 F (.run todo tmps hh S) Inb gs w T) (hg:gs[p.h]?=some g) (hS:g=Go.Conc.G (b.at (actF F tmps) todo) cs) :
    Reach Try.prog (crowd gs w sl) T fun m' T'=>∃ gs' g' w' sl' c' F',m'=crowd gs' w' sl'∧gs'[p.h]?=some g'∧A c'∧StandsO Try.prog p.OB p.WB p.h F' b cs c' w' g'∧Standing p hok Su S0 F' c' Inb gs' w' T'∧Same (Kn hh.next S.length) F F'∧hh.next≤(heap c').next∧S.length≤(st c').length:=by
  have hc:=H.com
  obtain⟨B,Mem,q,R,hM0,hMh⟩:=hc.ring
  refine (hold_piece (XF.soft (hok _ _ _)) G hb hk R hg hS H.inv (fun x hx h0=>H.ov h0 x hx) (fun x hx _=>by obtain⟨cc,el,h1,h2⟩:=H.wrow x hx;exact⟨cc,el,_,h1,h2⟩) H.wro hc.tab.olow (fun x hx=>by obtain⟨_,_,h1,_⟩:=H.wrow x hx;exact block_low h1)).bind fun m' T'=>?_
  rintro ⟨gs',g',w',sl',q',B',c',F',rfl,k1,k2,k3,R'⟩
  have hkeep:∀ x,IsChan w x→¬ p.OB x→w'.heap[x]?=w.heap[x]?:=fun x hx hO=>by
    obtain⟨_,_,_,_,_,_,h2⟩:=id hx
    exact k3.keep x (block_low h2) (fun z=>H.chan_out hok hx (turns_vis z)) fun z=>hO z.1
  refine .here ⟨gs',g',w',sl',c',F',rfl,k2,k3.done,k3.stands,⟨hc.turn hSu k3.same k3.next k3.cnt k3.inv.2 k3.size (chan_keep hkeep) k1 ⟨B',Mem,q',R',hM0,hMh⟩,k3.inv,fun h0 x hx hv=>H.ov h0 x hx (k3.vis x hv (hc.tab.olow x hx)),fun x hx=>?_,fun x hx=>?_,k3.wro,?_,⟨H.same.1.trans (k3.same.mono fun n hn=>hn.mono H.same.2.1 H.same.2.2),Nat.le_trans H.same.2.1 k3.next,Nat.le_trans H.same.2.2 k3.cnt⟩⟩,k3.same,k3.next,k3.cnt⟩
  · obtain⟨h1,h2,h3,h4⟩:=H.prot x hx
    exact⟨Nat.lt_of_lt_of_le h1 k3.size,fun hv=>h2 (k3.vis x hv h1),h3,(k3.keep x h1 (fun z=>h2 (turns_vis z)) fun z=>h3 z.1).trans h4⟩
  · obtain⟨cc,el,h1,h2⟩:=H.wrow x hx
    exact⟨cc,el,(k3.keepW x hx).trans h1,h2⟩
  · exact H.base.move k3.size (fun x hx hv=>k3.turns x hv (Nat.lt_of_lt_of_le hx H.base.size)) (fun _ _ h=>h) (fun x hx h1 h2 _=>k3.keep x (Nat.lt_of_lt_of_le hx H.base.size) h1 fun z=>h2 z.1) (fun _ _ _ h=>.inl h)
end
section
variable {p:Par} {Su:SuT} {S0:St} {F F':Emb} {c:Conf St} {Inb:Nat→Option Seat} {gs gs':Array Goroutine} {w w':World} {T T':Trace}
variable (hok:∀ mn OB WB,PrimOK mn OB WB)
theorem hold_free {P:Program} {OB WB:Nat→Prop} {B:Nat} {Iv:Nat→World→Prop} {Mem:Nat→Prop} {h:Nat} {q:Nat→Nat} {sl:Option (Nat × Nat)} {a a':Goroutine} (C:RingO P OB WB B Iv Mem Inb h T gs w q) (hg:gs[h]?=some a) (hx:∀ w0,XS P a w0 a' w0) (hr':a'.status=.running)
    (hO:∀ x,OB x→x<w.heap.size) (hW:∀ x,WB x→x<w.heap.size) :
    Reach P (crowd gs w sl) T fun m' T'=>∃ gs' w' sl' q' B',m'=crowd gs' w' sl'∧gs'.size=gs.size∧gs'[h]?=some a'∧Ro OB h w w'∧RingO P OB WB B' Iv Mem Inb h T' gs' w' q':=by
  let BB:Nat→Prop:=fun x=>x<w.heap.size
  let RR:Nat→Prop:=fun _=>False
  have S:Shade BB RR (shadeW BB RR w) w:=shade_mk (fun x hx=>hx.elim id False.elim) (fun x o h1 h2=>absurd (block_low h2) h1) (fun x h1=>h1.elim)
  have hFo:Foreign OB WB Inb h BB RR:=⟨fun x hx _=>hO x hx,fun x hx=>.inl (hW x hx),fun i s x hi hs=>by
    obtain⟨cap,k,hc⟩:=C.chans i s x (fun z=>z) hi hs
    exact block_low hc⟩
  have hT:Tree P (fun g w0=>g=a'∧w0.heap.size=w.heap.size) a (shadeW BB RR w):=.step (fun t=>(a',WT (shadeW BB RR w) t)) (fun t=>hx _) (fun t=>.here ⟨rfl,S.size⟩)
  refine (hold_tree (fun g w0 hE=>by rw [hE.1];exact hr') hT _ rfl hg S hFo C).bind fun m' T'=>?_
  rintro ⟨gs',g',w0',w',sl',q',B',rfl,k1,k2,⟨rfl,k3⟩,S',k4,C'⟩
  have hsz:w'.heap.size=w.heap.size:=by rw [←S'.size,k3]
  refine .here ⟨gs',w',sl',q',B',rfl,k1,k2,⟨fun b hb=>?_,hsz,?_⟩,C'⟩
  · by_cases hlt:b<w.heap.size
    · exact k4.keep b (.inl hlt) hb
    · rw [Array.getElem?_eq_none (by omega),Array.getElem?_eq_none (by omega)]
  · have h1:=k4.os;have h2:=k4.tape;have h3:=k4.output
    cases w;cases w';simp_all
theorem Standing.grown (H:Standing p hok Su S0 F c Inb gs w T) (hSu:SuMono Su) (hro:∀ x,x<w.heap.size→¬ (p.OB x∧p.h≠0)→w'.heap[x]?=w.heap[x]?) (hs:w.heap.size≤w'.heap.size) (hsz:gs'.size=gs.size) (hr:∃ B Mem q,RingO Try.prog p.OB p.WB B p.Iv Mem Inb p.h T' gs' w' q∧Mem 0∧Mem p.h):Standing p hok Su S0 F c Inb gs' w' T':=by
  have hc:=H.com
  have hv:∀ x,Vis (p.X hok) F c x→w'.heap[x]?=w.heap[x]?:=fun x hx=>by
    obtain⟨_,_,_,h1⟩:=vis_row (XF.soft (hok _ _ _)) H.inv hx
    exact hro x (block_low h1) fun z=>H.ov z.2 x z.1 hx
  have hap:∀ x,p.OB x→¬ p.WB x:=by obtain⟨_,_,_,R,_⟩:=hc.ring;exact R.apart
  refine⟨hc.turn hSu (Same.refl _ _) (Nat.le_refl _) (Nat.le_refl _) H.inv.2 hs (chan_keep fun x hx hO=>hro x (by obtain⟨_,_,_,_,_,_,h1⟩:=hx;exact block_low h1) fun z=>hO z.1) hsz hr,?_,H.ov,fun x hx=>?_,fun x hx=>?_,H.wro,?_,H.same⟩
  · obtain⟨I,hl⟩:=H.inv
    exact⟨⟨I.holds.kept fun n r hr=>hv _ (.inl ⟨n,r,hr,rfl⟩),(p.X hok).rep_kept _ _ _ _ I.rep hs fun b hb=>hv b (.inr hb),I.vst,I.hst,I.hk,I.hand,I.klim,Kept.refl _ _,fun _ _ _ _ _=>trivial,fun _ _ _=>trivial,I.sep⟩,hl⟩
  · obtain⟨h1,h2,h3,h4⟩:=H.prot x hx
    exact⟨Nat.lt_of_lt_of_le h1 hs,h2,h3,(hro x h1 fun z=>h3 z.1).trans h4⟩
  · obtain⟨cc,el,h1,h2⟩:=H.wrow x hx
    exact⟨cc,el,(hro x (block_low h1) fun z=>hap x z.1 hx).trans h1,h2⟩
  · exact H.base.move hs (fun _ _ h=>h) (fun _ _ h=>h) (fun x hx _ h2 _=>hro x (Nat.lt_of_lt_of_le hx H.base.size) fun z=>h2 z.1) (fun _ _ _ h=>.inl h)
theorem Standing.moved (H:Standing p hok Su S0 F c Inb gs w T) (hSu:SuMono Su) (hro:Ro p.OB p.h w w') (hsz:gs'.size=gs.size) (hr:∃ B Mem q,RingO Try.prog p.OB p.WB B p.Iv Mem Inb p.h T' gs' w' q∧Mem 0∧Mem p.h):Standing p hok Su S0 F c Inb gs' w' T' :=
  H.grown hok hSu (fun x _ hx=>hro.only x hx) (Nat.le_of_eq hro.size.symm) hsz hr
theorem Standing.conf {c':Conf St} (H:Standing p hok Su S0 F c Inb gs w T) (hh:heap c'=heap c) (hs:st c'=st c) (hv:∀ v∈vals c',Stab (Kn (heap c).next (st c).length) F v):Standing p hok Su S0 F c' Inb gs w T:=by
  have hc:=H.com
  have hvis:∀ x,Vis (p.X hok) F c' x↔Vis (p.X hok) F c x:=fun x=>by unfold Vis;rw [hh,hs]
  have hturns:∀ x,Turns (p.X hok) F c' x↔Turns (p.X hok) F c x:=fun x=>by unfold Turns;rw [hh,hs]
  refine⟨by rw [hh,hs];exact hc,?_,fun h0 x hx=>by rw [hvis];exact H.ov h0 x hx,fun x hx=>by rw [hvis];exact H.prot x hx,H.wrow,by rw [hh];exact H.wro,H.base.move (Nat.le_refl _) (fun x _ h=>(hturns x).1 h) (fun _ _ h=>h) (fun _ _ _ _ _=>rfl) (fun _ _ _ h=>.inl h),by rw [hh,hs];exact H.same⟩
  obtain⟨I,hl⟩:=H.inv
  refine⟨?_,by rw [hh];exact hl⟩
  rw [hh,hs]
  exact⟨I.holds,I.rep,hv,I.hst,I.hk,I.hand,I.klim,Kept.refl _ _,fun _ _ _ _ _=>trivial,fun _ _ _=>trivial,I.sep⟩
theorem Standing.stab (H:Standing p hok Su S0 F c Inb gs w T):∀ v∈vals c,Stab (Kn (heap c).next (st c).length) F v:=fun v hv=>H.inv.1.vst v hv
def baseF (f:FuncId):Frame:={ (default:Frame) with fn:=f,kind:=.normal }
theorem enter_actF {f:FuncId} {g:Func} {cd:Code} {args:Array Value} (hf:Try.prog.funcs[f]?=some g) (hbd:g.body=some cd):Frame.enter Try.prog f (args.map (ren F)) .normal=(baseF f).at (actF F (enterL g cd args).2) (enterL g cd args).1:=by
  simp [Frame.enter,Frame.at,hf,hbd,baseF,actF,enterL,ren_undef]
section
variable {ops:Array Oper} {i:Nat} {rest:List Nat} {k:List Item} {tmps:List Value} {h:AHeap} {S:St} {o:Oper} {f:FuncId} {args:Array Value} {b:Frame} {cs:List Frame} {g:Goroutine} {sl:Option (Nat × Nat)}
theorem stand_enter (hSu:SuMono Su) {fg:Func} {cd:Code} (ho:ops[i]?=some o) (hw:Region.wanted o (yieldedL ops tmps)=true) (hb':o.op.operands.all operB=true) (hca:callA Try.prog (evA tmps) o.op=some (f,args)) (hf:Try.prog.funcs[f]?=some fg) (hgB:goB fg=true) (hbd:fg.body=some cd) (hk:b.kind=.normal)
    (H:Standing p hok Su S0 F (.run (.inRegion ops (i::rest)::k) tmps h S) Inb gs w T) (hg:gs[p.h]?=some g) (hS:g=Go.Conc.G (b.at (actF F tmps) (.inRegion ops (i::rest)::k)) cs) :
    Reach Try.prog (crowd gs w sl) T fun m' T'=>∃ gs' w' sl',m'=crowd gs' w' sl'∧gs'[p.h]?=some (Go.Conc.G ((baseF f).at (actF F (enterL fg cd args).2) (enterL fg cd args).1) (b.at (actF F tmps) (.inRegion ops (i::rest)::k)::cs))∧Standing p hok Su S0 F (.run (enterL fg cd args).1 (enterL fg cd args).2 h S) Inb gs' w' T':=by
  subst hS
  have hop:∀ x∈o.op.operands,operB x=true:=fun x hx=>by simpa using (Array.all_eq_true_iff_forall_mem.1 hb') x hx
  have hst:∀ x∈o.op.operands,Stab (Kn h.next S.length) F (evA tmps x):=fun x hx=>evals_stab H.stab x (hop x hx)
  have hgo:=hgB
  unfold goB at hgo
  rw [Bool.and_eq_true] at hgo
  have hc:=H.com
  obtain⟨B,Mem,q,R,hM0,hMh⟩:=hc.ring
  have hρ:∀ x∈o.op.operands,(actF F tmps).eval x=ren F (evA tmps x):=fun x hx=>actF_eval F tmps x (hop x hx)
  refine (hold_free (a':=Go.Conc.G (Frame.enter Try.prog f (args.map (ren F)) .normal) (b.at (actF F tmps) (.inRegion ops (i::rest)::k)::cs)) R hg (fun w0=>xs_enter ho (by rw [actF_wanted];exact hw) (by rw [hk];decide) (tame_of_calm (callA_calm hρ hca hf hgo.1 (by simpa using hgo.2))) (callA_run hρ hca hf hgo.1 (by simpa using hgo.2))) rfl hc.tab.olow (fun x hx=>by obtain⟨_,_,h1,_⟩:=H.wrow x hx;exact block_low h1)).bind fun m' T'=>?_
  rintro ⟨gs',w',sl',q',B',rfl,k1,k2,k3,R'⟩
  refine .here ⟨gs',w',sl',rfl,by rw [←enter_actF hf hbd];exact k2,Standing.conf hok (Standing.moved hok H hSu k3 k1 ⟨B',Mem,q',R',hM0,hMh⟩) rfl rfl fun u hu=>?_⟩
  have hu:u∈(enterL fg cd args).2:=hu
  simp only [enterL,List.mem_append] at hu
  rcases hu with hu|hu
  · exact callA_stab hst hca u (by simpa using hu)
  · rw [List.eq_of_mem_replicate hu];exact Stab.undef
end
end
section
variable {p:Par} {Su:SuT} {S0:St} {F F':Emb} {c:Conf St} {Inb:Nat→Option Seat} {gs gs':Array Goroutine} {w w':World} {T T':Trace}
variable (hok:∀ mn OB WB,PrimOK mn OB WB)
variable {ops:Array Oper} {i:Nat} {rest:List Nat} {k:List Item} {tmps:List Value} {h:AHeap} {S:St} {o:Oper} {f:FuncId} {args:Array Value} {b:Frame} {cs:List Frame} {g:Goroutine} {sl:Option (Nat × Nat)}
theorem stand_step (hSu:SuMono Su) {g':Goroutine} {c':Conf St} (H:Standing p hok Su S0 F c Inb gs w T) (hg:gs[p.h]?=some g) (hrun:g.status=.running) (hstep:∀ w1,Ro p.OB p.h w w1→∃ es,stepG Try.prog (p.h==0) g w1=.go g' w1 es∧∀ e∈es,EvO p.OB p.WB p.h w1 e)
    (hh:heap c'=heap c) (hs:st c'=st c) (hv:∀ v∈vals c',Stab (Kn (heap c).next (st c).length) F v) :
    Reach Try.prog (crowd gs w sl) T fun m' T'=>∃ gs' w' sl',m'=crowd gs' w' sl'∧gs'[p.h]?=some g'∧Ro p.OB p.h w w'∧Standing p hok Su S0 F c' Inb gs' w' T':=by
  obtain⟨B,Mem,q,R,hM0,hMh⟩:=H.com.ring
  refine (hold_goes (Stop:=fun g1 w1=>g1=g'∧Ro p.OB p.h w w1) 1 hg (Conc.Goes.step hrun fun w1 hw1=>?_) R).bind fun m' T'=>?_
  · obtain⟨es,e1,e2⟩:=hstep w1 hw1
    rw [e1,goes_go]
    exact⟨DO.quiet e2,fun w2 hw2=>⟨rfl,Ro.trans _ _ _ hw1 hw2⟩⟩
  · rintro ⟨gs',a',w',sl',q',B',rfl,k1,k2,⟨rfl,k3⟩,R'⟩
    exact .here ⟨gs',w',sl',rfl,k2,k3,Standing.conf hok (Standing.moved hok H hSu k3 k1 ⟨B',Mem,q',R',hM0,hMh⟩) hh hs hv⟩
theorem stand_leave (hSu:SuMono Su) {F0:Emb} {N0 C0:Nat} {v:Value} {h1:AHeap} {S1:St} {b':Frame} (ho:ops[i]?=some o) (hst:∀ u∈tmps,Stab (Kn N0 C0) F0 u) (hF:Same (Kn N0 C0) F0 F) (hN:N0≤h1.next) (hC:C0≤S1.length)
    (H:Standing p hok Su S0 F (.done v h1 S1) Inb gs w T) (hg:gs[p.h]?=some g) (hS:StandsO Try.prog p.OB p.WB p.h F b' (b.at (actF F0 tmps) (.inRegion ops (i::rest)::k)::cs) (.done v h1 S1) w g) :
    Reach Try.prog (crowd gs w sl) T fun m' T'=>∃ gs' w' sl',m'=crowd gs' w' sl'∧gs'[p.h]?=some (Go.Conc.G (b.at (actF F (putL o.dst v tmps)) (.inRegion ops rest::k)) cs)∧Standing p hok Su S0 F (.run (.inRegion ops rest::k) (putL o.dst v tmps) h1 S1) Inb gs' w' T':=by
  obtain⟨fr,rfl,_,_,hl⟩:=hS
  have hfin:(b.at (actF F0 tmps) (.inRegion ops (i::rest)::k)).finish (ren F v)=b.at (actF F (putL o.dst v tmps)) (.inRegion ops rest::k):=by
    rw [Frame.finish_at,ho]
    show b.at ((actF F0 tmps).put o.dst (ren F v)) (.inRegion ops rest::k)=_
    rw [←actF_congr hst hF,actF_put]
  have hl:=hl _ _ rfl
  rw [hfin] at hl
  have hKK:∀ x,Kn N0 C0 x→Kn h1.next S1.length x:=fun x hx=>hx.mono hN hC
  refine (stand_step hok hSu (c':=.run (.inRegion ops rest::k) (putL o.dst v tmps) h1 S1) H hg rfl hl rfl rfl (putL_stab (fun u hu=>(hst u hu).move hF hKK) (H.inv.1.vst v (List.mem_singleton.2 rfl)) o.dst)).bind fun m' T'=>?_
  rintro ⟨gs',w',sl',rfl,k1,_,k2⟩
  exact .here ⟨gs',w',sl',rfl,k1,k2⟩
end
section
variable (hok:∀ mn OB WB,PrimOK mn OB WB)
variable {Γ D:Type} (Cl:D→Γ × St→Par→Prop) (Su:D→Γ→SuT) (Fin:D→Machine→Trace→Prop)
def Safe (b:Frame) (cs:List Frame) (F0:Emb) (N0 C0:Nat) (c:Conf St) (γ:Γ × St):Prop :=
  ∀ d p Inb F gs w sl T g,Cl d γ p→Standing p hok (Su d γ.1) γ.2 F c Inb gs w T→gs[p.h]?=some g→StandsO Try.prog p.OB p.WB p.h F b cs c w g→Same (Kn N0 C0) F0 F→N0≤(heap c).next→C0≤(st c).length→Reach Try.prog (crowd gs w sl) T (Fin d)
abbrev SpT (Γ:Type):=FuncId→Array Value→AHeap→St→Γ × St→(Value→AHeap→St→Γ × St→Prop)→Prop
def SpOK (Stk:List Frame→Prop) (Sp:SpT Γ):Prop:=∀ (f:FuncId) (args:Array Value) (h:AHeap) (S:St) (γ:Γ × St) (Q:Value→AHeap→St→Γ × St→Prop),Sp f args h S γ Q →
  ∀ (b:Frame) (cs:List Frame) (F0:Emb) (N0 C0:Nat) (fn:Func) (ops:Array Oper) (i:Nat) (rest:List Nat) (k:List Item) (tmps:List Value) (o:Oper),Try.prog.funcs[b.fn]?=some fn→b.kind=.normal→Stk cs→ops[i]?=some o→Region.wanted o (yieldedL ops tmps)=true→o.op.operands.all operB=true→callA Try.prog (evA tmps) o.op=some (f,args) →
    (∀ v h1 S1 γ',Q v h1 S1 γ'→Safe hok Cl Su Fin b cs F0 N0 C0 (.run (.inRegion ops rest::k) (putL o.dst v tmps) h1 S1) γ')→Safe hok Cl Su Fin b cs F0 N0 C0 (.run (.inRegion ops (i::rest)::k) tmps h S) γ
theorem GE.safe {X:Face Try.prog St} {Sp:SpT Γ} {Stk:List Frame→Prop} (hStk:∀ (b:Frame) (fn:Func) (t:Array Value) (todo:List Item) (cs:List Frame),Try.prog.funcs[b.fn]?=some fn→b.kind=.normal→Stk cs→Stk (b.at ⟨t,[]⟩ todo::cs)) (hSu:∀ d (γ:Γ × St) p,Cl d γ p→SuMono (Su d γ.1)) (hX:∀ d γ p,Cl d γ p→∀ f a S v S',X.prim f a S v S'→PrimV p.mn f a S v S') (hcnt:X.cnt=List.length) (hSp:SpOK hok Cl Su Fin Stk Sp) {fn:Func} {A:Conf St→Γ × St→Prop} {c:Conf St} {γ:Γ × St} (G:GE X Sp fn A c γ) :
    ∀ (b:Frame) (cs:List Frame) (F0:Emb) (N0 C0:Nat),Try.prog.funcs[b.fn]?=some fn→b.kind=.normal→Stk cs→(∀ c' γ',A c' γ'→Safe hok Cl Su Fin b cs F0 N0 C0 c' γ')→Safe hok Cl Su Fin b cs F0 N0 C0 c γ:=by
  induction G with
  | here h=>exact fun b cs F0 N0 C0 _ _ _ K=>K _ _ h
  | @plain fn A c γ A' G hk ih =>
    intro b cs F0 N0 C0 hb hkd hsk K
    cases c with
    | done v hh S =>
      cases G with
      | here h=>exact ih _ h b cs F0 N0 C0 hb hkd hsk K
    | run todo tmps hh S =>
      intro d p Inb F gs w sl T g hC H hg hS hF hN0 hC0
      have G':Goes (p.X hok) fn A' (.run todo tmps hh S):=G.face (X':=p.X hok) (hX d _ p hC) (by rw [hcnt];rfl)
      refine (stand_piece hok (hSu _ _ _ hC) G' hb hkd H hg hS).bind fun m' T'=>?_
      rintro ⟨gs',g',w',sl',c',F',rfl,k1,k2,k3,k4,k5,k6,k7⟩
      exact ih c' k2 b cs F0 N0 C0 hb hkd hsk K d p Inb F' gs' w' sl' T' g' hC k4 k1 k3 (hF.trans (k5.mono fun n hn=>hn.mono hN0 hC0)) (Nat.le_trans hN0 k6) (Nat.le_trans hC0 k7)
  | @call fn A ops i rest k tmps h S o γ f g c args Q ho hw hb' hca hf hg hbd _ _ ih1 ih2 =>
    intro b cs F0 N0 C0 hb hkd hsk K d p Inb F gs w sl T gr hC H hgr hS hF hN0 hC0
    refine (stand_enter hok (hSu _ _ _ hC) ho hw hb' hca hf hg hbd hkd H hgr hS).bind fun m' T'=>?_
    rintro ⟨gs',w',sl',rfl,k1,k2⟩
    refine ih1 (baseF f) (b.at (actF F tmps) (.inRegion ops (i::rest)::k)::cs) F h.next S.length hf rfl (hStk _ _ _ _ _ hb hkd hsk) ?_ d p Inb F gs' w' sl' T' _ hC k2 k1 rfl (Same.refl _ _) (Nat.le_refl _) (Nat.le_refl _)
    rintro c' γ' ⟨v,h1,S1,rfl,hq⟩ d1 p1 Inb1 F1 gs1 w1 sl1 T1 g1 hC1 H1 hg1 hS1 hF1 hN1 hl1
    have hN1:h.next≤h1.next:=hN1
    have hl1:S.length≤S1.length:=hl1
    refine (stand_leave hok (hSu _ _ _ hC1) ho (fun u hu=>H.inv.1.vst u hu) hF1 hN1 hl1 H1 hg1 hS1).bind fun m2 T2=>?_
    rintro ⟨gs2,w2,sl2,rfl,j1,j2⟩
    exact ih2 v h1 S1 γ' hq b cs F0 N0 C0 hb hkd hsk K d1 p1 Inb1 F1 gs2 w2 sl2 T2 _ hC1 j2 j1 rfl (hF.trans (hF1.mono fun n hn=>hn.mono hN0 hC0)) (Nat.le_trans hN0 hN1) (Nat.le_trans hC0 hl1)
  | spec f args Q ho hw hb' hca hsp _ ih =>
    intro b cs F0 N0 C0 hb hkd hsk K
    exact hSp _ _ _ _ _ _ hsp b cs F0 N0 C0 _ _ _ _ _ _ _ hb hkd hsk ho hw hb' hca fun v h1 S1 γ' hq=>ih v h1 S1 γ' hq b cs F0 N0 C0 hb hkd hsk K
  | @draws fn A id ops k tmps h S γ _ ih =>
    intro b cs F0 N0 C0 hb hkd hsk K d p Inb F gs w sl T g hC H hg hS hF hN0 hC0
    subst hS
    obtain⟨B,Mem,q,R,hM0,hMh⟩:=H.com.ring
    refine (hold_goes (Stop:=fun g1 w1=>(∃ t,g1=Go.Conc.G (b.at (actF F tmps) (.inRegion ops (Region.schedule (Try.prog.follows .mixedOrders) ops t)::k)) cs)∧Ro p.OB p.h w w1) 1 hg (Conc.Goes.step rfl fun w1 hw1=>?_) R).bind fun m' T'=>?_
    · rw [stepG_region_draw,goes_go]
      exact⟨⟨fun _ _ _ _ _=>rfl,fun _ _ _=>rfl,fun _ _ _=>rfl,Nat.le_refl _,rfl,fun e he=>by simp at he⟩,fun w2 hw2=>⟨⟨_,rfl⟩,Ro.trans w w1 w2 hw1 (show SideD (fun b=>p.OB b∧p.h≠0) w1 w2 from ⟨hw2.only,hw2.size,hw2.rest⟩)⟩⟩
    · rintro ⟨gs',a',w',sl',q',B',rfl,k1,k2,⟨⟨t,rfl⟩,k3⟩,R'⟩
      exact ih t b cs F0 N0 C0 hb hkd hsk K d p Inb F gs' w' sl' T' _ hC (Standing.conf hok (Standing.moved hok H (hSu _ _ _ hC) k3 k1 ⟨B',Mem,q',R',hM0,hMh⟩) rfl rfl (fun u hu=>H.inv.1.vst u hu)) k2 rfl hF hN0 hC0
end
end Go.Proofs.Ytkjnamhgemidkaa
namespace Go.Proofs.Ytkjnamhgemidkaa
open Go Go.RowKit
set_option linter.unusedSimpArgs false
set_option linter.unusedVariables false
abbrev wpB (wself:Int) (steps:Nat) (told:Value) (ak gr qt:Nat):Blk:=⟨[.int .i64 wself,.int .i64 (wr steps),told,.chan (some ak),.chan (some gr),.chan (some qt)],108,true,none⟩
abbrev doL1 (c:Nat) (n:Int) (A B:UInt64) (ak qt:Nat):List Value:=[.pointer (some ⟨0,0,none⟩),accV c n A B,undef,.pointer (some ⟨2,0,none⟩),.int .u64 0,undef,.pointer (some ⟨0,0,none⟩),.pointer (some ⟨0,0,none⟩),.pointer (some ⟨0,3,none⟩),.chan (some ak),accV c n A B,.pointer (some ⟨0,0,none⟩),.pointer (some ⟨0,0,none⟩),.pointer (some ⟨0,5,none⟩),.chan (some qt),undef,undef,undef,undef,undef,undef,undef,undef,undef,undef,undef,undef,undef,undef,undef,undef,undef,undef,undef,undef,undef,undef,undef,undef,undef,undef,undef,undef,undef]
set_option maxRecDepth 100000 in
theorem do1_goes (wself:Int) (steps:Nat) (told:Value) (ak gr qt c:Nat) (n:Int) (A B:UInt64) :
    Goes BT Try.f137 (fun x=>x=.run [.inRegion doOps1 [0,1,2,3],.code doBlk0,.code doY] (doL1 c n A B ak qt) (heapL [some (wpB wself steps told ak gr qt),none,some ⟨[.int .u8 (c:Int),.int .i64 n,.int .u64 (A.toNat:Int),.int .u64 (B.toNat:Int)],36,false,some 0⟩]) ()) (.run [.code doC] [.pointer (some ⟨0,0,none⟩),accV c n A B,undef,undef,undef,undef,undef,undef,undef,undef,undef,undef,undef,undef,undef,undef,undef,undef,undef,undef,undef,undef,undef,undef,undef,undef,undef,undef,undef,undef,undef,undef,undef,undef,undef,undef,undef,undef,undef,undef,undef,undef,undef,undef] (heapL [some (wpB wself steps told ak gr qt),none]) ()):=by
  generalize Try.f137=fnX
  simp only [doC,Try.f137,Option.getD_some,accV]
  refine via ?_
  exact Goes.here (by simp only [doL1,doOps1,doBlk0,doY,doC,cOps,cL,cR,Try.f137,Option.getD_some,accV];rfl)
def cIn:Code→Code|.block _ b=>b|c=>c
noncomputable def doOps10:Array Oper:=cOps (cL (cR (cThen (cIn doBlk1))))
noncomputable def doR11:Code:=cR (cR (cThen (cIn doBlk1)))
theorem wr_succ (n:Nat):IntKind.i64.wrap (wr n+1)=wr (n+1):=by
  unfold wr
  rw [IntKind.wrap_i64,IntKind.wrap_i64,IntKind.wrap_i64]
  omega
abbrev doL1' (c:Nat) (n:Int) (A B v:UInt64) (ak gr qt:Nat):List Value:=[.pointer (some ⟨0,0,none⟩),accV c n A B,undef,.pointer (some ⟨2,0,none⟩),.int .u64 0,undef,.pointer (some ⟨0,0,none⟩),.pointer (some ⟨0,0,none⟩),.pointer (some ⟨0,3,none⟩),.chan (some ak),accV c n A B,.pointer (some ⟨0,0,none⟩),.pointer (some ⟨0,0,none⟩),.pointer (some ⟨0,5,none⟩),.chan (some qt),.tuple #[.int .i64 0,.bool false,.agg #[]],.int .i64 0,.bool true,.bool false,undef,undef,.pointer (some ⟨0,0,none⟩),.pointer (some ⟨0,0,none⟩),.pointer (some ⟨0,4,none⟩),.chan (some gr),.pointer (some ⟨0,0,none⟩),.pointer (some ⟨0,0,none⟩),.pointer (some ⟨0,5,none⟩),.chan (some qt),.tuple #[.int .i64 0,.bool true,.int .u64 (v.toNat:Int),.agg #[]],undef,undef,undef,undef,undef,undef,undef,undef,undef,undef,undef,undef,undef,undef]
abbrev doL2 (c:Nat) (n:Int) (A B v:UInt64) (steps ak gr qt:Nat):List Value:=[.pointer (some ⟨0,0,none⟩),accV c n A B,undef,.pointer (some ⟨2,0,none⟩),.int .u64 0,.int .u64 (v.toNat:Int),.pointer (some ⟨0,0,none⟩),.pointer (some ⟨0,0,none⟩),.pointer (some ⟨0,3,none⟩),.chan (some ak),accV c n A B,.pointer (some ⟨0,0,none⟩),.pointer (some ⟨0,0,none⟩),.pointer (some ⟨0,5,none⟩),.chan (some qt),.tuple #[.int .i64 0,.bool false,.agg #[]],.int .i64 0,.bool true,.bool false,undef,undef,.pointer (some ⟨0,0,none⟩),.pointer (some ⟨0,0,none⟩),.pointer (some ⟨0,4,none⟩),.chan (some gr),.pointer (some ⟨0,0,none⟩),.pointer (some ⟨0,0,none⟩),.pointer (some ⟨0,5,none⟩),.chan (some qt),.tuple #[.int .i64 0,.bool true,.int .u64 (v.toNat:Int),.agg #[]],.int .i64 0,.bool true,.bool false,.int .u64 (v.toNat:Int),.pointer (some ⟨0,0,none⟩),.pointer (some ⟨0,0,none⟩),.pointer (some ⟨0,1,none⟩),.int .i64 (wr steps),.int .i64 (wr (steps+1)),.pointer (some ⟨0,0,none⟩),.pointer (some ⟨0,1,none⟩),undef,undef,undef]
set_option maxRecDepth 100000 in
theorem do2_goes (wself:Int) (steps:Nat) (told:Value) (ak gr qt c:Nat) (n:Int) (A B v:UInt64) :
    Goes BT Try.f137 (fun x=>x=.run [.inRegion doOps10 [7],.code doR11,.inBlock 1] (doL2 c n A B v steps ak gr qt) (heapL [some (wpB wself steps told ak gr qt),none,none]) ()) (.run [.inRegion doOps2 [1,2,3],.code doBlk1] (doL1' c n A B v ak gr qt) (heapL [some (wpB wself steps told ak gr qt),none,none]) ()):=by
  generalize Try.f137=fnX
  simp only [doOps2,doBlk1,doC,cOps,cL,cR,Try.f137,Option.getD_some,accV]
  show At BT fnX _ _ _ 1 _ _ _
  have e:=wr_succ steps
  refine viaF e ?_
  exact Goes.here (by simp only [doL2,doOps10,doR11,doBlk1,cIn,cThen,doC,cOps,cL,cR,Try.f137,Option.getD_some,accV];rfl)
set_option maxRecDepth 100000 in
theorem do3_goes (wself:Int) (steps s2:Nat) (told:Value) (ak gr qt c:Nat) (n:Int) (A B v:UInt64) :
    Goes BT Try.f137 (fun x=>∃ h1,x=.done (.int .u64 (v.toNat:Int)) h1 ()) (.run [.inRegion doOps10 [],.code doR11,.inBlock 1] (doL2 c n A B v steps ak gr qt) (heapL [some (wpB wself s2 told ak gr qt),none,none]) ()):=by
  generalize hfn:Try.f137=fnX
  simp only [doOps10,doR11,doBlk1,cIn,cThen,doC,cOps,cL,cR,Try.f137,Option.getD_some,accV]
  show At BT fnX _ _ _ 8 _ _ _
  refine via ?_
  subst hfn
  exact Goes.fin rfl rfl rfl
end Go.Proofs.Ytkjnamhgemidkaa
namespace Go.Proofs.Ytkjnamhgemidkaa
open Go Go.Conc
set_option linter.unusedSimpArgs false
set_option linter.unusedVariables false
open Go.ConcN (sumTo upd sumTo_upd upd_ne upd_same)
noncomputable def rootC:Code:=(Try.f71.body).getD .skip
noncomputable def rootOps2:Array Oper:=cOps (cR (cR rootC))
noncomputable def botF:Frame:={ (default:Frame) with fn:=Try.prog.funcs.size,defers:=[],mode:=.panicking [goexitEntry] }
abbrev dclos (f:FuncId) (ys:Array Value):Deferred:={ target:=.fn (.func f) ys,args:=#[] }
abbrev rootT (fv:Value) (wb dn bx:Nat) (z:Value):Array Value:=#[fv,pt wb,.chan (some dn),undef,undef,pt bx,.func (.func 95) #[] #[pt bx],fv,pt wb,.iface 99 (pt wb),z]
noncomputable def rootFr (fv:Value) (wb dn bx:Nat) (rest:List Nat):Frame:=(baseD 71).at ⟨rootT fv wb dn bx undef,[dclos 95 #[pt bx]]⟩ [.inRegion rootOps2 rest]
inductive Downs (r:Frame):List Frame→Prop
  | root:Downs r [r,botF]
  | frame {c:Frame} {fn:Func} {cs:List Frame} (hf:Try.prog.funcs[c.fn]?=some fn) (hd:c.defers=[]) (hm:c.mode=.run) (h:Downs r cs):Downs r (c::cs)
def GoneF (F0:Emb) (hp:Nat) (g:Goroutine):Prop:=∃ (wb:Nat) (ab:Nat × Nat) (ak qt gr:Nat) (x y:Value) (cs:List Frame) (fv:Value) (wbr dn0:Nat),g=doG wb ab ak qt gr x y cs∧Downs (rootFr fv wbr dn0 (F0.blk (VB+(hp+1))) [3]) cs
structure Proto (Γ:Type) where
  Ph:Type
  ph:Γ→Nat→Option Ph
  acc:Ph→Nat × Int × UInt64 × UInt64
  fuel:Γ→Nat
  Inv:Γ→AHeap→St→Prop
  Run:Nat→Ph→UInt64→Γ→AHeap→St→Prop
def accQ (a:Nat × Int × UInt64 × UInt64):Value:=accV a.1 a.2.1 a.2.2.1 a.2.2.2
def IvN (OB:Nat→Prop) (wN:World) (i:Nat) (w:World):Prop:=i=0→∀ b,OB b→w.heap[b]?=wN.heap[b]?
structure BD (Γ:Type) where
  p:Par
  Su:SuT
  k:Nat
  hp:Nat
  self:Int
  quit:Nat
  dn:Nat
  pend:Option Nat
  wself:Int
  steps:Nat
  ask:Nat
  grant:Nat
  γ:Γ
  S:St
  wN:World
  tb:Nat
  cs0:List Frame
structure BD.Ok {Γ:Type} (d:BD Γ):Prop where
  mono:SuMono d.Su
  run:d.p.run=some d.k
  h0:d.p.h≠0
  iv:d.p.Iv=IvN d.p.OB d.wN
  seat:d.p.seat0=some (seatG d.tb (d.p.FR.blk (VB+d.hp)) d.dn d.ask d.cs0)
  thr:d.S[d.k]?=some (.thr d.self d.quit false true (some (d.hp,d.p.h,d.dn)) d.pend)
  wp:d.S[d.hp]?=some (.wp d.wself d.steps d.ask d.grant d.quit)
  cr:d.p.CR=d.S.length
  px:∀ x,d.p.PX x→∃ cc el fr,d.p.wR.heap[x]?=some (.cells cc el fr)
abbrev cntS (S:St) (hp:Nat) (wself:Int) (s2 ask grant quit:Nat):St:=S.set hp (.wp wself s2 ask grant quit)
variable (hok:∀ mn OB WB,PrimOK mn OB WB)
def XB (hok:∀ mn OB WB,PrimOK mn OB WB) (OB WB:Nat→Prop):Face Try.prog St:=XF false OB WB (hok _ _ _)
section
variable {Γ:Type} (Pr:Proto Γ)
abbrev QT:=Emb→Nat→Nat→Nat→Nat→Nat→Ob→Pr.Ph→Goroutine→Prop
def Came (Q:QT Pr) (d:BD Γ) (m:Machine) (T:Trace):Prop :=
  ∃ (gs:Array Goroutine) (w:World) (sl:Option (Nat × Nat)) (F:Emb) (hs:AHeap) (γ:Γ) (kk:Nat) (val:Value) (Inb:Nat→Option Seat) (S':St) (Su':SuT) (Iv':Nat→World→Prop),m=crowd gs w sl ∧
    gs[0]?=some ((goesG d.tb (d.p.FR.blk (VB+d.hp)) d.dn d.ask d.cs0).finishComm Try.prog (seatG d.tb (d.p.FR.blk (VB+d.hp)) d.dn d.ask d.cs0).cases (seatG d.tb (d.p.FR.blk (VB+d.hp)) d.dn d.ask d.cs0).shape kk val true) ∧
    (∀ i,i≠d.k→Pr.ph γ i=Pr.ph d.γ i)∧Pr.fuel γ=Pr.fuel d.γ∧Pr.Inv γ hs d.S∧Same (Kn d.p.NR d.p.CR) d.p.FR F∧d.p.NR≤hs.next ∧
    (∀ b,d.p.OB b→w.heap[b]?=d.wN.heap[b]?)∧RInv (XB hok d.p.OB d.p.WB) F (.run [] [] hs d.S) w∧(∀ x,d.p.OB x→¬ Vis (XB hok d.p.OB d.p.WB) F (.run [] [] hs d.S) x) ∧
    (∀ x,d.p.PX x→x<w.heap.size∧¬ Vis (XB hok d.p.OB d.p.WB) F (.run [] [] hs d.S) x∧¬ d.p.OB x∧w.heap[x]?=d.p.wR.heap[x]?) ∧
    (∀ x,d.p.WB x→∃ cc el,w.heap[x]?=some (.cells cc el (0,0))∧cc.size≠0)∧(∀ n r,hs.get n=some r→d.p.WB (F.blk n)→r.ro=true) ∧
    BaseP d.p.n0 d.p.w0 (Turns (XB hok d.p.OB d.p.WB) F (.run [] [] hs d.S)) d.p.OB d.S w ∧
    Com ⟨0,none,d.p.OB,d.p.WB,Iv',none,fun _=>False,w,F,0,0,d.p.n0,d.p.w0⟩ Su' S' F hs.next d.S.length Inb gs w T ∧
    ((kk=0∧∃ q,Pr.ph γ d.k=some q∧val=accQ (Pr.acc q)∧S'=d.S∧∀ F1 N1 C1 i hp ob g,Su' F1 N1 C1 i hp ob g→if i=d.k then ∃ F0 n0 c0,Same (Kn n0 c0) F0 F1∧n0≤N1∧c0≤C1∧Q F0 n0 c0 (Pr.fuel γ) d.k hp ob q g else d.Su F1 N1 C1 i hp ob g) ∨
      (kk=1∧Pr.ph γ d.k=none∧val=.nilIface∧S'=d.S.set d.k (.thr d.self d.quit false false (some (d.hp,d.p.h,d.dn)) none)∧Su'=d.Su))
def Resum (Q:QT Pr) (F0:Emb) (n0 c0 n k hp:Nat) (ob:Ob) (q:Pr.Ph) (g₂:Goroutine):Prop :=
  ∀ (d:BD Γ) (s:Nat) (S:St) (F:Emb) (hs:AHeap) (Inb:Nat→Option Seat) (gs:Array Goroutine) (w:World) (sl:Option (Nat × Nat)) (T:Trace) (v:UInt64),d.Ok→d.k=k→d.hp=hp→d.steps=s+1→ob=.wp d.wself s d.ask d.grant d.quit→S[hp]?=some ob→d.S=cntS S hp d.wself d.steps d.ask d.grant d.quit →
    Standing d.p hok d.Su S F (.run [] [] hs S) Inb gs w T→gs[d.p.h]?=some (g₂.finishComm Try.prog #[rcase d.grant (.int .u64 0),rcase d.quit (.agg #[])] .select 0 (.int .u64 (v.toNat:Int)) true) →
    Same (Kn n0 c0) F0 F→n0≤hs.next→c0≤S.length→Pr.Run k q v d.γ hs d.S→Pr.fuel d.γ<n→Reach Try.prog (crowd gs w sl) T (Came hok Pr Q d)
def BSusp:QT Pr:=fun F0 n0 c0 n k hp ob q g=>∃ Q:QT Pr,Q F0 n0 c0 n k hp ob q g∧∀ F0 n0 c0 n k hp ob q g,Q F0 n0 c0 n k hp ob q g→Resum hok Pr Q F0 n0 c0 n k hp ob q g∧GoneF F0 hp g
variable {Pr}
theorem Came.mono {Q Q':QT Pr} (h:∀ F0 n0 c0 n k hp ob q g,Q F0 n0 c0 n k hp ob q g→Q' F0 n0 c0 n k hp ob q g) {d:BD Γ} {m:Machine} {T:Trace} (H:Came hok Pr Q d m T):Came hok Pr Q' d m T:=by
  obtain⟨gs,w,sl,F,hs,γ,kk,val,Inb,S',Su',Iv',a1,a2,a3,a4,a5,a6,a7,a8,a9,a10,a11,a12,a13,a13b,a14,a15⟩:=H
  refine⟨gs,w,sl,F,hs,γ,kk,val,Inb,S',Su',Iv',a1,a2,a3,a4,a5,a6,a7,a8,a9,a10,a11,a12,a13,a13b,a14,?_⟩
  rcases a15 with ⟨b1,q,b2,b3,b4,b5⟩|b
  · refine .inl ⟨b1,q,b2,b3,b4,fun F1 N1 C1 i hp ob g hs=>?_⟩
    have:=b5 F1 N1 C1 i hp ob g hs
    split at this
    · rename_i e
      rw [if_pos e]
      obtain⟨F0,n0,c0,c1,c2,c3,c4⟩:=this
      exact⟨F0,n0,c0,c1,c2,c3,h _ _ _ _ _ _ _ _ _ c4⟩
    · rename_i e
      rw [if_neg e];exact this
  · exact .inr b
theorem Reach.mono {P:Program} {m:Machine} {t:Trace} {Q Q':Machine→Trace→Prop} (h:Reach P m t Q) (hq:∀ m t,Q m t→Q' m t):Reach P m t Q':=h.bind fun m' t' h'=>.here (hq _ _ h')
theorem Resum.mono {Q Q':QT Pr} (h:∀ F0 n0 c0 n k hp ob q g,Q F0 n0 c0 n k hp ob q g→Q' F0 n0 c0 n k hp ob q g) {F0:Emb} {n0 c0 n k hp:Nat} {ob:Ob} {q:Pr.Ph} {g:Goroutine} (H:Resum hok Pr Q F0 n0 c0 n k hp ob q g):Resum hok Pr Q' F0 n0 c0 n k hp ob q g :=
  fun d s S F hs Inb gs w sl T v h1 h2 h3 h4 h5 h6 h7 h8 h9 h10 h11 h12 h13 h14=>(H d s S F hs Inb gs w sl T v h1 h2 h3 h4 h5 h6 h7 h8 h9 h10 h11 h12 h13 h14).mono fun _ _=>Came.mono hok h
theorem BSusp.unfold {F0:Emb} {n0 c0 n k hp:Nat} {ob:Ob} {q:Pr.Ph} {g:Goroutine} (H:BSusp hok Pr F0 n0 c0 n k hp ob q g):Resum hok Pr (BSusp hok Pr) F0 n0 c0 n k hp ob q g∧GoneF F0 hp g:=by
  obtain⟨Q,h1,h2⟩:=H
  exact⟨Resum.mono hok (fun F0 n0 c0 n k hp ob q g hq=>⟨Q,hq,h2⟩) (h2 _ _ _ _ _ _ _ _ _ h1).1,(h2 _ _ _ _ _ _ _ _ _ h1).2⟩
theorem BSusp.fold {F0:Emb} {n0 c0 n k hp:Nat} {ob:Ob} {q:Pr.Ph} {g:Goroutine} (H:Resum hok Pr (BSusp hok Pr) F0 n0 c0 n k hp ob q g) (hG:GoneF F0 hp g):BSusp hok Pr F0 n0 c0 n k hp ob q g :=
  ⟨fun F0 n0 c0 n k hp ob q g=>Resum hok Pr (BSusp hok Pr) F0 n0 c0 n k hp ob q g∧GoneF F0 hp g,⟨H,hG⟩,fun F0 n0 c0 n k hp ob q g hq=>⟨Resum.mono hok (fun F0 n0 c0 n k hp ob q g hb=>BSusp.unfold hok hb) hq.1,hq.2⟩⟩
end
theorem BT.soft {WB:Nat→Prop}:SoftX BT WB:=⟨fun _ _ _ _ _ h=>h.elim,fun _ _ _ _ _ _ _=>trivial⟩
theorem rinv_tiny {Ft:Emb} {todo:List Item} {tmps:List Value} {h:AHeap} {w:World} (hH:Holds Ft h w) (hv:∀ v∈tmps,Stab (Kn h.next 0) Ft v) (hc:∀ n b,h.get n=some b→∀ v∈b.cells,Stab (Kn h.next 0) Ft v) (hl:h.Low) (hV:h.next≤VB):RInv BT Ft (.run todo tmps h ()) w:=by
  refine⟨⟨hH,trivial,hv,hc,fun n b hb=>?_,fun n h1 h2=>?_,fun n hn=>?_,Kept.refl _ _,fun _ _ _ _ _=>trivial,fun _ _ _=>trivial,fun _ _ _ z=>z⟩,hV⟩
  · have:=hl n b hb
    have hV:h.next≤VB:=hV
    exact⟨.inl this,by omega⟩
  · have h2:n<VB+0:=h2
    omega
  · have hV:h.next≤VB:=hV
    rcases hn with hn|⟨_,hn⟩
    · have hn:n<h.next:=hn
      show n<VB+0
      omega
    · exact hn
section
variable {p:Par} {Su:SuT} {S0:St} {F F' Ft:Emb} {c:Conf St} {Inb:Nat→Option Seat} {gs gs':Array Goroutine} {w w':World} {T T':Trace}
variable (hok:∀ mn OB WB,PrimOK mn OB WB)
theorem tiny_ro (hSu:SuMono Su) {fn:Func} {A:Conf Unit→Prop} {todo:List Item} {tmps:List Value} {ht:AHeap} {b:Frame} {cs:List Frame} {g:Goroutine} {sl:Option (Nat × Nat)} (G:Goes BT fn A (.run todo tmps ht ())) (hb:Try.prog.funcs[b.fn]?=some fn) (hk:b.kind=.normal)
    (H:Standing p hok Su S0 F c Inb gs w T) (hg:gs[p.h]?=some g) (hS:g=Go.Conc.G (b.at (actF Ft tmps) todo) cs) (hH:Holds Ft ht w) (hv:∀ v∈tmps,Stab (Kn ht.next 0) Ft v) (hc:∀ n b,ht.get n=some b→∀ v∈b.cells,Stab (Kn ht.next 0) Ft v) (hl:ht.Low) (hV:ht.next≤VB)
    (hro:∀ n r,ht.get n=some r→r.ro=true) (hov:∀ n r,ht.get n=some r→p.h≠0→¬ p.OB (Ft.blk n)) :
    Reach Try.prog (crowd gs w sl) T fun m' T'=>∃ gs' g' w' sl' c' Ft',m'=crowd gs' w' sl'∧gs'[p.h]?=some g'∧A c'∧StandsO Try.prog p.OB p.WB p.h Ft' b cs c' w' g'∧Standing p hok Su S0 F c Inb gs' w' T'∧Same (Kn ht.next 0) Ft Ft'∧Holds Ft' (heap c') w'∧(∀ x,x<w.heap.size→¬ (p.OB x∧p.h≠0)→w'.heap[x]?=w.heap[x]?)∧w.heap.size≤w'.heap.size:=by
  have hcm:=H.com
  obtain⟨B,Mem,q,R,hM0,hMh⟩:=hcm.ring
  refine (hold_piece BT.soft G hb hk R hg hS (rinv_tiny hH hv hc hl hV) (fun x hx h0 hvx=>?_) (fun x hx _=>by obtain⟨cc,el,h1,h2⟩:=H.wrow x hx;exact⟨cc,el,_,h1,h2⟩) (fun n r hr _=>hro n r hr) hcm.tab.olow (fun x hx=>by obtain⟨_,_,h1,_⟩:=H.wrow x hx;exact block_low h1)).bind fun m' T'=>?_
  · rcases hvx with ⟨n,r,hr,rfl⟩|hf
    · exact hov n r hr h0 hx
    · exact hf
  rintro ⟨gs',g',w',sl',q',B',c',Ft',rfl,k1,k2,k3,R'⟩
  have hkeep:∀ x,x<w.heap.size→¬ (p.OB x∧p.h≠0)→w'.heap[x]?=w.heap[x]?:=fun x hx hO=>k3.keep x hx (fun z=>by
    rcases z with ⟨n,r,hr,hz,_⟩|hf
    · have:=hro n r hr
      rw [hz] at this;cases this
    · exact hf) hO
  exact .here ⟨gs',g',w',sl',c',Ft',rfl,k2,k3.done,k3.stands,H.grown hok hSu hkeep k3.size k1 ⟨B',Mem,q',R',hM0,hMh⟩,k3.same,k3.inv.1.holds,hkeep,k3.size⟩
def embW (wb:Nat) (told:Option Addr) (ab:Nat × Nat):Emb:=⟨fun n=>if n=0 then wb else if n=1 then (told.map (·.block)).getD 0 else ab.1,fun n=>if n=2 then ab.2 else 0,fun _=>0⟩
def toldA:Option Addr→Value
  | none=>.pointer none
  | some a=>.pointer (some ⟨1,a.off,a.spot⟩)
theorem ren_toldA (wb:Nat) (ab:Nat × Nat) (told:Option Addr):ren (embW wb told ab) (toldA told)=.pointer told:=by
  cases told with
  | none=>simp [toldA]
  | some a=>simp [toldA,adr,embW]
theorem stab_ptr {Ft:Emb} {N C n:Nat} {o:Nat} {sp} (h:n<N):Stab (Kn N C) Ft (.pointer (some ⟨n,o,sp⟩)):=fun F' hs=>by
  obtain⟨h1,h2,_⟩:=hs n (.inl h)
  simp [adr,h1,h2]
theorem stab_chan {K:Nat→Prop} {Ft:Emb} {c:Option Nat}:Stab K Ft (.chan c):=fun F' _=>by simp [ren]
theorem stab_toldA {Ft:Emb} {N C:Nat} {told:Option Addr} (h:1<N):Stab (Kn N C) Ft (toldA told):=by
  cases told with
  | none=>exact Stab.plain rfl
  | some a=>exact stab_ptr h
theorem ren_chan (F:Emb) (c:Option Nat):ren F (.chan c)=.chan c:=by simp [ren]
theorem wp_holds {wb ask grant quit steps:Nat} {ab:Nat × Nat} {self:Int} {told:Option Addr} {fr:Nat × Nat} {w:World} (l:List (Option Blk)) (hl:∀ (i:Nat) (b:Option Blk),l[i]?=some b→b=none) (h:w.heap[wb]?=some (.cells (wpRow self steps (.pointer told) ask grant quit) 108 fr)) :
    Holds (embW wb told ab) (heapL (some (wpB self steps (toldA told) ask grant quit)::l)) w:=by
  have hget:∀ n b,(heapL (some (wpB self steps (toldA told) ask grant quit)::l)).get n=some b→n=0∧b=wpB self steps (toldA told) ask grant quit:=fun n b hb=>by
    rw [heapL_get] at hb
    cases n with
    | zero=>simp at hb;exact⟨rfl,hb.symm⟩
    | succ n =>
      simp only [List.getElem?_cons_succ] at hb
      cases hx:l[n]? with
      | none=>rw [hx] at hb;cases hb
      | some y=>rw [hx,hl n y hx] at hb;cases hb
  refine⟨fun n b hb=>?_,fun n m b c hb hc hne=>?_⟩
  · obtain⟨rfl,rfl⟩:=hget n b hb
    refine⟨#[],#[],fr,?_,rfl,(fun z=>by cases z),(fun z=>by cases z),(fun s z=>by cases z)⟩
    show w.heap[wb]?=_
    rw [h]
    simp [wpRow,wpB,ren_toldA,chV,ren_chan]
  · exact absurd ((hget n b hb).1.trans (hget m c hc).1.symm) hne
theorem obAt_S {mn:Bool} {OB WB:Nat→Prop} {S S2:St} {k:Nat} {ob:Ob} (hm:∀ (m:Nat) ws bs,S[m]?=some (Ob.mem ws bs)→S2[m]?=some (Ob.mem ws bs)) (hl:S2.length=S.length) (h:obAt mn OB WB F S w k ob):obAt mn OB WB F S2 w k ob:=by
  cases ob with
  | mem=>exact h
  | port m me steps=>obtain⟨h1,ws,bs,h2⟩:=h;exact⟨h1,ws,bs,hm m ws bs h2⟩
  | thr=>intro z;obtain⟨a1,a2,a3,a4⟩:=h z;exact⟨a1,fun c hc=>by rw [hl];exact a2 c hc,fun c hc=>by rw [hl];exact a3 c hc,a4⟩
  | wp=>exact h
  | acc=>exact h
  | box=>exact h
section
variable {S:St} {hp:Nat} {wself:Int} {s s2 ask grant quit:Nat}
theorem cnt_at (hS:S[hp]?=some (.wp wself s ask grant quit)):(cntS S hp wself s2 ask grant quit)[hp]?=some (.wp wself s2 ask grant quit):=List.getElem?_set_self (ob_lt hS)
theorem cnt_ne {k:Nat} (hk:k≠hp):(cntS S hp wself s2 ask grant quit)[k]?=S[k]?:=List.getElem?_set_ne (Ne.symm hk)
theorem cnt_thr (hS:S[hp]?=some (.wp wself s ask grant quit)) {k:Nat} {a b c d e f}:(cntS S hp wself s2 ask grant quit)[k]?=some (Ob.thr a b c d e f)↔S[k]?=some (Ob.thr a b c d e f):=by
  by_cases hk:k=hp
  · subst hk;rw [cnt_at hS,hS];simp
  · rw [cnt_ne hk]
theorem cnt_wp (hS:S[hp]?=some (.wp wself s ask grant quit)) {k:Nat} {a b x y z} (h:(cntS S hp wself s2 ask grant quit)[k]?=some (Ob.wp a b x y z)):∃ b',S[k]?=some (Ob.wp a b' x y z):=by
  by_cases hk:k=hp
  · subst hk;rw [cnt_at hS] at h;cases h;exact⟨_,hS⟩
  · rw [cnt_ne hk] at h;exact⟨_,h⟩
theorem wp_cnt (hS:S[hp]?=some (.wp wself s ask grant quit)) {k:Nat} {a b x y z} (h:S[k]?=some (Ob.wp a b x y z)):∃ b',(cntS S hp wself s2 ask grant quit)[k]?=some (Ob.wp a b' x y z):=by
  by_cases hk:k=hp
  · subst hk;rw [hS] at h;cases h;exact⟨_,cnt_at hS⟩
  · exact⟨_,by rw [cnt_ne hk];exact h⟩
theorem cnt_ch (hS:S[hp]?=some (.wp wself s ask grant quit)) {k sl c:Nat} (h:ChS (cntS S hp wself s2 ask grant quit) k sl c):ChS S k sl c:=by
  cases h with
  | quit h=>exact .quit ((cnt_thr hS).1 h)
  | done h=>exact .done ((cnt_thr hS).1 h)
  | ask h=>obtain⟨b',h⟩:=cnt_wp hS h;exact .ask h
  | grant h=>obtain⟨b',h⟩:=cnt_wp hS h;exact .grant h
theorem Com.count {N C k0 gid0 dn0:Nat} {self0:Int} {closed0:Bool} {pend0:Option Nat} (hrun:p.run=some k0) (hthr:S[k0]?=some (.thr self0 quit closed0 true (some (hp,gid0,dn0)) pend0)) (hS:S[hp]?=some (.wp wself s ask grant quit)) (H:Com p Su S F N C Inb gs w T):Com p Su (cntS S hp wself s2 ask grant quit) F N C Inb gs w T:=by
  have t:=H.tab
  refine⟨H.ring,⟨fun b=>?_,fun b=>?_,fun k s c k' s' h1 h2=>t.dist k s c k' s' (cnt_ch hS h1) (cnt_ch hS h2),fun k s c h=>t.far k s c (cnt_ch hS h),t.olow,fun k a b c d e h=>t.quit k a b c d e ((cnt_thr hS).1 h),fun k a b c d e h=>?_⟩,H.main,fun i se hi=>?_,fun k a b c d e f g h=>?_,H.n0,by simpa using H.c0⟩
  · rw [t.obs b]
    constructor
    · rintro ⟨k,a1,a2,a3,a4,a5,a6,a7,a8⟩;exact⟨k,a1,a2,a3,a4,a5,a6,(cnt_thr hS).2 a7,a8⟩
    · rintro ⟨k,a1,a2,a3,a4,a5,a6,a7,a8⟩;exact⟨k,a1,a2,a3,a4,a5,a6,(cnt_thr hS).1 a7,a8⟩
  · rw [t.wbs b]
    constructor
    · rintro ⟨k,a1,a2,a3,a4,a5,a7,a8⟩;obtain⟨b',h⟩:=wp_cnt hS (s2:=s2) a7;exact⟨k,a1,b',a3,a4,a5,h,a8⟩
    · rintro ⟨k,a1,a2,a3,a4,a5,a7,a8⟩;obtain⟨b',h⟩:=cnt_wp hS a7;exact⟨k,a1,b',a3,a4,a5,h,a8⟩
  · obtain⟨h1,hp',gid,dn,ws,st,ak,gr,h2,h3,h4,h5,h6,h7,h8,h9⟩:=t.busy k a b c d e ((cnt_thr hS).1 h)
    obtain⟨b',h10⟩:=wp_cnt hS (s2:=s2) h3
    refine⟨h1,hp',gid,dn,ws,b',ak,gr,h2,h10,h4,h5,h6,h7,h8,?_⟩
    rw [cnt_ne]
    · exact h9
    intro e
    rw [e,hS] at h9
    cases h9
  · obtain⟨h1,h2,h3⟩:=H.seats i se hi
    refine⟨h1,h2,fun h0=>?_⟩
    obtain⟨k,a1,a2,a3,a4,a5,a6,a7,a8⟩:=h3 h0
    exact⟨k,a1,a2,a3,a4,a5,a6,a7,(cnt_thr hS).2 a8⟩
  · obtain⟨h1,h2⟩:=H.waits k a b c d e f g ((cnt_thr hS).1 h)
    refine⟨h1,fun hne=>?_⟩
    obtain⟨ws,st,ak,gr,ab,x,y,cs,h3,h4,h5⟩:=h2 hne
    refine⟨ws,st,ak,gr,ab,x,y,cs,?_,h4,h5⟩
    rw [cnt_ne]
    · exact h3
    rintro rfl
    rw [hS] at h3
    cases h3
    have:=(t.dist _ _ _ _ _ (.quit ((cnt_thr hS).1 h)) (.quit hthr)).1
    subst this
    exact hne hrun
theorem Standing.wp {hs:AHeap} (H:Standing p hok Su S0 F (.run [] [] hs S) Inb gs w T) (hS:S[hp]?=some (.wp wself s ask grant quit)):p.WB (F.blk (VB+hp))∧∃ told,w.heap[F.blk (VB+hp)]?=some (.cells (wpRow wself s (.pointer told) ask grant quit) 108 (0,0)):=by
  have R:Rep p.mn p.OB p.WB F S w:=H.inv.1.rep
  obtain⟨h1,told,fr,h2⟩:=R.at' _ _ hS
  obtain⟨cc,el,h3,_⟩:=H.wrow _ h1
  rw [h2] at h3
  cases h3
  exact⟨h1,told,h2⟩
theorem Standing.count {hs:AHeap} {told:Option Addr} {k0 gid0 dn0:Nat} {self0:Int} {closed0:Bool} {pend0:Option Nat} (hrun:p.run=some k0) (hthr:S[k0]?=some (.thr self0 quit closed0 true (some (hp,gid0,dn0)) pend0)) (hSu:SuMono Su) (h0:p.h≠0) (hS:S[hp]?=some (.wp wself s ask grant quit)) (H:Standing p hok Su S F (.run [] [] hs S) Inb gs w T) (hw:∀ x,x≠F.blk (VB+hp)→¬ p.OB x→w'.heap[x]?=w.heap[x]?) (hb:w'.heap[F.blk (VB+hp)]?=some (.cells (wpRow wself s2 (.pointer told) ask grant quit) 108 (0,0)))
    (hsz:gs'.size=gs.size) (hws:w'.heap.size=w.heap.size) (hr:∃ B Mem q,RingO Try.prog p.OB p.WB B p.Iv Mem Inb p.h T' gs' w' q∧Mem 0∧Mem p.h):Standing p hok Su (cntS S hp wself s2 ask grant quit) F (.run [] [] hs (cntS S hp wself s2 ask grant quit)) Inb gs' w' T':=by
  have hlen:(cntS S hp wself s2 ask grant quit).length=S.length:=by simp
  have R:Rep p.mn p.OB p.WB F S w:=H.inv.1.rep
  obtain⟨hWb,told0,hrow⟩:=H.wp hok hS
  have hmn:p.mn=false:=by simp [Par.mn,h0]
  have hfp:(p.X hok).fp F S (F.blk (VB+hp)):=⟨hp,_,hS,by simp [obBlk]⟩
  have hblk:∀ (k:Nat) ob2,(cntS S hp wself s2 ask grant quit)[k]?=some ob2→∃ ob,S[k]?=some ob∧obBlk p.mn F k ob2=obBlk p.mn F k ob:=fun k ob2 hk=>by
    by_cases e:k=hp
    · subst e;rw [cnt_at hS] at hk;cases hk;exact⟨_,hS,rfl⟩
    · rw [cnt_ne e] at hk;exact⟨_,hk,rfl⟩
  have hfps:∀ x,fpS p.mn F (cntS S hp wself s2 ask grant quit) x→fpS p.mn F S x:=fun x ⟨k,ob2,hk,hx⟩=>by
    obtain⟨ob,h1,h2⟩:=hblk k ob2 hk
    exact⟨k,ob,h1,h2 ▸ hx⟩
  have hvis:∀ x,Vis (p.X hok) F (.run [] [] hs (cntS S hp wself s2 ask grant quit)) x→Vis (p.X hok) F (.run [] [] hs S) x:=fun x hx=>hx.imp id (hfps x)
  have hvk:∀ x,Vis (p.X hok) F (.run [] [] hs S) x→x≠F.blk (VB+hp)→w'.heap[x]?=w.heap[x]?:=fun x hx hne=>hw x hne fun z=>H.ov h0 x z hx
  have hap:∀ x,p.OB x→¬ p.WB x:=by obtain⟨_,_,_,R,_⟩:=H.com.ring;exact R.apart
  have hch:∀ c,¬ p.OB c→(IsChan w c→IsChan w' c)∧∀ cap,ChanO w c cap→ChanO w' c cap:=chan_keep fun c hc hO=>hw c (fun e=>by obtain⟨_,_,_,_,_,_,h2⟩:=hc;rw [e,hrow] at h2;cases h2) hO
  refine⟨?_,?_,fun h0 x hx hv=>H.ov h0 x hx (hvis x hv),fun x hx=>?_,fun x hx=>?_,H.wro,H.base.move (Nat.le_of_eq hws.symm) (fun x _ hx=>hx.imp id (hfps x)) (fun _ _ h=>h) (fun x _ h1 h2 _=>hw x (fun e=>h1 (.inr (e ▸ hfp))) h2) (fun k s c h=>.inl (cnt_ch hS h)),H.same.1,H.same.2.1,?_⟩
  · have h1:=(H.com.count (s2:=s2) hrun hthr hS).turn (w':=w') (gs':=gs') (T':=T') hSu (Same.refl _ _) (Nat.le_refl _) (Nat.le_refl _) H.inv.2 (Nat.le_of_eq hws.symm) hch hsz hr
    show Com p Su (cntS S hp wself s2 ask grant quit) F hs.next (cntS S hp wself s2 ask grant quit).length Inb gs' w' T'
    rw [hlen];exact h1
  · obtain⟨I,hl⟩:=H.inv
    have I:AInv (p.X hok) F w (fun _=>True) (Kn hs.next S.length) (fun v=>v∈([]:List Value)) hs S w:=I
    refine⟨⟨I.holds.kept fun n r hr=>hvk _ (.inl ⟨n,r,hr,rfl⟩) fun e=>I.sep n r hr (e ▸ hfp),⟨fun k ob2 hk hr=>?_,fun k ob2 hk=>?_,fun k k' ob ob' hne hk hk' b hb hb'=>?_,fun k ob2 hk b hb hW=>?_,fun b hb=>by rw [hws];exact R.wlow b hb⟩,fun v hv=>(by cases hv),fun n r hr v hv=>by
      show Stab (Kn hs.next (cntS S hp wself s2 ask grant quit).length) F v
      rw [hlen];exact I.hst n r hr v hv,fun n r hr=>by
      have:=I.hk n r hr
      show Kn hs.next (cntS S hp wself s2 ask grant quit).length n∧_
      rw [hlen];exact this,fun n h1 h2=>by
      have h2:n<VB+(cntS S hp wself s2 ask grant quit).length:=h2
      exact .inr ⟨h1,h2⟩,fun n hn=>by
      have hn:Kn hs.next (cntS S hp wself s2 ask grant quit).length n:=hn
      show n<VB+(cntS S hp wself s2 ask grant quit).length
      rw [hlen] at hn ⊢;exact I.klim n hn,Kept.refl _ _,fun _ _ _ _ _=>trivial,fun _ _ _=>trivial,fun n r hr hf=>I.sep n r hr (hfps _ hf)⟩,hl⟩
    · by_cases e:k=hp
      · subst e;exact R.base k _ hS rfl
      · have hk:(cntS S hp wself s2 ask grant quit)[k]?=some ob2:=hk
        rw [cnt_ne e] at hk;exact R.base k _ hk hr
    · have hk:(cntS S hp wself s2 ask grant quit)[k]?=some ob2:=hk
      show obAt p.mn p.OB p.WB F (cntS S hp wself s2 ask grant quit) w' k ob2
      by_cases e:k=hp
      · subst e;rw [cnt_at hS] at hk;cases hk
        exact⟨hWb,told,_,hb⟩
      · rw [cnt_ne e] at hk
        refine obAt_S (S:=S) (fun m ws bs hm=>?_) hlen (obAt_kept (R.at' k _ hk) fun b hb=>hvk b (.inr ⟨k,_,hk,hb⟩) fun z=>R.apart k hp _ _ e hk hS b hb (by rw [z];simp [obBlk]))
        by_cases e2:m=hp
        · subst e2;rw [hS] at hm;cases hm
        · rw [cnt_ne e2];exact hm
    · obtain⟨o1,g1,g2⟩:=hblk k ob hk
      obtain⟨o2,g3,g4⟩:=hblk k' ob' hk'
      exact R.apart k k' o1 o2 hne g1 g3 b (g2 ▸ hb) (g4 ▸ hb')
    · have hk:(cntS S hp wself s2 ask grant quit)[k]?=some ob2:=hk
      by_cases e:k=hp
      · subst e;rw [cnt_at hS] at hk;cases hk;exact⟨_,_,_,_,_,rfl⟩
      · rw [cnt_ne e] at hk;exact R.waits k _ hk b hb hW
  · obtain⟨h1,h2,h3,h4⟩:=H.prot x hx
    exact⟨by rw [hws];exact h1,fun hv=>h2 (hvis x hv),h3,(hw x (fun e=>h2 (.inr (e ▸ hfp))) h3).trans h4⟩
  · by_cases e:x=F.blk (VB+hp)
    · exact⟨_,_,by rw [e];exact hb,by simp [wpRow]⟩
    · obtain⟨cc,el,h1,h2⟩:=H.wrow x hx
      exact⟨cc,el,(hw x e fun z=>hap x z hx).trans h1,h2⟩
  · show p.CR≤(cntS S hp wself s2 ask grant quit).length
    rw [hlen];exact H.same.2.2
end
end
end Go.Proofs.Ytkjnamhgemidkaa
