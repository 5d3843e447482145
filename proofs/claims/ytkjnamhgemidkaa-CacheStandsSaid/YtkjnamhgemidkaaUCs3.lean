/-
  Layer 12: CacheStands.
  No condition.
-/
import Derived.Test.YtkjnamhgemidkaaUDoes
namespace Go.Proofs.Ytkjnamhgemidkaa
open Go Go.Conc
set_option linter.unusedSimpArgs false
set_option linter.unusedVariables false
open Go.RowKit
theorem awake12_t:PureT 65 #[] (.bool true):=by
  obtain⟨S1,h⟩:=awake12 []
  exact h.pure (by simp) rfl
set_option maxRecDepth 100000 in
set_option maxHeartbeats 16000000 in
theorem cs_law (n:Nat) (a b:UInt64) (hn:n<256):LawRuns (csP a) 12 #[.int .u8 n,.int .u64 (a.toNat:Int),.int .u64 (b.toNat:Int)] [] (none,2):=by
  refine LawRuns.mk Try.func12 rfl ?_
  rw [Try.ntmps12];simp only [List.size_toArray,List.length_cons,List.length_nil,List.replicate,List.cons_append,List.nil_append]
  by_cases ha:a=0
  · have f1:=zero_t ha
    refine viaF f1 ?_
    ((first|refine qp1 rfl rfl fun K hK=>?_|refine qp3 rfl rfl fun K hK=>?_);simp (disch:=(first|omega|(simp only [sz]<;>omega)|fail)) only [go_sem];(first|refine⟨_,_,(qpd fun w=>awake12_t),?_⟩|refine⟨_,_,(qpu fun w=>awake12_t),?_⟩|refine⟨_,_,.com (qpd fun w=>awake12_t),?_⟩|refine⟨_,_,.com (qpu fun w=>awake12_t),?_⟩);(try simp only [go_sem]);with_reducible refine hK _ _ ?_;clear hK K)
    refine via ?_
    refine Goes.endL rfl (by simp (disch:=(first|omega|(simp only [heapL_next,List.length_cons,List.length_nil,List.size_toArray,geo_len]<;>omega)|fail)) only [go_sem,resA,res1A,Try.results12]<;>rfl) ?_ ?_
    · exact KeepC.refl _
    · exact Idle.nil
  have f1:=zero_f ha
  by_cases hb:b=0
  · have f2:=zero_t hb
    refine viaF (And.intro f1 f2) ?_
    ((first|refine qp1 rfl rfl fun K hK=>?_|refine qp3 rfl rfl fun K hK=>?_);simp (disch:=(first|omega|(simp only [sz]<;>omega)|fail)) only [go_sem];(first|refine⟨_,_,(qpd fun w=>awake12_t),?_⟩|refine⟨_,_,(qpu fun w=>awake12_t),?_⟩|refine⟨_,_,.com (qpd fun w=>awake12_t),?_⟩|refine⟨_,_,.com (qpu fun w=>awake12_t),?_⟩);(try simp only [go_sem]);with_reducible refine hK _ _ ?_;clear hK K)
    refine via ?_
    refine Goes.endL rfl (by simp (disch:=(first|omega|(simp only [heapL_next,List.length_cons,List.length_nil,List.size_toArray,geo_len]<;>omega)|fail)) only [go_sem,resA,res1A,Try.results12]<;>rfl) ?_ ?_
    · exact KeepC.refl _
    · exact Idle.nil
  have f2:=zero_f hb
  by_cases hab:a=b
  · have f3:((a.toNat:Int)==(b.toNat:Int))=true:=by rw [hab];exact beq_self_eq_true _
    refine viaF (And.intro f1 (And.intro f2 f3)) ?_
    ((first|refine qp1 rfl rfl fun K hK=>?_|refine qp3 rfl rfl fun K hK=>?_);simp (disch:=(first|omega|(simp only [sz]<;>omega)|fail)) only [go_sem];(first|refine⟨_,_,(qpd fun w=>awake12_t),?_⟩|refine⟨_,_,(qpu fun w=>awake12_t),?_⟩|refine⟨_,_,.com (qpd fun w=>awake12_t),?_⟩|refine⟨_,_,.com (qpu fun w=>awake12_t),?_⟩);(try simp only [go_sem]);with_reducible refine hK _ _ ?_;clear hK K)
    refine via ?_
    refine Goes.endL rfl (by simp (disch:=(first|omega|(simp only [heapL_next,List.length_cons,List.length_nil,List.size_toArray,geo_len]<;>omega)|fail)) only [go_sem,resA,res1A,Try.results12]<;>rfl) ?_ ?_
    · exact KeepC.refl _
    · exact Idle.nil
  have f3:((a.toNat:Int)==(b.toNat:Int))=false:=by
    rw [beq_eq_false_iff_ne];intro h;exact hab (UInt64.toNat_inj.1 (by exact_mod_cast h))
  refine viaF (And.intro f1 (And.intro f2 f3)) ?_
  ((first|refine qc1 rfl rfl fun K hK=>?_|refine qc3 rfl rfl fun K hK=>?_);simp (disch:=(first|omega|(simp only [sz]<;>omega)|fail)) only [go_sem];(first|refine⟨_,_,begun_does [] 1 3 (by decide) (by decide) (by decide) (by decide) (by decide),?_⟩|refine⟨_,_,Does.com (begun_does [] 1 3 (by decide) (by decide) (by decide) (by decide) (by decide)),?_⟩);(try simp only [go_sem]);with_reducible refine hK _ _ ?_;clear hK K)
  rw [kX_zero]
  refine via ?_
  ((first|refine qp1 rfl rfl fun K hK=>?_|refine qp3 rfl rfl fun K hK=>?_);simp (disch:=(first|omega|(simp only [sz]<;>omega)|fail)) only [go_sem];(first|refine⟨_,_,.pnew (by rfl),?_⟩|refine⟨_,_,.com (.pnew (by rfl)),?_⟩);(try simp only [go_sem]);with_reducible refine hK _ _ ?_;clear hK K)
  refine via ?_
  ((first|refine qc1 rfl rfl fun K hK=>?_|refine qc3 rfl rfl fun K hK=>?_);simp (disch:=(first|omega|(simp only [sz]<;>omega)|fail)) only [go_sem];(first|refine⟨_,_,cPut_does _ 1 0 0 _ _ _ 1 3 3 a rfl rfl (by decide) (by decide) (by decide) (by decide),?_⟩|refine⟨_,_,Does.com (cPut_does _ 1 0 0 _ _ _ 1 3 3 a rfl rfl (by decide) (by decide) (by decide) (by decide)),?_⟩);(try simp only [go_sem]);with_reducible refine hK _ _ ?_;clear hK K)
  rw [cs49,cs50,kp1 ha]
  refine viaF (And.intro f1 f2) ?_
  ((first|refine qc1 rfl rfl fun K hK=>?_|refine qc3 rfl rfl fun K hK=>?_);simp (disch:=(first|omega|(simp only [sz]<;>omega)|fail)) only [go_sem];(first|refine⟨_,_,cPut_does _ 1 0 0 _ _ _ 1 3 3 b rfl rfl (by decide) (by decide) (by decide) (by decide),?_⟩|refine⟨_,_,Does.com (cPut_does _ 1 0 0 _ _ _ 1 3 3 b rfl rfl (by decide) (by decide) (by decide) (by decide)),?_⟩);(try simp only [go_sem]);with_reducible refine hK _ _ ?_;clear hK K)
  rw [cs49,cs50,kp2 ha hb]
  refine viaF (And.intro f1 f2) ?_
  (refine qs1 rfl rfl fun K hK=>?_;simp (disch:=(first|omega|(simp only [sz]<;>omega)|fail)) only [go_sem])
  refine .inl ⟨1,rfl,rfl,KeepC.more rfl (KeepC.more rfl (KeepC.refl _)),fun qc=>?_⟩
  simp only [bornS,cntS,stn,Nat.reduceAdd]
  ((try simp only [go_sem]);with_reducible refine hK _ _ _ _ ?_;clear hK K)
  refine via ?_
  refine At.list fun lf hlen hge=>?_
  have hc:CsL 0 false lf:=⟨hge _ _ rfl,hge _ _ rfl,hge _ _ rfl⟩
  (refine qs1 rfl rfl fun K hK=>?_;simp (disch:=(first|omega|(simp only [sz]<;>omega)|fail)) only [go_sem])
  refine .inr (.inl ⟨2,_,qc,1,#[],_,none,_,(none,2),rfl,rfl,KeepC.refl _,rfl,LendH.all _,Nat.le_refl _,fun _ _=>rfl,fun ask gr gid dn=>csBody ha rfl (Nat.le_of_eq hlen) (by decide) hc rfl,fun ask gr gid dn=>cs_back2 rfl fun l1 q1 w1 hl1 hq1 hc1 hb1=>?_⟩)
  simp only [bornS,cntS,stn,Nat.reduceAdd]
  ((try simp only [go_sem]);with_reducible refine hK _ _ _ _ ?_;clear hK K)
  refine via ?_
  have hna:((a.toNat:Int) != (a.toNat:Int))=false:=bne_self_eq_false _
  have hnb:((b.toNat:Int) != (b.toNat:Int))=false:=bne_self_eq_false _
  have hr:n % 3=0∨n % 3=1∨n % 3=2:=by omega
  rcases hr with hr|hr|hr
  · have e1:(n:Int).tmod 3=0:=by rw [show (3:Int)=((3:Nat):Int) from rfl,tmod_n,hr];rfl
    have g0_1:=hc1.g
    have g2_1:=hc1.b
    have g1_1:=hc1.u
    have k0_1:=(List.getElem?_eq_some_iff.1 hc1.b).1
    refine viaLF (And.intro e1 (And.intro g0_1 (And.intro g1_1 g2_1))) ?_
    ((first|refine qp1 rfl rfl fun K hK=>?_|refine qp3 rfl rfl fun K hK=>?_);simp (disch:=(first|omega|(simp only [sz]<;>omega)|fail)) only [go_sem];(first|refine⟨_,_,.pnew (by rfl),?_⟩|refine⟨_,_,.com (.pnew (by rfl)),?_⟩);(try simp only [go_sem]);with_reducible refine hK _ _ ?_;clear hK K)
    refine viaLF (And.intro e1 (And.intro g0_1 (And.intro g1_1 g2_1))) ?_
    ((first|refine qc1 rfl rfl fun K hK=>?_|refine qc3 rfl rfl fun K hK=>?_);simp (disch:=(first|omega|(simp only [sz]<;>omega)|fail)) only [go_sem];(first|refine⟨_,_,cSteal_does _ 6 0 2 _ _ _ 1 3 0 3 rfl rfl (by decide) (by decide) (by decide) (by decide),?_⟩|refine⟨_,_,Does.com (cSteal_does _ 6 0 2 _ _ _ 1 3 0 3 rfl rfl (by decide) (by decide) (by decide) (by decide)),?_⟩);(try simp only [go_sem]);with_reducible refine hK _ _ ?_;clear hK K)
    rw [cs49,cs50,ks1 ha]
    simp only [bornS,cntS,stn,Nat.reduceAdd]
    refine viaLF (And.intro e1 (And.intro g0_1 (And.intro g1_1 g2_1))) ?_
    ((first|refine qp1 rfl rfl fun K hK=>?_|refine qp3 rfl rfl fun K hK=>?_);simp (disch:=(first|omega|(simp only [sz]<;>omega)|fail)) only [go_sem];(first|refine⟨_,_,.steps rfl,?_⟩|refine⟨_,_,.com (.steps rfl),?_⟩);(try simp only [go_sem]);with_reducible refine hK _ _ ?_;clear hK K)
    refine viaLF (And.intro e1 (And.intro g0_1 (And.intro g1_1 g2_1))) ?_
    ((first|refine qc1 rfl rfl fun K hK=>?_|refine qc3 rfl rfl fun K hK=>?_);simp (disch:=(first|omega|(simp only [sz]<;>omega)|fail)) only [go_sem];(first|refine⟨_,_,cSteal_does _ 6 0 2 _ _ _ 1 3 0 3 rfl rfl (by decide) (by decide) (by decide) (by decide),?_⟩|refine⟨_,_,Does.com (cSteal_does _ 6 0 2 _ _ _ 1 3 0 3 rfl rfl (by decide) (by decide) (by decide) (by decide)),?_⟩);(try simp only [go_sem]);with_reducible refine hK _ _ ?_;clear hK K)
    rw [cs49,cs50,ks2 hb]
    simp only [bornS,cntS,stn,Nat.reduceAdd]
    refine viaLF (And.intro e1 (And.intro g0_1 (And.intro g1_1 g2_1))) ?_
    ((first|refine qc1 rfl rfl fun K hK=>?_|refine qc3 rfl rfl fun K hK=>?_);simp (disch:=(first|omega|(simp only [sz]<;>omega)|fail)) only [go_sem];(first|refine⟨_,_,cSteal_does _ 6 0 2 _ _ _ 1 3 0 3 rfl rfl (by decide) (by decide) (by decide) (by decide),?_⟩|refine⟨_,_,Does.com (cSteal_does _ 6 0 2 _ _ _ 1 3 0 3 rfl rfl (by decide) (by decide) (by decide) (by decide)),?_⟩);(try simp only [go_sem]);with_reducible refine hK _ _ ?_;clear hK K)
    rw [cs49,cs50,ks3]
    simp only [bornS,cntS,stn,Nat.reduceAdd]
    refine viaLF (And.intro e1 (And.intro g0_1 (And.intro g1_1 g2_1))) ?_
    ((first|refine qc1 rfl rfl fun K hK=>?_|refine qc3 rfl rfl fun K hK=>?_);simp (disch:=(first|omega|(simp only [sz]<;>omega)|fail)) only [go_sem];(first|refine⟨_,_,cPut_does _ 1 0 0 _ _ _ 1 3 3 a rfl rfl (by decide) (by decide) (by decide) (by decide),?_⟩|refine⟨_,_,Does.com (cPut_does _ 1 0 0 _ _ _ 1 3 3 a rfl rfl (by decide) (by decide) (by decide) (by decide)),?_⟩);(try simp only [go_sem]);with_reducible refine hK _ _ ?_;clear hK K)
    rw [cs49,cs50,kp1 ha]
    simp only [bornS,cntS,stn,Nat.reduceAdd]
    refine viaLF (And.intro e1 (And.intro g0_1 (And.intro g1_1 g2_1))) ?_
    ((first|refine qp1 rfl rfl fun K hK=>?_|refine qp3 rfl rfl fun K hK=>?_);simp (disch:=(first|omega|(simp only [sz]<;>omega)|fail)) only [go_sem];(first|refine⟨_,_,.pend rfl rfl,?_⟩|refine⟨_,_,.com (.pend rfl rfl),?_⟩);(try simp only [go_sem]);with_reducible refine hK _ _ ?_;clear hK K)
    simp only [accV]
    refine viaLF (And.intro e1 (And.intro g0_1 (And.intro g1_1 g2_1))) ?_
    ((first|refine qp1 rfl rfl fun K hK=>?_|refine qp3 rfl rfl fun K hK=>?_);simp (disch:=(first|omega|(simp only [sz]<;>omega)|fail)) only [go_sem];(first|refine⟨_,_,.do' 1 49 0 0 rfl (by decide) (by decide),?_⟩|refine⟨_,_,.com (.do' 1 49 0 0 rfl (by decide) (by decide)),?_⟩);(try simp only [go_sem]);with_reducible refine hK _ _ ?_;clear hK K)
    rw [kX_l,kX_ls,kX_w]
    simp only [bornS,cntS,stn,Nat.reduceAdd]
    refine viaLF (And.intro e1 (And.intro g0_1 (And.intro g1_1 g2_1))) ?_
    refine At.folds hl1 fun m2 hlen2 hge2 hrow2=>?_
    (refine qs1 rfl rfl fun K hK=>?_;simp (disch:=(first|omega|(simp only [sz]<;>omega)|fail)) only [go_sem])
    refine .inr (.inr (.inl ⟨2,3,gid,dn,5,0,ask,gr,qc,1,1,a,(1,w1),_,(none,1),rfl,rfl,by (repeat (first|exact KeepC.refl _|refine KeepC.cons (.same _) ?_|refine KeepC.cons (.loose rfl rfl) ?_|refine KeepC.cons .pend ?_|refine KeepC.more rfl ?_)),rfl,rfl,rfl,LendH.all _,⟨m2,_,rfl,Nat.le_of_eq hlen2,?_,hc1.ge hge2,hge2 _ _ hb1,.inl ⟨rfl,rfl,rfl⟩⟩,(by decide:1<2),fun i hi=>csP_oth hi,cs_back1 rfl fun l2 q2 w2 hl2 hq2 hc2 hb2=>?_⟩))
    · show q1+1+1000 * 1≤4500
      omega
    simp only [bornS,cntS,stn,Nat.reduceAdd]
    ((try simp only [go_sem]);with_reducible refine hK _ _ _ _ ?_;clear hK K)
    have g0_2:=hc2.g
    have g2_2:=hc2.b
    have g1_2:=hc2.u
    have k0_2:=(List.getElem?_eq_some_iff.1 hc2.b).1
    refine viaLF (And.intro e1 (And.intro g0_2 (And.intro g1_2 g2_2))) ?_
    ((first|refine qp1 rfl rfl fun K hK=>?_|refine qp3 rfl rfl fun K hK=>?_);simp (disch:=(first|omega|(simp only [sz]<;>omega)|fail)) only [go_sem];(first|refine⟨_,_,.pend rfl rfl,?_⟩|refine⟨_,_,.com (.pend rfl rfl),?_⟩);(try simp only [go_sem]);with_reducible refine hK _ _ ?_;clear hK K)
    simp only [accV]
    refine viaLF (And.intro e1 (And.intro g0_2 (And.intro g1_2 g2_2))) ?_
    ((first|refine qp1 rfl rfl fun K hK=>?_|refine qp3 rfl rfl fun K hK=>?_);simp (disch:=(first|omega|(simp only [sz]<;>omega)|fail)) only [go_sem];(first|refine⟨_,_,.do' 3 49 a 0 rfl (by decide) (by decide),?_⟩|refine⟨_,_,.com (.do' 3 49 a 0 rfl (by decide) (by decide)),?_⟩);(try simp only [go_sem]);with_reducible refine hK _ _ ?_;clear hK K)
    rw [kX_c,kX_cs,kX_w]
    simp only [bornS,cntS,stn,Nat.reduceAdd]
    refine viaLF (And.intro e1 (And.intro g0_2 (And.intro g1_2 g2_2))) ?_
    refine At.folds hl2 fun m3 hlen3 hge3 hrow3=>?_
    (refine qs1 rfl rfl fun K hK=>?_;simp (disch:=(first|omega|(simp only [sz]<;>omega)|fail)) only [go_sem])
    refine .inr (.inr (.inl ⟨2,3,gid,dn,7,1,ask,gr,qc,1,1,1,(2,w2),_,(none,0),rfl,rfl,by (repeat (first|exact KeepC.refl _|refine KeepC.cons (.same _) ?_|refine KeepC.cons (.loose rfl rfl) ?_|refine KeepC.cons .pend ?_|refine KeepC.more rfl ?_)),rfl,rfl,rfl,LendH.all _,⟨m3,_,rfl,Nat.le_of_eq hlen3,?_,hc2.ge hge3,hge3 _ _ hb2,.inr ⟨rfl,rfl,rfl⟩⟩,(by decide:0<1),fun i hi=>csP_oth hi,cs_back0 rfl fun l3 q3 hl3 hq3 hc3=>?_⟩))
    · show q2+1+1000 * 0≤4500
      omega
    simp only [bornS,cntS,stn,Nat.reduceAdd]
    ((try simp only [go_sem]);with_reducible refine hK _ _ _ _ ?_;clear hK K)
    have g0_3:=hc3.g
    have g2_3:=hc3.b
    have g1_3:=hc3.u
    have k0_3:=(List.getElem?_eq_some_iff.1 hc3.b).1
    refine viaLF (And.intro e1 (And.intro g0_3 (And.intro g1_3 g2_3))) ?_
    ((first|refine qp1 rfl rfl fun K hK=>?_|refine qp3 rfl rfl fun K hK=>?_);simp (disch:=(first|omega|(simp only [sz]<;>omega)|fail)) only [go_sem];(first|refine⟨_,_,.idle rfl,?_⟩|refine⟨_,_,.com (.idle rfl),?_⟩);(try simp only [go_sem]);with_reducible refine hK _ _ ?_;clear hK K)
    simp only [accZ,accV]
    refine viaLF (And.intro e1 (And.intro g0_3 (And.intro g1_3 g2_3))) ?_
    (refine qs1 rfl rfl fun K hK=>?_;simp (disch:=(first|omega|(simp only [sz]<;>omega)|fail)) only [go_sem])
    refine .inr (.inr (.inr ⟨2,qc,1,_,_,rfl,rfl,by (repeat (first|exact KeepC.refl _|refine KeepC.cons (.same _) ?_|refine KeepC.cons (.loose rfl rfl) ?_|refine KeepC.cons .pend ?_|refine KeepC.more rfl ?_)),rfl,?_⟩))
    simp only [bornS,cntS,stn,Nat.reduceAdd]
    ((try simp only [go_sem]);with_reducible refine hK _ _ _ _ ?_;clear hK K)
    refine viaLF (And.intro e1 (And.intro g0_3 (And.intro g1_3 (And.intro g2_3 (And.intro hna hnb))))) ?_
    ((first|refine qp1 rfl rfl fun K hK=>?_|refine qp3 rfl rfl fun K hK=>?_);simp (disch:=(first|omega|(simp only [sz]<;>omega)|fail)) only [go_sem];(first|refine⟨_,_,(qpd fun w=>gCache_pure 1 3 0 3 0 w (by decide) (by decide) (by decide) (by decide)),?_⟩|refine⟨_,_,(qpu fun w=>gCache_pure 1 3 0 3 0 w (by decide) (by decide) (by decide) (by decide)),?_⟩|refine⟨_,_,.com (qpd fun w=>gCache_pure 1 3 0 3 0 w (by decide) (by decide) (by decide) (by decide)),?_⟩|refine⟨_,_,.com (qpu fun w=>gCache_pure 1 3 0 3 0 w (by decide) (by decide) (by decide) (by decide)),?_⟩);(try simp only [go_sem]);with_reducible refine hK _ _ ?_;clear hK K)
    rw [cs49]
    refine viaLF (And.intro e1 (And.intro g0_3 (And.intro g1_3 g2_3))) ?_
    ((first|refine qp1 rfl rfl fun K hK=>?_|refine qp3 rfl rfl fun K hK=>?_);simp (disch:=(first|omega|(simp only [sz]<;>omega)|fail)) only [go_sem];(first|refine⟨_,_,.word 49 rfl,?_⟩|refine⟨_,_,.com (.word 49 rfl),?_⟩);(try simp only [go_sem]);with_reducible refine hK _ _ ?_;clear hK K)
    rw [kX_l,u0]
    refine viaLF (And.intro e1 (And.intro g0_3 (And.intro g1_3 g2_3))) ?_
    ((first|refine qp1 rfl rfl fun K hK=>?_|refine qp3 rfl rfl fun K hK=>?_);simp (disch:=(first|omega|(simp only [sz]<;>omega)|fail)) only [go_sem];(first|refine⟨_,_,(qpd fun w=>awake12_t),?_⟩|refine⟨_,_,(qpu fun w=>awake12_t),?_⟩|refine⟨_,_,.com (qpd fun w=>awake12_t),?_⟩|refine⟨_,_,.com (qpu fun w=>awake12_t),?_⟩);(try simp only [go_sem]);with_reducible refine hK _ _ ?_;clear hK K)
    refine viaLF (And.intro e1 (And.intro g0_3 (And.intro g1_3 g2_3))) ?_
    refine Goes.endL rfl (by simp (disch:=(first|omega|(simp only [heapL_next,List.length_cons,List.length_nil,List.size_toArray,geo_len]<;>omega)|fail)) only [go_sem,resA,res1A,Try.results12]<;>rfl) ?_ ?_
    · (repeat (first|exact KeepC.refl _|refine KeepC.cons (.same _) ?_|refine KeepC.cons (.loose rfl rfl) ?_|refine KeepC.cons .pend ?_|refine KeepC.more rfl ?_))
    · exact Idle.cons (fun _ _ _ _ _ _ h=>by cases h) (Idle.cons (fun _ _ _ _ _ _ h=>by cases h) (Idle.cons (fun _ _ _ _ _ _ h=>by cases h;rfl) (by repeat (first|exact Idle.nil|refine Idle.cons (fun _ _ _ _ _ _ h=>by cases h) ?_))))
  · have e1:(n:Int).tmod 3=1:=by rw [show (3:Int)=((3:Nat):Int) from rfl,tmod_n,hr];rfl
    have g0_1:=hc1.g
    have g2_1:=hc1.b
    have g1_1:=hc1.u
    have k0_1:=(List.getElem?_eq_some_iff.1 hc1.b).1
    refine viaLF (And.intro e1 (And.intro g0_1 (And.intro g1_1 g2_1))) ?_
    ((first|refine qp1 rfl rfl fun K hK=>?_|refine qp3 rfl rfl fun K hK=>?_);simp (disch:=(first|omega|(simp only [sz]<;>omega)|fail)) only [go_sem];(first|refine⟨_,_,.pend rfl rfl,?_⟩|refine⟨_,_,.com (.pend rfl rfl),?_⟩);(try simp only [go_sem]);with_reducible refine hK _ _ ?_;clear hK K)
    simp only [accV]
    refine viaLF (And.intro e1 (And.intro g0_1 (And.intro g1_1 g2_1))) ?_
    ((first|refine qp1 rfl rfl fun K hK=>?_|refine qp3 rfl rfl fun K hK=>?_);simp (disch:=(first|omega|(simp only [sz]<;>omega)|fail)) only [go_sem];(first|refine⟨_,_,.do' 1 49 0 0 rfl (by decide) (by decide),?_⟩|refine⟨_,_,.com (.do' 1 49 0 0 rfl (by decide) (by decide)),?_⟩);(try simp only [go_sem]);with_reducible refine hK _ _ ?_;clear hK K)
    rw [kX_l,kX_ls,kX_w]
    simp only [bornS,cntS,stn,Nat.reduceAdd]
    refine viaLF (And.intro e1 (And.intro g0_1 (And.intro g1_1 g2_1))) ?_
    refine At.folds hl1 fun m2 hlen2 hge2 hrow2=>?_
    (refine qs1 rfl rfl fun K hK=>?_;simp (disch:=(first|omega|(simp only [sz]<;>omega)|fail)) only [go_sem])
    refine .inr (.inr (.inl ⟨2,3,gid,dn,5,0,ask,gr,qc,1,1,a,(1,w1),_,(none,1),rfl,rfl,by (repeat (first|exact KeepC.refl _|refine KeepC.cons (.same _) ?_|refine KeepC.cons (.loose rfl rfl) ?_|refine KeepC.cons .pend ?_|refine KeepC.more rfl ?_)),rfl,rfl,rfl,LendH.all _,⟨m2,_,rfl,Nat.le_of_eq hlen2,?_,hc1.ge hge2,hge2 _ _ hb1,.inl ⟨rfl,rfl,rfl⟩⟩,(by decide:1<2),fun i hi=>csP_oth hi,cs_back1 rfl fun l2 q2 w2 hl2 hq2 hc2 hb2=>?_⟩))
    · show q1+1+1000 * 1≤4500
      omega
    simp only [bornS,cntS,stn,Nat.reduceAdd]
    ((try simp only [go_sem]);with_reducible refine hK _ _ _ _ ?_;clear hK K)
    have g0_2:=hc2.g
    have g2_2:=hc2.b
    have g1_2:=hc2.u
    have k0_2:=(List.getElem?_eq_some_iff.1 hc2.b).1
    refine viaLF (And.intro e1 (And.intro g0_2 (And.intro g1_2 g2_2))) ?_
    ((first|refine qp1 rfl rfl fun K hK=>?_|refine qp3 rfl rfl fun K hK=>?_);simp (disch:=(first|omega|(simp only [sz]<;>omega)|fail)) only [go_sem];(first|refine⟨_,_,.pnew (by rfl),?_⟩|refine⟨_,_,.com (.pnew (by rfl)),?_⟩);(try simp only [go_sem]);with_reducible refine hK _ _ ?_;clear hK K)
    refine viaLF (And.intro e1 (And.intro g0_2 (And.intro g1_2 g2_2))) ?_
    ((first|refine qc1 rfl rfl fun K hK=>?_|refine qc3 rfl rfl fun K hK=>?_);simp (disch:=(first|omega|(simp only [sz]<;>omega)|fail)) only [go_sem];(first|refine⟨_,_,cSteal_does _ 7 0 2 _ _ _ 1 3 0 3 rfl rfl (by decide) (by decide) (by decide) (by decide),?_⟩|refine⟨_,_,Does.com (cSteal_does _ 7 0 2 _ _ _ 1 3 0 3 rfl rfl (by decide) (by decide) (by decide) (by decide)),?_⟩);(try simp only [go_sem]);with_reducible refine hK _ _ ?_;clear hK K)
    rw [cs49,cs50,ks1 ha]
    simp only [bornS,cntS,stn,Nat.reduceAdd]
    refine viaLF (And.intro e1 (And.intro g0_2 (And.intro g1_2 g2_2))) ?_
    ((first|refine qp1 rfl rfl fun K hK=>?_|refine qp3 rfl rfl fun K hK=>?_);simp (disch:=(first|omega|(simp only [sz]<;>omega)|fail)) only [go_sem];(first|refine⟨_,_,.steps rfl,?_⟩|refine⟨_,_,.com (.steps rfl),?_⟩);(try simp only [go_sem]);with_reducible refine hK _ _ ?_;clear hK K)
    refine viaLF (And.intro e1 (And.intro g0_2 (And.intro g1_2 g2_2))) ?_
    ((first|refine qc1 rfl rfl fun K hK=>?_|refine qc3 rfl rfl fun K hK=>?_);simp (disch:=(first|omega|(simp only [sz]<;>omega)|fail)) only [go_sem];(first|refine⟨_,_,cSteal_does _ 7 0 2 _ _ _ 1 3 0 3 rfl rfl (by decide) (by decide) (by decide) (by decide),?_⟩|refine⟨_,_,Does.com (cSteal_does _ 7 0 2 _ _ _ 1 3 0 3 rfl rfl (by decide) (by decide) (by decide) (by decide)),?_⟩);(try simp only [go_sem]);with_reducible refine hK _ _ ?_;clear hK K)
    rw [cs49,cs50,ks2 hb]
    simp only [bornS,cntS,stn,Nat.reduceAdd]
    refine viaLF (And.intro e1 (And.intro g0_2 (And.intro g1_2 g2_2))) ?_
    ((first|refine qc1 rfl rfl fun K hK=>?_|refine qc3 rfl rfl fun K hK=>?_);simp (disch:=(first|omega|(simp only [sz]<;>omega)|fail)) only [go_sem];(first|refine⟨_,_,cSteal_does _ 7 0 2 _ _ _ 1 3 0 3 rfl rfl (by decide) (by decide) (by decide) (by decide),?_⟩|refine⟨_,_,Does.com (cSteal_does _ 7 0 2 _ _ _ 1 3 0 3 rfl rfl (by decide) (by decide) (by decide) (by decide)),?_⟩);(try simp only [go_sem]);with_reducible refine hK _ _ ?_;clear hK K)
    rw [cs49,cs50,ks3]
    simp only [bornS,cntS,stn,Nat.reduceAdd]
    refine viaLF (And.intro e1 (And.intro g0_2 (And.intro g1_2 g2_2))) ?_
    ((first|refine qc1 rfl rfl fun K hK=>?_|refine qc3 rfl rfl fun K hK=>?_);simp (disch:=(first|omega|(simp only [sz]<;>omega)|fail)) only [go_sem];(first|refine⟨_,_,cPut_does _ 1 0 0 _ _ _ 1 3 3 a rfl rfl (by decide) (by decide) (by decide) (by decide),?_⟩|refine⟨_,_,Does.com (cPut_does _ 1 0 0 _ _ _ 1 3 3 a rfl rfl (by decide) (by decide) (by decide) (by decide)),?_⟩);(try simp only [go_sem]);with_reducible refine hK _ _ ?_;clear hK K)
    rw [cs49,cs50,kp1 ha]
    simp only [bornS,cntS,stn,Nat.reduceAdd]
    refine viaLF (And.intro e1 (And.intro g0_2 (And.intro g1_2 g2_2))) ?_
    ((first|refine qp1 rfl rfl fun K hK=>?_|refine qp3 rfl rfl fun K hK=>?_);simp (disch:=(first|omega|(simp only [sz]<;>omega)|fail)) only [go_sem];(first|refine⟨_,_,.pend rfl rfl,?_⟩|refine⟨_,_,.com (.pend rfl rfl),?_⟩);(try simp only [go_sem]);with_reducible refine hK _ _ ?_;clear hK K)
    simp only [accV]
    refine viaLF (And.intro e1 (And.intro g0_2 (And.intro g1_2 g2_2))) ?_
    ((first|refine qp1 rfl rfl fun K hK=>?_|refine qp3 rfl rfl fun K hK=>?_);simp (disch:=(first|omega|(simp only [sz]<;>omega)|fail)) only [go_sem];(first|refine⟨_,_,.do' 3 49 a 0 rfl (by decide) (by decide),?_⟩|refine⟨_,_,.com (.do' 3 49 a 0 rfl (by decide) (by decide)),?_⟩);(try simp only [go_sem]);with_reducible refine hK _ _ ?_;clear hK K)
    rw [kX_c,kX_cs,kX_w]
    simp only [bornS,cntS,stn,Nat.reduceAdd]
    refine viaLF (And.intro e1 (And.intro g0_2 (And.intro g1_2 g2_2))) ?_
    refine At.folds hl2 fun m3 hlen3 hge3 hrow3=>?_
    (refine qs1 rfl rfl fun K hK=>?_;simp (disch:=(first|omega|(simp only [sz]<;>omega)|fail)) only [go_sem])
    refine .inr (.inr (.inl ⟨2,3,gid,dn,6,1,ask,gr,qc,1,1,1,(2,w2),_,(none,0),rfl,rfl,by (repeat (first|exact KeepC.refl _|refine KeepC.cons (.same _) ?_|refine KeepC.cons (.loose rfl rfl) ?_|refine KeepC.cons .pend ?_|refine KeepC.more rfl ?_)),rfl,rfl,rfl,LendH.all _,⟨m3,_,rfl,Nat.le_of_eq hlen3,?_,hc2.ge hge3,hge3 _ _ hb2,.inr ⟨rfl,rfl,rfl⟩⟩,(by decide:0<1),fun i hi=>csP_oth hi,cs_back0 rfl fun l3 q3 hl3 hq3 hc3=>?_⟩))
    · show q2+1+1000 * 0≤4500
      omega
    simp only [bornS,cntS,stn,Nat.reduceAdd]
    ((try simp only [go_sem]);with_reducible refine hK _ _ _ _ ?_;clear hK K)
    have g0_3:=hc3.g
    have g2_3:=hc3.b
    have g1_3:=hc3.u
    have k0_3:=(List.getElem?_eq_some_iff.1 hc3.b).1
    refine viaLF (And.intro e1 (And.intro g0_3 (And.intro g1_3 g2_3))) ?_
    ((first|refine qp1 rfl rfl fun K hK=>?_|refine qp3 rfl rfl fun K hK=>?_);simp (disch:=(first|omega|(simp only [sz]<;>omega)|fail)) only [go_sem];(first|refine⟨_,_,.idle rfl,?_⟩|refine⟨_,_,.com (.idle rfl),?_⟩);(try simp only [go_sem]);with_reducible refine hK _ _ ?_;clear hK K)
    simp only [accZ,accV]
    refine viaLF (And.intro e1 (And.intro g0_3 (And.intro g1_3 g2_3))) ?_
    (refine qs1 rfl rfl fun K hK=>?_;simp (disch:=(first|omega|(simp only [sz]<;>omega)|fail)) only [go_sem])
    refine .inr (.inr (.inr ⟨2,qc,1,_,_,rfl,rfl,by (repeat (first|exact KeepC.refl _|refine KeepC.cons (.same _) ?_|refine KeepC.cons (.loose rfl rfl) ?_|refine KeepC.cons .pend ?_|refine KeepC.more rfl ?_)),rfl,?_⟩))
    simp only [bornS,cntS,stn,Nat.reduceAdd]
    ((try simp only [go_sem]);with_reducible refine hK _ _ _ _ ?_;clear hK K)
    refine viaLF (And.intro e1 (And.intro g0_3 (And.intro g1_3 (And.intro g2_3 (And.intro hna hnb))))) ?_
    ((first|refine qp1 rfl rfl fun K hK=>?_|refine qp3 rfl rfl fun K hK=>?_);simp (disch:=(first|omega|(simp only [sz]<;>omega)|fail)) only [go_sem];(first|refine⟨_,_,(qpd fun w=>gCache_pure 1 3 0 3 0 w (by decide) (by decide) (by decide) (by decide)),?_⟩|refine⟨_,_,(qpu fun w=>gCache_pure 1 3 0 3 0 w (by decide) (by decide) (by decide) (by decide)),?_⟩|refine⟨_,_,.com (qpd fun w=>gCache_pure 1 3 0 3 0 w (by decide) (by decide) (by decide) (by decide)),?_⟩|refine⟨_,_,.com (qpu fun w=>gCache_pure 1 3 0 3 0 w (by decide) (by decide) (by decide) (by decide)),?_⟩);(try simp only [go_sem]);with_reducible refine hK _ _ ?_;clear hK K)
    rw [cs49]
    refine viaLF (And.intro e1 (And.intro g0_3 (And.intro g1_3 g2_3))) ?_
    ((first|refine qp1 rfl rfl fun K hK=>?_|refine qp3 rfl rfl fun K hK=>?_);simp (disch:=(first|omega|(simp only [sz]<;>omega)|fail)) only [go_sem];(first|refine⟨_,_,.word 49 rfl,?_⟩|refine⟨_,_,.com (.word 49 rfl),?_⟩);(try simp only [go_sem]);with_reducible refine hK _ _ ?_;clear hK K)
    rw [kX_l,u0]
    refine viaLF (And.intro e1 (And.intro g0_3 (And.intro g1_3 g2_3))) ?_
    ((first|refine qp1 rfl rfl fun K hK=>?_|refine qp3 rfl rfl fun K hK=>?_);simp (disch:=(first|omega|(simp only [sz]<;>omega)|fail)) only [go_sem];(first|refine⟨_,_,(qpd fun w=>awake12_t),?_⟩|refine⟨_,_,(qpu fun w=>awake12_t),?_⟩|refine⟨_,_,.com (qpd fun w=>awake12_t),?_⟩|refine⟨_,_,.com (qpu fun w=>awake12_t),?_⟩);(try simp only [go_sem]);with_reducible refine hK _ _ ?_;clear hK K)
    refine viaLF (And.intro e1 (And.intro g0_3 (And.intro g1_3 g2_3))) ?_
    refine Goes.endL rfl (by simp (disch:=(first|omega|(simp only [heapL_next,List.length_cons,List.length_nil,List.size_toArray,geo_len]<;>omega)|fail)) only [go_sem,resA,res1A,Try.results12]<;>rfl) ?_ ?_
    · (repeat (first|exact KeepC.refl _|refine KeepC.cons (.same _) ?_|refine KeepC.cons (.loose rfl rfl) ?_|refine KeepC.cons .pend ?_|refine KeepC.more rfl ?_))
    · exact Idle.cons (fun _ _ _ _ _ _ h=>by cases h) (Idle.cons (fun _ _ _ _ _ _ h=>by cases h) (Idle.cons (fun _ _ _ _ _ _ h=>by cases h;rfl) (by repeat (first|exact Idle.nil|refine Idle.cons (fun _ _ _ _ _ _ h=>by cases h) ?_))))
  · have e1:(n:Int).tmod 3=2:=by rw [show (3:Int)=((3:Nat):Int) from rfl,tmod_n,hr];rfl
    have g0_1:=hc1.g
    have g2_1:=hc1.b
    have g1_1:=hc1.u
    have k0_1:=(List.getElem?_eq_some_iff.1 hc1.b).1
    refine viaLF (And.intro e1 (And.intro g0_1 (And.intro g1_1 g2_1))) ?_
    ((first|refine qp1 rfl rfl fun K hK=>?_|refine qp3 rfl rfl fun K hK=>?_);simp (disch:=(first|omega|(simp only [sz]<;>omega)|fail)) only [go_sem];(first|refine⟨_,_,.pend rfl rfl,?_⟩|refine⟨_,_,.com (.pend rfl rfl),?_⟩);(try simp only [go_sem]);with_reducible refine hK _ _ ?_;clear hK K)
    simp only [accV]
    refine viaLF (And.intro e1 (And.intro g0_1 (And.intro g1_1 g2_1))) ?_
    ((first|refine qp1 rfl rfl fun K hK=>?_|refine qp3 rfl rfl fun K hK=>?_);simp (disch:=(first|omega|(simp only [sz]<;>omega)|fail)) only [go_sem];(first|refine⟨_,_,.do' 1 49 0 0 rfl (by decide) (by decide),?_⟩|refine⟨_,_,.com (.do' 1 49 0 0 rfl (by decide) (by decide)),?_⟩);(try simp only [go_sem]);with_reducible refine hK _ _ ?_;clear hK K)
    rw [kX_l,kX_ls,kX_w]
    simp only [bornS,cntS,stn,Nat.reduceAdd]
    refine viaLF (And.intro e1 (And.intro g0_1 (And.intro g1_1 g2_1))) ?_
    refine At.folds hl1 fun m2 hlen2 hge2 hrow2=>?_
    (refine qs1 rfl rfl fun K hK=>?_;simp (disch:=(first|omega|(simp only [sz]<;>omega)|fail)) only [go_sem])
    refine .inr (.inr (.inl ⟨2,3,gid,dn,5,0,ask,gr,qc,1,1,a,(1,w1),_,(none,1),rfl,rfl,by (repeat (first|exact KeepC.refl _|refine KeepC.cons (.same _) ?_|refine KeepC.cons (.loose rfl rfl) ?_|refine KeepC.cons .pend ?_|refine KeepC.more rfl ?_)),rfl,rfl,rfl,LendH.all _,⟨m2,_,rfl,Nat.le_of_eq hlen2,?_,hc1.ge hge2,hge2 _ _ hb1,.inl ⟨rfl,rfl,rfl⟩⟩,(by decide:1<2),fun i hi=>csP_oth hi,cs_back1 rfl fun l2 q2 w2 hl2 hq2 hc2 hb2=>?_⟩))
    · show q1+1+1000 * 1≤4500
      omega
    simp only [bornS,cntS,stn,Nat.reduceAdd]
    ((try simp only [go_sem]);with_reducible refine hK _ _ _ _ ?_;clear hK K)
    have g0_2:=hc2.g
    have g2_2:=hc2.b
    have g1_2:=hc2.u
    have k0_2:=(List.getElem?_eq_some_iff.1 hc2.b).1
    refine viaLF (And.intro e1 (And.intro g0_2 (And.intro g1_2 g2_2))) ?_
    ((first|refine qp1 rfl rfl fun K hK=>?_|refine qp3 rfl rfl fun K hK=>?_);simp (disch:=(first|omega|(simp only [sz]<;>omega)|fail)) only [go_sem];(first|refine⟨_,_,.pend rfl rfl,?_⟩|refine⟨_,_,.com (.pend rfl rfl),?_⟩);(try simp only [go_sem]);with_reducible refine hK _ _ ?_;clear hK K)
    simp only [accV]
    refine viaLF (And.intro e1 (And.intro g0_2 (And.intro g1_2 g2_2))) ?_
    ((first|refine qp1 rfl rfl fun K hK=>?_|refine qp3 rfl rfl fun K hK=>?_);simp (disch:=(first|omega|(simp only [sz]<;>omega)|fail)) only [go_sem];(first|refine⟨_,_,.do' 3 49 a 0 rfl (by decide) (by decide),?_⟩|refine⟨_,_,.com (.do' 3 49 a 0 rfl (by decide) (by decide)),?_⟩);(try simp only [go_sem]);with_reducible refine hK _ _ ?_;clear hK K)
    rw [kX_c,kX_cs,kX_w]
    simp only [bornS,cntS,stn,Nat.reduceAdd]
    refine viaLF (And.intro e1 (And.intro g0_2 (And.intro g1_2 g2_2))) ?_
    refine At.folds hl2 fun m3 hlen3 hge3 hrow3=>?_
    (refine qs1 rfl rfl fun K hK=>?_;simp (disch:=(first|omega|(simp only [sz]<;>omega)|fail)) only [go_sem])
    refine .inr (.inr (.inl ⟨2,3,gid,dn,6,1,ask,gr,qc,1,1,1,(2,w2),_,(none,0),rfl,rfl,by (repeat (first|exact KeepC.refl _|refine KeepC.cons (.same _) ?_|refine KeepC.cons (.loose rfl rfl) ?_|refine KeepC.cons .pend ?_|refine KeepC.more rfl ?_)),rfl,rfl,rfl,LendH.all _,⟨m3,_,rfl,Nat.le_of_eq hlen3,?_,hc2.ge hge3,hge3 _ _ hb2,.inr ⟨rfl,rfl,rfl⟩⟩,(by decide:0<1),fun i hi=>csP_oth hi,cs_back0 rfl fun l3 q3 hl3 hq3 hc3=>?_⟩))
    · show q2+1+1000 * 0≤4500
      omega
    simp only [bornS,cntS,stn,Nat.reduceAdd]
    ((try simp only [go_sem]);with_reducible refine hK _ _ _ _ ?_;clear hK K)
    have g0_3:=hc3.g
    have g2_3:=hc3.b
    have g1_3:=hc3.u
    have k0_3:=(List.getElem?_eq_some_iff.1 hc3.b).1
    refine viaLF (And.intro e1 (And.intro g0_3 (And.intro g1_3 g2_3))) ?_
    ((first|refine qp1 rfl rfl fun K hK=>?_|refine qp3 rfl rfl fun K hK=>?_);simp (disch:=(first|omega|(simp only [sz]<;>omega)|fail)) only [go_sem];(first|refine⟨_,_,.pnew (by rfl),?_⟩|refine⟨_,_,.com (.pnew (by rfl)),?_⟩);(try simp only [go_sem]);with_reducible refine hK _ _ ?_;clear hK K)
    refine viaLF (And.intro e1 (And.intro g0_3 (And.intro g1_3 g2_3))) ?_
    ((first|refine qc1 rfl rfl fun K hK=>?_|refine qc3 rfl rfl fun K hK=>?_);simp (disch:=(first|omega|(simp only [sz]<;>omega)|fail)) only [go_sem];(first|refine⟨_,_,cSteal_does _ 7 0 2 _ _ _ 1 3 0 3 rfl rfl (by decide) (by decide) (by decide) (by decide),?_⟩|refine⟨_,_,Does.com (cSteal_does _ 7 0 2 _ _ _ 1 3 0 3 rfl rfl (by decide) (by decide) (by decide) (by decide)),?_⟩);(try simp only [go_sem]);with_reducible refine hK _ _ ?_;clear hK K)
    rw [cs49,cs50,ks2 hb]
    simp only [bornS,cntS,stn,Nat.reduceAdd]
    refine viaLF (And.intro e1 (And.intro g0_3 (And.intro g1_3 g2_3))) ?_
    ((first|refine qp1 rfl rfl fun K hK=>?_|refine qp3 rfl rfl fun K hK=>?_);simp (disch:=(first|omega|(simp only [sz]<;>omega)|fail)) only [go_sem];(first|refine⟨_,_,.steps rfl,?_⟩|refine⟨_,_,.com (.steps rfl),?_⟩);(try simp only [go_sem]);with_reducible refine hK _ _ ?_;clear hK K)
    refine viaLF (And.intro e1 (And.intro g0_3 (And.intro g1_3 g2_3))) ?_
    ((first|refine qc1 rfl rfl fun K hK=>?_|refine qc3 rfl rfl fun K hK=>?_);simp (disch:=(first|omega|(simp only [sz]<;>omega)|fail)) only [go_sem];(first|refine⟨_,_,cSteal_does _ 7 0 2 _ _ _ 1 3 0 3 rfl rfl (by decide) (by decide) (by decide) (by decide),?_⟩|refine⟨_,_,Does.com (cSteal_does _ 7 0 2 _ _ _ 1 3 0 3 rfl rfl (by decide) (by decide) (by decide) (by decide)),?_⟩);(try simp only [go_sem]);with_reducible refine hK _ _ ?_;clear hK K)
    rw [cs49,cs50,ks3]
    simp only [bornS,cntS,stn,Nat.reduceAdd]
    refine viaLF (And.intro e1 (And.intro g0_3 (And.intro g1_3 g2_3))) ?_
    ((first|refine qc1 rfl rfl fun K hK=>?_|refine qc3 rfl rfl fun K hK=>?_);simp (disch:=(first|omega|(simp only [sz]<;>omega)|fail)) only [go_sem];(first|refine⟨_,_,cSteal_does _ 7 0 2 _ _ _ 1 3 0 3 rfl rfl (by decide) (by decide) (by decide) (by decide),?_⟩|refine⟨_,_,Does.com (cSteal_does _ 7 0 2 _ _ _ 1 3 0 3 rfl rfl (by decide) (by decide) (by decide) (by decide)),?_⟩);(try simp only [go_sem]);with_reducible refine hK _ _ ?_;clear hK K)
    rw [cs49,cs50,ks3]
    simp only [bornS,cntS,stn,Nat.reduceAdd]
    refine viaLF (And.intro e1 (And.intro g0_3 (And.intro g1_3 g2_3))) ?_
    ((first|refine qc1 rfl rfl fun K hK=>?_|refine qc3 rfl rfl fun K hK=>?_);simp (disch:=(first|omega|(simp only [sz]<;>omega)|fail)) only [go_sem];(first|refine⟨_,_,cPut_does _ 1 0 0 _ _ _ 1 3 3 a rfl rfl (by decide) (by decide) (by decide) (by decide),?_⟩|refine⟨_,_,Does.com (cPut_does _ 1 0 0 _ _ _ 1 3 3 a rfl rfl (by decide) (by decide) (by decide) (by decide)),?_⟩);(try simp only [go_sem]);with_reducible refine hK _ _ ?_;clear hK K)
    rw [cs49,cs50,kp1 ha]
    simp only [bornS,cntS,stn,Nat.reduceAdd]
    refine viaLF (And.intro e1 (And.intro g0_3 (And.intro g1_3 g2_3))) ?_
    ((first|refine qp1 rfl rfl fun K hK=>?_|refine qp3 rfl rfl fun K hK=>?_);simp (disch:=(first|omega|(simp only [sz]<;>omega)|fail)) only [go_sem];(first|refine⟨_,_,.idle rfl,?_⟩|refine⟨_,_,.com (.idle rfl),?_⟩);(try simp only [go_sem]);with_reducible refine hK _ _ ?_;clear hK K)
    simp only [accZ,accV]
    refine viaLF (And.intro e1 (And.intro g0_3 (And.intro g1_3 g2_3))) ?_
    (refine qs1 rfl rfl fun K hK=>?_;simp (disch:=(first|omega|(simp only [sz]<;>omega)|fail)) only [go_sem])
    refine .inr (.inr (.inr ⟨2,qc,1,_,_,rfl,rfl,by (repeat (first|exact KeepC.refl _|refine KeepC.cons (.same _) ?_|refine KeepC.cons (.loose rfl rfl) ?_|refine KeepC.cons .pend ?_|refine KeepC.more rfl ?_)),rfl,?_⟩))
    simp only [bornS,cntS,stn,Nat.reduceAdd]
    ((try simp only [go_sem]);with_reducible refine hK _ _ _ _ ?_;clear hK K)
    refine viaLF (And.intro e1 (And.intro g0_3 (And.intro g1_3 (And.intro g2_3 (And.intro hna hnb))))) ?_
    ((first|refine qp1 rfl rfl fun K hK=>?_|refine qp3 rfl rfl fun K hK=>?_);simp (disch:=(first|omega|(simp only [sz]<;>omega)|fail)) only [go_sem];(first|refine⟨_,_,(qpd fun w=>awake12_t),?_⟩|refine⟨_,_,(qpu fun w=>awake12_t),?_⟩|refine⟨_,_,.com (qpd fun w=>awake12_t),?_⟩|refine⟨_,_,.com (qpu fun w=>awake12_t),?_⟩);(try simp only [go_sem]);with_reducible refine hK _ _ ?_;clear hK K)
    refine viaLF (And.intro e1 (And.intro g0_3 (And.intro g1_3 g2_3))) ?_
    refine Goes.endL rfl (by simp (disch:=(first|omega|(simp only [heapL_next,List.length_cons,List.length_nil,List.size_toArray,geo_len]<;>omega)|fail)) only [go_sem,resA,res1A,Try.results12]<;>rfl) ?_ ?_
    · (repeat (first|exact KeepC.refl _|refine KeepC.cons (.same _) ?_|refine KeepC.cons (.loose rfl rfl) ?_|refine KeepC.cons .pend ?_|refine KeepC.more rfl ?_))
    · exact Idle.cons (fun _ _ _ _ _ _ h=>by cases h) (Idle.cons (fun _ _ _ _ _ _ h=>by cases h) (Idle.cons (fun _ _ _ _ _ _ h=>by cases h;rfl) (by repeat (first|exact Idle.nil|refine Idle.cons (fun _ _ _ _ _ _ h=>by cases h) ?_))))
theorem u8_ofT {n:Int} (h:(Lit.int .u8 n).wf=true):0≤n∧n≤255:=by simpa [Lit.wf,IntKind.min,IntKind.max,IntKind.signed,IntKind.bits] using h
theorem u64_ofT {n:Int} (h:(Lit.int .u64 n).wf=true):0≤n∧n≤18446744073709551615:=by simpa [Lit.wf,IntKind.min,IntKind.max,IntKind.signed,IntKind.bits] using h
theorem cacheStands_walk (a0 a1 a2:Int) (W:World) (w0:(Lit.int .u8 a0).wf=true) (w1:(Lit.int .u64 a1).wf=true) (w2:(Lit.int .u64 a2).wf=true) :
    ∃ M last o w' t',runNT Try.prog (M+1) (solo (Go.Conc.G (Frame.enter Try.prog 12 #[.int .u8 a0,.int .u64 a1,.int .u64 a2] .normal) []) W) #[]=(.ended o w',t')∧runN Try.prog M (solo (Go.Conc.G (Frame.enter Try.prog 12 #[.int .u8 a0,.int .u64 a1,.int .u64 a2] .normal) []) W)=.next last ∧
      step Try.prog last=.ended o w'∧Conc.Good Try.prog (fun v w'=>v=.bool true∧Go.RowKit.Below W.heap.size W w') last o w' t':=by
  obtain⟨n,rfl⟩:=Int.eq_ofNat_of_zero_le (u8_ofT w0).1
  obtain⟨u,rfl⟩:=Int.eq_ofNat_of_zero_le (u64_ofT w1).1
  obtain⟨v,rfl⟩:=Int.eq_ofNat_of_zero_le (u64_ofT w2).1
  have hu:((UInt64.ofNat u).toNat:Int)=(u:Int):=by have:=(u64_ofT w1).2;simp;omega
  have hv:((UInt64.ofNat v).toNat:Int)=(v:Int):=by have:=(u64_ofT w2).2;simp;omega
  have L:=(cs_law n (UInt64.ofNat u) (UInt64.ofNat v) (by have:=(u8_ofT w0).2;omega)).runs Try.func12 Try.results12 (by kernel_rfl) (by simp [plainB]) W
  rw [hu,hv] at L
  exact L
end Go.Proofs.Ytkjnamhgemidkaa
