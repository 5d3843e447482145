/-
  What an access of a memory does, by the abstract machine over its rows alone. Printed by gen_do.py.
  No condition: steps of the program.
-/
import Derived.Test.YtpkkfkebnhgaiaaUCo20
set_option maxHeartbeats 40000000
set_option linter.unusedVariables false
set_option linter.unusedSimpArgs false
set_option maxRecDepth 100000
open List renaming replicate->qa,length_set->qc,getElem?_eq_some_iff->qf,getElem?_set_ne->ql,getElem?_set_self->qn
open Go.Proofs.Ytpkkfkebnhgaiaa.Clo renaming plain->qb
open Go.Proofs.Ytpkkfkebnhgaiaa.Goes renaming finI->qd
open Go.Proofs.Ytpkkfkebnhgaiaa.DoesI renaming mk->qe
open Go.Proofs.Ytpkkfkebnhgaiaa.RG renaming callX->qg
open Go.Proofs.Ytpkkfkebnhgaiaa.At renaming callX->qh
open Bool renaming true_eq_false->qi
open Nat renaming mul_one->qj
open Array renaming map_append->qk
namespace Go.Proofs.Ytpkkfkebnhgaiaa
open Go Go.RowKit
variable {bs bs':List UInt8}{s wn wc bn bc m s' p:Nat}
theorem zud{k:Nat}(h:k<bs.length):(bL bs)[k]?=some (.int .u8 (bs[k].toNat:Int)):=by simp[zdJ,h]
theorem zs0{k:Nat}{x:UInt8}:(bL bs).set k (.int .u8 (x.toNat:Int))=bL (bs.set k x):=by simp[zdJ,List.map_set]
theorem zn1(b:UInt8):IntKind.u64.wrap (b.toNat:Int)=(b.toNat:Int):=by
  have:=b.toNat_lt;rw[IntKind.wrap_u64];omega
theorem zr5(ws:List UInt64)(bs:List UInt8)(wc bc:Nat)(n:Int)(A B:UInt64)(hn:n<0):DoesI 27 #[.pointer (some ⟨0,0,none⟩),accV 1 n A B] (zaI ws bs wc bc) (.tuple #[.int .u64 0,.bool false]) (zaI ws bs wc bc):=by
  refine qe Try.func27 rfl rfl ?clo ?rows ?_
  case clo=>exact zbf (by simp)
  case rows=>exact zaV ws bs wc bc
  rw[Try.ntmps27];simp only[zSt,zLc,zLn,qa,zCa,zNa];simp only[zaI,zMp,zMn,accV,qc];have hd1:decide (n<0)=true:=decide_eq_true hn;refine viaF hd1 ?_;refine qd rfl (by simp (disch:=(first|omega|(simp only[zaa,zLc,zLn,zSt,zaf]<;>omega)|fail)) only [go_sem,resA,zaK,Try.results27]<;>rfl) rfl rfl ?_ ?_
  . exact qb (by simp[zac])
  . exact zcx
theorem zsn(ws:List UInt64)(bs:List UInt8)(wc bc:Nat)(n:Int)(A B:UInt64)(hn:(ws.length:Int)<=n):DoesI 27 #[.pointer (some ⟨0,0,none⟩),accV 1 n A B] (zaI ws bs wc bc) (.tuple #[.int .u64 0,.bool false]) (zaI ws bs wc bc):=by
  refine qe Try.func27 rfl rfl ?clo ?rows ?_
  case clo=>exact zbf (by simp)
  case rows=>exact zaV ws bs wc bc
  rw[Try.ntmps27];simp only[zSt,zLc,zLn,qa,zCa,zNa];simp only[zaI,zMp,zMn,accV,qc];have hd1:decide (n<0)=false:=decide_eq_false (by omega)
  have hd2:decide (n >= (ws.length:Int))=true:=decide_eq_true (by omega)
  refine viaF (And.intro hd1 hd2) ?_;((first|refine qh [0,1,2] rfl rfl rfl (by decide) rfl (fun K hK=>?_)|refine qg [0,1,2] rfl rfl rfl rfl (by decide) (fun K hK=>?_));simp (disch:=(first|omega|(simp only[zaa,zLc,zLn,zSt,zaf]<;>omega)|fail)) only [go_sem];refine⟨_,_,_,_,_,_,(zeu ws bs wc bc),by first|rfl|simp (disch:=(first|omega|(simp only[zaa,zLc,zLn,zSt,zaf]<;>omega)|fail)) only [go_sem],by((repeat(refine⟨⟨_,rfl,rfl,?_,(by first|exact .inr rfl|exact .inl rfl),(by first|exact fun h=>h|exact fun _=>rfl|(intro h;cases h))⟩,?_⟩;· first|exact zao zaj|(simp[up_0,up_1,up_2,up_3,up_4,zaF,zau,adr];done)|(simp[zcg];done)|exact zao (by simp[zac];done)|simp[up_0,up_1,up_2,zdC,zaF,zau,adr]));exact trivial),by first|exact⟨rfl,rfl⟩|rfl,?_⟩;(try simp only[go_sem]);(first|refine hK _ _ _ ?_|refine hK _ _ _ _ ?_);clear hK K)
  refine viaF (And.intro hd1 hd2) ?_;refine qd rfl (by simp (disch:=(first|omega|(simp only[zaa,zLc,zLn,zSt,zaf]<;>omega)|fail)) only [go_sem,resA,zaK,Try.results27]<;>rfl) rfl rfl ?_ ?_
  . exact qb (by simp[zac])
  . exact zcx
theorem ztT(ws:List UInt64)(bs:List UInt8)(wc bc k:Nat)(A B:UInt64)(hk:k<ws.length):DoesI 27 #[.pointer (some ⟨0,0,none⟩),accV 1 (k:Int) A B] (zaI ws bs wc bc) (.tuple #[.int .u64 (ws[k].toNat:Int),.bool true]) (zaI (ws.set k ws[k]) bs wc bc):=by
  refine qe Try.func27 rfl rfl ?clo ?rows ?_
  case clo=>exact zbf (by simp)
  case rows=>exact zaV ws bs wc bc
  rw[Try.ntmps27];simp only[zSt,zLc,zLn,qa,zCa,zNa];simp only[zaI,zMp,zMn,accV,qc];have hd1:decide ((k:Int)<0)=false:=decide_eq_false (by omega)
  have hd2:decide ((k:Int) >= (ws.length:Int))=false:=decide_eq_false (by omega)
  have hx:=zpS hk;have hll:=zly ws;refine viaF (And.intro hd1 (And.intro hd2 (And.intro hx hll))) ?_;((first|refine qh [0,1,2] rfl rfl rfl (by decide) rfl (fun K hK=>?_)|refine qg [0,1,2] rfl rfl rfl rfl (by decide) (fun K hK=>?_));simp (disch:=(first|omega|(simp only[zaa,zLc,zLn,zSt,zaf]<;>omega)|fail)) only [go_sem];refine⟨_,_,_,_,_,_,(zeu ws bs wc bc),by first|rfl|simp (disch:=(first|omega|(simp only[zaa,zLc,zLn,zSt,zaf]<;>omega)|fail)) only [go_sem],by((repeat(refine⟨⟨_,rfl,rfl,?_,(by first|exact .inr rfl|exact .inl rfl),(by first|exact fun h=>h|exact fun _=>rfl|(intro h;cases h))⟩,?_⟩;· first|exact zao zaj|(simp[up_0,up_1,up_2,up_3,up_4,zaF,zau,adr];done)|(simp[zcg];done)|exact zao (by simp[zac];done)|simp[up_0,up_1,up_2,zdC,zaF,zau,adr]));exact trivial),by first|exact⟨rfl,rfl⟩|rfl,?_⟩;(try simp only[go_sem]);(first|refine hK _ _ _ ?_|refine hK _ _ _ _ ?_);clear hK K)
  refine viaF (And.intro hd1 (And.intro hd2 (And.intro hx hll))) ?_;((first|refine qc1 rfl rfl fun K hK=>?_|refine qc3 rfl rfl fun K hK=>?_);simp (disch:=(first|omega|(simp only[sz]<;>omega)|fail)) only [go_sem];(first|refine⟨_,_,zem,?_⟩|refine⟨_,_,Does.com (zem),?_⟩);(try simp only[go_sem]);with_reducible refine hK _ _ ?_;clear hK K)
  simp only[zie];have hts:=zgG;have hta:=ziQ;have hk1:=qj k;refine viaF (And.intro hd1 (And.intro hd2 (And.intro hx (And.intro hll (And.intro hts (And.intro hta hk1)))))) ?_;((first|refine qc1 rfl rfl fun K hK=>?_|refine qc3 rfl rfl fun K hK=>?_);simp (disch:=(first|omega|(simp only[sz]<;>omega)|fail)) only [go_sem];(first|refine⟨_,_,zlX ws[k] 1 (k:Int) A B,?_⟩|refine⟨_,_,Does.com (zlX ws[k] 1 (k:Int) A B),?_⟩);(try simp only[go_sem]);with_reducible refine hK _ _ ?_;clear hK K)
  refine viaF (And.intro hd1 (And.intro hd2 (And.intro hx (And.intro hll hk1)))) ?_;rw[zlg];refine qd rfl (by simp (disch:=(first|omega|(simp only[zaa,zLc,zLn,zSt,zaf]<;>omega)|fail)) only [go_sem,resA,zaK,Try.results27]<;>rfl) rfl rfl ?_ ?_
  . exact qb (by simp[zac])
  . exact zcx
theorem zsi(ws:List UInt64)(bs:List UInt8)(wc bc:Nat)(n:Int)(A B:UInt64)(hn:n<0):DoesI 27 #[.pointer (some ⟨0,0,none⟩),accV 2 n A B] (zaI ws bs wc bc) (.tuple #[.int .u64 0,.bool false]) (zaI ws bs wc bc):=by
  refine qe Try.func27 rfl rfl ?clo ?rows ?_
  case clo=>exact zbf (by simp)
  case rows=>exact zaV ws bs wc bc
  rw[Try.ntmps27];simp only[zSt,zLc,zLn,qa,zCa,zNa];simp only[zaI,zMp,zMn,accV,qc];have hd1:decide (n<0)=true:=decide_eq_true hn;refine viaF hd1 ?_;refine qd rfl (by simp (disch:=(first|omega|(simp only[zaa,zLc,zLn,zSt,zaf]<;>omega)|fail)) only [go_sem,resA,zaK,Try.results27]<;>rfl) rfl rfl ?_ ?_
  . exact qb (by simp[zac])
  . exact zcx
theorem zrx(ws:List UInt64)(bs:List UInt8)(wc bc:Nat)(n:Int)(A B:UInt64)(hn:(ws.length:Int)<=n):DoesI 27 #[.pointer (some ⟨0,0,none⟩),accV 2 n A B] (zaI ws bs wc bc) (.tuple #[.int .u64 0,.bool false]) (zaI ws bs wc bc):=by
  refine qe Try.func27 rfl rfl ?clo ?rows ?_
  case clo=>exact zbf (by simp)
  case rows=>exact zaV ws bs wc bc
  rw[Try.ntmps27];simp only[zSt,zLc,zLn,qa,zCa,zNa];simp only[zaI,zMp,zMn,accV,qc];have hd1:decide (n<0)=false:=decide_eq_false (by omega)
  have hd2:decide (n >= (ws.length:Int))=true:=decide_eq_true (by omega)
  refine viaF (And.intro hd1 hd2) ?_;((first|refine qh [0,1,2] rfl rfl rfl (by decide) rfl (fun K hK=>?_)|refine qg [0,1,2] rfl rfl rfl rfl (by decide) (fun K hK=>?_));simp (disch:=(first|omega|(simp only[zaa,zLc,zLn,zSt,zaf]<;>omega)|fail)) only [go_sem];refine⟨_,_,_,_,_,_,(zeu ws bs wc bc),by first|rfl|simp (disch:=(first|omega|(simp only[zaa,zLc,zLn,zSt,zaf]<;>omega)|fail)) only [go_sem],by((repeat(refine⟨⟨_,rfl,rfl,?_,(by first|exact .inr rfl|exact .inl rfl),(by first|exact fun h=>h|exact fun _=>rfl|(intro h;cases h))⟩,?_⟩;· first|exact zao zaj|(simp[up_0,up_1,up_2,up_3,up_4,zaF,zau,adr];done)|(simp[zcg];done)|exact zao (by simp[zac];done)|simp[up_0,up_1,up_2,zdC,zaF,zau,adr]));exact trivial),by first|exact⟨rfl,rfl⟩|rfl,?_⟩;(try simp only[go_sem]);(first|refine hK _ _ _ ?_|refine hK _ _ _ _ ?_);clear hK K)
  refine viaF (And.intro hd1 hd2) ?_;refine qd rfl (by simp (disch:=(first|omega|(simp only[zaa,zLc,zLn,zSt,zaf]<;>omega)|fail)) only [go_sem,resA,zaK,Try.results27]<;>rfl) rfl rfl ?_ ?_
  . exact qb (by simp[zac])
  . exact zcx
theorem ztL(ws:List UInt64)(bs:List UInt8)(wc bc k:Nat)(A B:UInt64)(hk:k<ws.length):DoesI 27 #[.pointer (some ⟨0,0,none⟩),accV 2 (k:Int) A B] (zaI ws bs wc bc) (.tuple #[.int .u64 0,.bool true]) (zaI (ws.set k A) bs wc bc):=by
  refine qe Try.func27 rfl rfl ?clo ?rows ?_
  case clo=>exact zbf (by simp)
  case rows=>exact zaV ws bs wc bc
  rw[Try.ntmps27];simp only[zSt,zLc,zLn,qa,zCa,zNa];simp only[zaI,zMp,zMn,accV,qc];have hd1:decide ((k:Int)<0)=false:=decide_eq_false (by omega)
  have hd2:decide ((k:Int) >= (ws.length:Int))=false:=decide_eq_false (by omega)
  have hx:=zpS hk;have hll:=zly ws;refine viaF (And.intro hd1 (And.intro hd2 (And.intro hx hll))) ?_;((first|refine qh [0,1,2] rfl rfl rfl (by decide) rfl (fun K hK=>?_)|refine qg [0,1,2] rfl rfl rfl rfl (by decide) (fun K hK=>?_));simp (disch:=(first|omega|(simp only[zaa,zLc,zLn,zSt,zaf]<;>omega)|fail)) only [go_sem];refine⟨_,_,_,_,_,_,(zeu ws bs wc bc),by first|rfl|simp (disch:=(first|omega|(simp only[zaa,zLc,zLn,zSt,zaf]<;>omega)|fail)) only [go_sem],by((repeat(refine⟨⟨_,rfl,rfl,?_,(by first|exact .inr rfl|exact .inl rfl),(by first|exact fun h=>h|exact fun _=>rfl|(intro h;cases h))⟩,?_⟩;· first|exact zao zaj|(simp[up_0,up_1,up_2,up_3,up_4,zaF,zau,adr];done)|(simp[zcg];done)|exact zao (by simp[zac];done)|simp[up_0,up_1,up_2,zdC,zaF,zau,adr]));exact trivial),by first|exact⟨rfl,rfl⟩|rfl,?_⟩;(try simp only[go_sem]);(first|refine hK _ _ _ ?_|refine hK _ _ _ _ ?_);clear hK K)
  refine viaF (And.intro hd1 (And.intro hd2 (And.intro hx hll))) ?_;((first|refine qc1 rfl rfl fun K hK=>?_|refine qc3 rfl rfl fun K hK=>?_);simp (disch:=(first|omega|(simp only[sz]<;>omega)|fail)) only [go_sem];(first|refine⟨_,_,zem,?_⟩|refine⟨_,_,Does.com (zem),?_⟩);(try simp only[go_sem]);with_reducible refine hK _ _ ?_;clear hK K)
  simp only[zie];have hts:=zgG;have hta:=ziQ;have hk1:=qj k;refine viaF (And.intro hd1 (And.intro hd2 (And.intro hx (And.intro hll (And.intro hts (And.intro hta hk1)))))) ?_;((first|refine qc1 rfl rfl fun K hK=>?_|refine qc3 rfl rfl fun K hK=>?_);simp (disch:=(first|omega|(simp only[sz]<;>omega)|fail)) only [go_sem];(first|refine⟨_,_,zlB ws[k] 2 (k:Int) A B,?_⟩|refine⟨_,_,Does.com (zlB ws[k] 2 (k:Int) A B),?_⟩);(try simp only[go_sem]);with_reducible refine hK _ _ ?_;clear hK K)
  refine viaF (And.intro hd1 (And.intro hd2 (And.intro hx (And.intro hll hk1)))) ?_;rw[zlg];refine qd rfl (by simp (disch:=(first|omega|(simp only[zaa,zLc,zLn,zSt,zaf]<;>omega)|fail)) only [go_sem,resA,zaK,Try.results27]<;>rfl) rfl rfl ?_ ?_
  . exact qb (by simp[zac])
  . exact zcx
theorem zrF(ws:List UInt64)(bs:List UInt8)(wc bc:Nat)(n:Int)(A B:UInt64)(hn:n<0):DoesI 27 #[.pointer (some ⟨0,0,none⟩),accV 3 n A B] (zaI ws bs wc bc) (.tuple #[.int .u64 0,.bool false]) (zaI ws bs wc bc):=by
  refine qe Try.func27 rfl rfl ?clo ?rows ?_
  case clo=>exact zbf (by simp)
  case rows=>exact zaV ws bs wc bc
  rw[Try.ntmps27];simp only[zSt,zLc,zLn,qa,zCa,zNa];simp only[zaI,zMp,zMn,accV,qc];have hd1:decide (n<0)=true:=decide_eq_true hn;refine viaF hd1 ?_;refine qd rfl (by simp (disch:=(first|omega|(simp only[zaa,zLc,zLn,zSt,zaf]<;>omega)|fail)) only [go_sem,resA,zaK,Try.results27]<;>rfl) rfl rfl ?_ ?_
  . exact qb (by simp[zac])
  . exact zcx
theorem zsk(ws:List UInt64)(bs:List UInt8)(wc bc:Nat)(n:Int)(A B:UInt64)(hn:(ws.length:Int)<=n):DoesI 27 #[.pointer (some ⟨0,0,none⟩),accV 3 n A B] (zaI ws bs wc bc) (.tuple #[.int .u64 0,.bool false]) (zaI ws bs wc bc):=by
  refine qe Try.func27 rfl rfl ?clo ?rows ?_
  case clo=>exact zbf (by simp)
  case rows=>exact zaV ws bs wc bc
  rw[Try.ntmps27];simp only[zSt,zLc,zLn,qa,zCa,zNa];simp only[zaI,zMp,zMn,accV,qc];have hd1:decide (n<0)=false:=decide_eq_false (by omega)
  have hd2:decide (n >= (ws.length:Int))=true:=decide_eq_true (by omega)
  refine viaF (And.intro hd1 hd2) ?_;((first|refine qh [0,1,2] rfl rfl rfl (by decide) rfl (fun K hK=>?_)|refine qg [0,1,2] rfl rfl rfl rfl (by decide) (fun K hK=>?_));simp (disch:=(first|omega|(simp only[zaa,zLc,zLn,zSt,zaf]<;>omega)|fail)) only [go_sem];refine⟨_,_,_,_,_,_,(zeu ws bs wc bc),by first|rfl|simp (disch:=(first|omega|(simp only[zaa,zLc,zLn,zSt,zaf]<;>omega)|fail)) only [go_sem],by((repeat(refine⟨⟨_,rfl,rfl,?_,(by first|exact .inr rfl|exact .inl rfl),(by first|exact fun h=>h|exact fun _=>rfl|(intro h;cases h))⟩,?_⟩;· first|exact zao zaj|(simp[up_0,up_1,up_2,up_3,up_4,zaF,zau,adr];done)|(simp[zcg];done)|exact zao (by simp[zac];done)|simp[up_0,up_1,up_2,zdC,zaF,zau,adr]));exact trivial),by first|exact⟨rfl,rfl⟩|rfl,?_⟩;(try simp only[go_sem]);(first|refine hK _ _ _ ?_|refine hK _ _ _ _ ?_);clear hK K)
  refine viaF (And.intro hd1 hd2) ?_;refine qd rfl (by simp (disch:=(first|omega|(simp only[zaa,zLc,zLn,zSt,zaf]<;>omega)|fail)) only [go_sem,resA,zaK,Try.results27]<;>rfl) rfl rfl ?_ ?_
  . exact qb (by simp[zac])
  . exact zcx
theorem ztB(ws:List UInt64)(bs:List UInt8)(wc bc k:Nat)(A B:UInt64)(hk:k<ws.length):DoesI 27 #[.pointer (some ⟨0,0,none⟩),accV 3 (k:Int) A B] (zaI ws bs wc bc) (.tuple #[.int .u64 ((ziF 3 ws[k] A).toNat:Int),.bool true]) (zaI (ws.set k (kNow 3 ws[k] A B)) bs wc bc):=by
  refine qe Try.func27 rfl rfl ?clo ?rows ?_
  case clo=>exact zbf (by simp)
  case rows=>exact zaV ws bs wc bc
  rw[Try.ntmps27];simp only[zSt,zLc,zLn,qa,zCa,zNa];simp only[zaI,zMp,zMn,accV,qc];have hd1:decide ((k:Int)<0)=false:=decide_eq_false (by omega)
  have hd2:decide ((k:Int) >= (ws.length:Int))=false:=decide_eq_false (by omega)
  have hx:=zpS hk;have hll:=zly ws;refine viaF (And.intro hd1 (And.intro hd2 (And.intro hx hll))) ?_;((first|refine qh [0,1,2] rfl rfl rfl (by decide) rfl (fun K hK=>?_)|refine qg [0,1,2] rfl rfl rfl rfl (by decide) (fun K hK=>?_));simp (disch:=(first|omega|(simp only[zaa,zLc,zLn,zSt,zaf]<;>omega)|fail)) only [go_sem];refine⟨_,_,_,_,_,_,(zeu ws bs wc bc),by first|rfl|simp (disch:=(first|omega|(simp only[zaa,zLc,zLn,zSt,zaf]<;>omega)|fail)) only [go_sem],by((repeat(refine⟨⟨_,rfl,rfl,?_,(by first|exact .inr rfl|exact .inl rfl),(by first|exact fun h=>h|exact fun _=>rfl|(intro h;cases h))⟩,?_⟩;· first|exact zao zaj|(simp[up_0,up_1,up_2,up_3,up_4,zaF,zau,adr];done)|(simp[zcg];done)|exact zao (by simp[zac];done)|simp[up_0,up_1,up_2,zdC,zaF,zau,adr]));exact trivial),by first|exact⟨rfl,rfl⟩|rfl,?_⟩;(try simp only[go_sem]);(first|refine hK _ _ _ ?_|refine hK _ _ _ _ ?_);clear hK K)
  refine viaF (And.intro hd1 (And.intro hd2 (And.intro hx hll))) ?_;((first|refine qc1 rfl rfl fun K hK=>?_|refine qc3 rfl rfl fun K hK=>?_);simp (disch:=(first|omega|(simp only[sz]<;>omega)|fail)) only [go_sem];(first|refine⟨_,_,zem,?_⟩|refine⟨_,_,Does.com (zem),?_⟩);(try simp only[go_sem]);with_reducible refine hK _ _ ?_;clear hK K)
  simp only[zie];have hts:=zgG;have hta:=ziQ;have hk1:=qj k;refine viaF (And.intro hd1 (And.intro hd2 (And.intro hx (And.intro hll (And.intro hts (And.intro hta hk1)))))) ?_;((first|refine qc1 rfl rfl fun K hK=>?_|refine qc3 rfl rfl fun K hK=>?_);simp (disch:=(first|omega|(simp only[sz]<;>omega)|fail)) only [go_sem];(first|refine⟨_,_,zlQ ws[k] 3 (k:Int) A B,?_⟩|refine⟨_,_,Does.com (zlQ ws[k] 3 (k:Int) A B),?_⟩);(try simp only[go_sem]);with_reducible refine hK _ _ ?_;clear hK K)
  refine viaF (And.intro hd1 (And.intro hd2 (And.intro hx (And.intro hll hk1)))) ?_;rw[zlg];refine qd rfl (by simp (disch:=(first|omega|(simp only[zaa,zLc,zLn,zSt,zaf]<;>omega)|fail)) only [go_sem,resA,zaK,Try.results27]<;>rfl) rfl rfl ?_ ?_
  . exact qb (by simp[zac])
  . exact zcx
theorem zrk(ws:List UInt64)(bs:List UInt8)(wc bc:Nat)(n:Int)(A B:UInt64)(hn:n<0):DoesI 27 #[.pointer (some ⟨0,0,none⟩),accV 4 n A B] (zaI ws bs wc bc) (.tuple #[.int .u64 0,.bool false]) (zaI ws bs wc bc):=by
  refine qe Try.func27 rfl rfl ?clo ?rows ?_
  case clo=>exact zbf (by simp)
  case rows=>exact zaV ws bs wc bc
  rw[Try.ntmps27];simp only[zSt,zLc,zLn,qa,zCa,zNa];simp only[zaI,zMp,zMn,accV,qc];have hd1:decide (n<0)=true:=decide_eq_true hn;refine viaF hd1 ?_;refine qd rfl (by simp (disch:=(first|omega|(simp only[zaa,zLc,zLn,zSt,zaf]<;>omega)|fail)) only [go_sem,resA,zaK,Try.results27]<;>rfl) rfl rfl ?_ ?_
  . exact qb (by simp[zac])
  . exact zcx
theorem zrD(ws:List UInt64)(bs:List UInt8)(wc bc:Nat)(n:Int)(A B:UInt64)(hn:(ws.length:Int)<=n):DoesI 27 #[.pointer (some ⟨0,0,none⟩),accV 4 n A B] (zaI ws bs wc bc) (.tuple #[.int .u64 0,.bool false]) (zaI ws bs wc bc):=by
  refine qe Try.func27 rfl rfl ?clo ?rows ?_
  case clo=>exact zbf (by simp)
  case rows=>exact zaV ws bs wc bc
  rw[Try.ntmps27];simp only[zSt,zLc,zLn,qa,zCa,zNa];simp only[zaI,zMp,zMn,accV,qc];have hd1:decide (n<0)=false:=decide_eq_false (by omega)
  have hd2:decide (n >= (ws.length:Int))=true:=decide_eq_true (by omega)
  refine viaF (And.intro hd1 hd2) ?_;((first|refine qh [0,1,2] rfl rfl rfl (by decide) rfl (fun K hK=>?_)|refine qg [0,1,2] rfl rfl rfl rfl (by decide) (fun K hK=>?_));simp (disch:=(first|omega|(simp only[zaa,zLc,zLn,zSt,zaf]<;>omega)|fail)) only [go_sem];refine⟨_,_,_,_,_,_,(zeu ws bs wc bc),by first|rfl|simp (disch:=(first|omega|(simp only[zaa,zLc,zLn,zSt,zaf]<;>omega)|fail)) only [go_sem],by((repeat(refine⟨⟨_,rfl,rfl,?_,(by first|exact .inr rfl|exact .inl rfl),(by first|exact fun h=>h|exact fun _=>rfl|(intro h;cases h))⟩,?_⟩;· first|exact zao zaj|(simp[up_0,up_1,up_2,up_3,up_4,zaF,zau,adr];done)|(simp[zcg];done)|exact zao (by simp[zac];done)|simp[up_0,up_1,up_2,zdC,zaF,zau,adr]));exact trivial),by first|exact⟨rfl,rfl⟩|rfl,?_⟩;(try simp only[go_sem]);(first|refine hK _ _ _ ?_|refine hK _ _ _ _ ?_);clear hK K)
  refine viaF (And.intro hd1 hd2) ?_;refine qd rfl (by simp (disch:=(first|omega|(simp only[zaa,zLc,zLn,zSt,zaf]<;>omega)|fail)) only [go_sem,resA,zaK,Try.results27]<;>rfl) rfl rfl ?_ ?_
  . exact qb (by simp[zac])
  . exact zcx
theorem zs1(ws:List UInt64)(bs:List UInt8)(wc bc k:Nat)(A B:UInt64)(hk:k<ws.length):DoesI 27 #[.pointer (some ⟨0,0,none⟩),accV 4 (k:Int) A B] (zaI ws bs wc bc) (.tuple #[.int .u64 (ws[k].toNat:Int),.bool true]) (zaI (ws.set k (ws[k]+A)) bs wc bc):=by
  refine qe Try.func27 rfl rfl ?clo ?rows ?_
  case clo=>exact zbf (by simp)
  case rows=>exact zaV ws bs wc bc
  rw[Try.ntmps27];simp only[zSt,zLc,zLn,qa,zCa,zNa];simp only[zaI,zMp,zMn,accV,qc];have hd1:decide ((k:Int)<0)=false:=decide_eq_false (by omega)
  have hd2:decide ((k:Int) >= (ws.length:Int))=false:=decide_eq_false (by omega)
  have hx:=zpS hk;have hll:=zly ws;refine viaF (And.intro hd1 (And.intro hd2 (And.intro hx hll))) ?_;((first|refine qh [0,1,2] rfl rfl rfl (by decide) rfl (fun K hK=>?_)|refine qg [0,1,2] rfl rfl rfl rfl (by decide) (fun K hK=>?_));simp (disch:=(first|omega|(simp only[zaa,zLc,zLn,zSt,zaf]<;>omega)|fail)) only [go_sem];refine⟨_,_,_,_,_,_,(zeu ws bs wc bc),by first|rfl|simp (disch:=(first|omega|(simp only[zaa,zLc,zLn,zSt,zaf]<;>omega)|fail)) only [go_sem],by((repeat(refine⟨⟨_,rfl,rfl,?_,(by first|exact .inr rfl|exact .inl rfl),(by first|exact fun h=>h|exact fun _=>rfl|(intro h;cases h))⟩,?_⟩;· first|exact zao zaj|(simp[up_0,up_1,up_2,up_3,up_4,zaF,zau,adr];done)|(simp[zcg];done)|exact zao (by simp[zac];done)|simp[up_0,up_1,up_2,zdC,zaF,zau,adr]));exact trivial),by first|exact⟨rfl,rfl⟩|rfl,?_⟩;(try simp only[go_sem]);(first|refine hK _ _ _ ?_|refine hK _ _ _ _ ?_);clear hK K)
  refine viaF (And.intro hd1 (And.intro hd2 (And.intro hx hll))) ?_;((first|refine qc1 rfl rfl fun K hK=>?_|refine qc3 rfl rfl fun K hK=>?_);simp (disch:=(first|omega|(simp only[sz]<;>omega)|fail)) only [go_sem];(first|refine⟨_,_,zem,?_⟩|refine⟨_,_,Does.com (zem),?_⟩);(try simp only[go_sem]);with_reducible refine hK _ _ ?_;clear hK K)
  simp only[zie];have hts:=zgG;have hta:=ziQ;have hk1:=qj k;refine viaF (And.intro hd1 (And.intro hd2 (And.intro hx (And.intro hll (And.intro hts (And.intro hta hk1)))))) ?_;((first|refine qc1 rfl rfl fun K hK=>?_|refine qc3 rfl rfl fun K hK=>?_);simp (disch:=(first|omega|(simp only[sz]<;>omega)|fail)) only [go_sem];(first|refine⟨_,_,zlW ws[k] 4 (k:Int) A B,?_⟩|refine⟨_,_,Does.com (zlW ws[k] 4 (k:Int) A B),?_⟩);(try simp only[go_sem]);with_reducible refine hK _ _ ?_;clear hK K)
  refine viaF (And.intro hd1 (And.intro hd2 (And.intro hx (And.intro hll hk1)))) ?_;rw[zlg];refine qd rfl (by simp (disch:=(first|omega|(simp only[zaa,zLc,zLn,zSt,zaf]<;>omega)|fail)) only [go_sem,resA,zaK,Try.results27]<;>rfl) rfl rfl ?_ ?_
  . exact qb (by simp[zac])
  . exact zcx
theorem zr2(ws:List UInt64)(bs:List UInt8)(wc bc:Nat)(n:Int)(A B:UInt64)(hn:n<0):DoesI 27 #[.pointer (some ⟨0,0,none⟩),accV 5 n A B] (zaI ws bs wc bc) (.tuple #[.int .u64 0,.bool false]) (zaI ws bs wc bc):=by
  refine qe Try.func27 rfl rfl ?clo ?rows ?_
  case clo=>exact zbf (by simp)
  case rows=>exact zaV ws bs wc bc
  rw[Try.ntmps27];simp only[zSt,zLc,zLn,qa,zCa,zNa];simp only[zaI,zMp,zMn,accV,qc];have hd1:decide (n<0)=true:=decide_eq_true hn;refine viaF hd1 ?_;refine qd rfl (by simp (disch:=(first|omega|(simp only[zaa,zLc,zLn,zSt,zaf]<;>omega)|fail)) only [go_sem,resA,zaK,Try.results27]<;>rfl) rfl rfl ?_ ?_
  . exact qb (by simp[zac])
  . exact zcx
theorem zrh(ws:List UInt64)(bs:List UInt8)(wc bc:Nat)(n:Int)(A B:UInt64)(hn:(bs.length:Int)<=n):DoesI 27 #[.pointer (some ⟨0,0,none⟩),accV 5 n A B] (zaI ws bs wc bc) (.tuple #[.int .u64 0,.bool false]) (zaI ws bs wc bc):=by
  refine qe Try.func27 rfl rfl ?clo ?rows ?_
  case clo=>exact zbf (by simp)
  case rows=>exact zaV ws bs wc bc
  rw[Try.ntmps27];simp only[zSt,zLc,zLn,qa,zCa,zNa];simp only[zaI,zMp,zMn,accV,qc];have hd1:decide (n<0)=false:=decide_eq_false (by omega)
  have hd2:decide (n >= (bs.length:Int))=true:=decide_eq_true (by omega)
  refine viaF (And.intro hd1 hd2) ?_;((first|refine qh [0,1,2] rfl rfl rfl (by decide) rfl (fun K hK=>?_)|refine qg [0,1,2] rfl rfl rfl rfl (by decide) (fun K hK=>?_));simp (disch:=(first|omega|(simp only[zaa,zLc,zLn,zSt,zaf]<;>omega)|fail)) only [go_sem];refine⟨_,_,_,_,_,_,(ziE ws bs wc bc),by first|rfl|simp (disch:=(first|omega|(simp only[zaa,zLc,zLn,zSt,zaf]<;>omega)|fail)) only [go_sem],by((repeat(refine⟨⟨_,rfl,rfl,?_,(by first|exact .inr rfl|exact .inl rfl),(by first|exact fun h=>h|exact fun _=>rfl|(intro h;cases h))⟩,?_⟩;· first|exact zao zaj|(simp[up_0,up_1,up_2,up_3,up_4,zaF,zau,adr];done)|(simp[zcg];done)|exact zao (by simp[zac];done)|simp[up_0,up_1,up_2,zdC,zaF,zau,adr]));exact trivial),by first|exact⟨rfl,rfl⟩|rfl,?_⟩;(try simp only[go_sem]);(first|refine hK _ _ _ ?_|refine hK _ _ _ _ ?_);clear hK K)
  refine viaF (And.intro hd1 hd2) ?_;refine qd rfl (by simp (disch:=(first|omega|(simp only[zaa,zLc,zLn,zSt,zaf]<;>omega)|fail)) only [go_sem,resA,zaK,Try.results27]<;>rfl) rfl rfl ?_ ?_
  . exact qb (by simp[zac])
  . exact zcx
theorem ztO(ws:List UInt64)(bs:List UInt8)(wc bc k:Nat)(A B:UInt64)(hk:k<bs.length):DoesI 27 #[.pointer (some ⟨0,0,none⟩),accV 5 (k:Int) A B] (zaI ws bs wc bc) (.tuple #[.int .u64 (bs[k].toNat:Int),.bool true]) (zaI ws bs wc bc):=by
  refine qe Try.func27 rfl rfl ?clo ?rows ?_
  case clo=>exact zbf (by simp)
  case rows=>exact zaV ws bs wc bc
  rw[Try.ntmps27];simp only[zSt,zLc,zLn,qa,zCa,zNa];simp only[zaI,zMp,zMn,accV,qc];have hd1:decide ((k:Int)<0)=false:=decide_eq_false (by omega)
  have hd2:decide ((k:Int) >= (bs.length:Int))=false:=decide_eq_false (by omega)
  have hx:=zud hk;have hll:=zre bs;have hk1:=qj k;have hw:=zn1 bs[k];refine viaF (And.intro hd1 (And.intro hd2 (And.intro hx (And.intro hll (And.intro hk1 hw))))) ?_;((first|refine qh [0,1,2] rfl rfl rfl (by decide) rfl (fun K hK=>?_)|refine qg [0,1,2] rfl rfl rfl rfl (by decide) (fun K hK=>?_));simp (disch:=(first|omega|(simp only[zaa,zLc,zLn,zSt,zaf]<;>omega)|fail)) only [go_sem];refine⟨_,_,_,_,_,_,(ziE ws bs wc bc),by first|rfl|simp (disch:=(first|omega|(simp only[zaa,zLc,zLn,zSt,zaf]<;>omega)|fail)) only [go_sem],by((repeat(refine⟨⟨_,rfl,rfl,?_,(by first|exact .inr rfl|exact .inl rfl),(by first|exact fun h=>h|exact fun _=>rfl|(intro h;cases h))⟩,?_⟩;· first|exact zao zaj|(simp[up_0,up_1,up_2,up_3,up_4,zaF,zau,adr];done)|(simp[zcg];done)|exact zao (by simp[zac];done)|simp[up_0,up_1,up_2,zdC,zaF,zau,adr]));exact trivial),by first|exact⟨rfl,rfl⟩|rfl,?_⟩;(try simp only[go_sem]);(first|refine hK _ _ _ ?_|refine hK _ _ _ _ ?_);clear hK K)
  refine viaF (And.intro hd1 (And.intro hd2 (And.intro hx (And.intro hll (And.intro hk1 hw))))) ?_;refine qd rfl (by simp (disch:=(first|omega|(simp only[zaa,zLc,zLn,zSt,zaf]<;>omega)|fail)) only [go_sem,resA,zaK,Try.results27]<;>rfl) rfl rfl ?_ ?_
  . exact qb (by simp[zac])
  . exact zcx
theorem zrj(ws:List UInt64)(bs:List UInt8)(wc bc:Nat)(n:Int)(A B:UInt64)(hn:n<0):DoesI 27 #[.pointer (some ⟨0,0,none⟩),accV 6 n A B] (zaI ws bs wc bc) (.tuple #[.int .u64 0,.bool false]) (zaI ws bs wc bc):=by
  refine qe Try.func27 rfl rfl ?clo ?rows ?_
  case clo=>exact zbf (by simp)
  case rows=>exact zaV ws bs wc bc
  rw[Try.ntmps27];simp only[zSt,zLc,zLn,qa,zCa,zNa];simp only[zaI,zMp,zMn,accV,qc];have hd1:decide (n<0)=true:=decide_eq_true hn;refine viaF hd1 ?_;refine qd rfl (by simp (disch:=(first|omega|(simp only[zaa,zLc,zLn,zSt,zaf]<;>omega)|fail)) only [go_sem,resA,zaK,Try.results27]<;>rfl) rfl rfl ?_ ?_
  . exact qb (by simp[zac])
  . exact zcx
theorem zsH(ws:List UInt64)(bs:List UInt8)(wc bc:Nat)(n:Int)(A B:UInt64)(hn:(bs.length:Int)<=n):DoesI 27 #[.pointer (some ⟨0,0,none⟩),accV 6 n A B] (zaI ws bs wc bc) (.tuple #[.int .u64 0,.bool false]) (zaI ws bs wc bc):=by
  refine qe Try.func27 rfl rfl ?clo ?rows ?_
  case clo=>exact zbf (by simp)
  case rows=>exact zaV ws bs wc bc
  rw[Try.ntmps27];simp only[zSt,zLc,zLn,qa,zCa,zNa];simp only[zaI,zMp,zMn,accV,qc];have hd1:decide (n<0)=false:=decide_eq_false (by omega)
  have hd2:decide (n >= (bs.length:Int))=true:=decide_eq_true (by omega)
  refine viaF (And.intro hd1 hd2) ?_;((first|refine qh [0,1,2] rfl rfl rfl (by decide) rfl (fun K hK=>?_)|refine qg [0,1,2] rfl rfl rfl rfl (by decide) (fun K hK=>?_));simp (disch:=(first|omega|(simp only[zaa,zLc,zLn,zSt,zaf]<;>omega)|fail)) only [go_sem];refine⟨_,_,_,_,_,_,(ziE ws bs wc bc),by first|rfl|simp (disch:=(first|omega|(simp only[zaa,zLc,zLn,zSt,zaf]<;>omega)|fail)) only [go_sem],by((repeat(refine⟨⟨_,rfl,rfl,?_,(by first|exact .inr rfl|exact .inl rfl),(by first|exact fun h=>h|exact fun _=>rfl|(intro h;cases h))⟩,?_⟩;· first|exact zao zaj|(simp[up_0,up_1,up_2,up_3,up_4,zaF,zau,adr];done)|(simp[zcg];done)|exact zao (by simp[zac];done)|simp[up_0,up_1,up_2,zdC,zaF,zau,adr]));exact trivial),by first|exact⟨rfl,rfl⟩|rfl,?_⟩;(try simp only[go_sem]);(first|refine hK _ _ _ ?_|refine hK _ _ _ _ ?_);clear hK K)
  refine viaF (And.intro hd1 hd2) ?_;refine qd rfl (by simp (disch:=(first|omega|(simp only[zaa,zLc,zLn,zSt,zaf]<;>omega)|fail)) only [go_sem,resA,zaK,Try.results27]<;>rfl) rfl rfl ?_ ?_
  . exact qb (by simp[zac])
  . exact zcx
theorem zs2(ws:List UInt64)(bs:List UInt8)(wc bc k:Nat)(A B:UInt64)(hk:k<bs.length):DoesI 27 #[.pointer (some ⟨0,0,none⟩),accV 6 (k:Int) A B] (zaI ws bs wc bc) (.tuple #[.int .u64 0,.bool true]) (zaI ws (bs.set k A.toUInt8) wc bc):=by
  refine qe Try.func27 rfl rfl ?clo ?rows ?_
  case clo=>exact zbf (by simp)
  case rows=>exact zaV ws bs wc bc
  rw[Try.ntmps27];simp only[zSt,zLc,zLn,qa,zCa,zNa];simp only[zaI,zMp,zMn,accV,qc];have hd1:decide ((k:Int)<0)=false:=decide_eq_false (by omega)
  have hd2:decide ((k:Int) >= (bs.length:Int))=false:=decide_eq_false (by omega)
  have hll:=zre bs;have hk1:=qj k;have hw:=zrl A;refine viaF (And.intro hd1 (And.intro hd2 (And.intro hll (And.intro hk1 hw)))) ?_;((first|refine qh [0,1,2] rfl rfl rfl (by decide) rfl (fun K hK=>?_)|refine qg [0,1,2] rfl rfl rfl rfl (by decide) (fun K hK=>?_));simp (disch:=(first|omega|(simp only[zaa,zLc,zLn,zSt,zaf]<;>omega)|fail)) only [go_sem];refine⟨_,_,_,_,_,_,(ziE ws bs wc bc),by first|rfl|simp (disch:=(first|omega|(simp only[zaa,zLc,zLn,zSt,zaf]<;>omega)|fail)) only [go_sem],by((repeat(refine⟨⟨_,rfl,rfl,?_,(by first|exact .inr rfl|exact .inl rfl),(by first|exact fun h=>h|exact fun _=>rfl|(intro h;cases h))⟩,?_⟩;· first|exact zao zaj|(simp[up_0,up_1,up_2,up_3,up_4,zaF,zau,adr];done)|(simp[zcg];done)|exact zao (by simp[zac];done)|simp[up_0,up_1,up_2,zdC,zaF,zau,adr]));exact trivial),by first|exact⟨rfl,rfl⟩|rfl,?_⟩;(try simp only[go_sem]);(first|refine hK _ _ _ ?_|refine hK _ _ _ _ ?_);clear hK K)
  refine viaF (And.intro hd1 (And.intro hd2 (And.intro hll (And.intro hk1 hw)))) ?_;rw[zs0];refine qd rfl (by simp (disch:=(first|omega|(simp only[zaa,zLc,zLn,zSt,zaf]<;>omega)|fail)) only [go_sem,resA,zaK,Try.results27]<;>rfl) rfl rfl ?_ ?_
  . exact qb (by simp[zac])
  . exact zcx
variable {n me:Int}{ws ws':List UInt64}
theorem zhK{A B:UInt64}:wS 1 n A B ws=ws:=by
  unfold wS wAt;split
  . rfl
  . rename_i x h;split at h
    . cases h
    . obtain⟨hi,rfl⟩:=qf.1 h;exact set_same hi
theorem do_x(ws:List UInt64)(bs:List UInt8)(wc bc c:Nat)(n:Int)(A B:UInt64)(h1:1<=c)(h4:c<=4):DoesI 27 #[.pointer (some ⟨0,0,none⟩),accV c n A B] (zaI ws bs wc bc) (.tuple #[.int .u64 ((wT c n A ws).toNat:Int),.bool (wAt ws n).isSome]) (zaI (wS c n A B ws) bs wc bc):=by
  by_cases hn:n<0
  . simp only[wT,wS,zsw hn]
    match c,h1,h4 with
    | 1,_,_=>exact zr5 ws bs wc bc n A B hn
    | 2,_,_=>exact zsi ws bs wc bc n A B hn
    | 3,_,_=>exact zrF ws bs wc bc n A B hn
    | 4,_,_=>exact zrk ws bs wc bc n A B hn
  . by_cases hf:(ws.length:Int)<=n
    . simp only[wT,wS,zrW hf]
      match c,h1,h4 with
      | 1,_,_=>exact zsn ws bs wc bc n A B hf
      | 2,_,_=>exact zrx ws bs wc bc n A B hf
      | 3,_,_=>exact zsk ws bs wc bc n A B hf
      | 4,_,_=>exact zrD ws bs wc bc n A B hf
    . obtain⟨k,rfl⟩:∃k:Nat,n=k:=⟨n.toNat,by omega⟩
      have hk:k<ws.length:=by omega
      simp only[wT,wS,zsS hk,Int.toNat_natCast]
      match c,h1,h4 with
      | 1,_,_=>exact ztT ws bs wc bc k A B hk
      | 2,_,_=>exact ztL ws bs wc bc k A B hk
      | 3,_,_=>exact ztB ws bs wc bc k A B hk
      | 4,_,_=>exact zs1 ws bs wc bc k A B hk
theorem ztU(ws:List UInt64)(bs:List UInt8)(wc bc:Nat)(n:Int)(A B:UInt64):DoesI 27 #[.pointer (some ⟨0,0,none⟩),accV 5 n A B] (zaI ws bs wc bc) (.tuple #[.int .u64 ((bT n bs).toNat:Int),.bool (bAt bs n).isSome]) (zaI ws bs wc bc):=by
  by_cases hn:n<0
  . simp only[bT,zo5 hn];exact zr2 ws bs wc bc n A B hn
  . by_cases hf:(bs.length:Int)<=n
    . simp only[bT,zpa hf];exact zrh ws bs wc bc n A B hf
    . obtain⟨k,rfl⟩:∃k:Nat,n=k:=⟨n.toNat,by omega⟩
      have hk:k<bs.length:=by omega
      simp only[bT,zrd hk];exact ztO ws bs wc bc k A B hk
theorem zs7(ws:List UInt64)(bs:List UInt8)(wc bc:Nat)(n:Int)(A B:UInt64):DoesI 27 #[.pointer (some ⟨0,0,none⟩),accV 6 n A B] (zaI ws bs wc bc) (.tuple #[.int .u64 0,.bool (bAt bs n).isSome]) (zaI ws (bS n A.toUInt8 bs) wc bc):=by
  by_cases hn:n<0
  . simp only[bS,zo5 hn];exact zrj ws bs wc bc n A B hn
  . by_cases hf:(bs.length:Int)<=n
    . simp only[bS,zpa hf];exact zsH ws bs wc bc n A B hf
    . obtain⟨k,rfl⟩:∃k:Nat,n=k:=⟨n.toNat,by omega⟩
      have hk:k<bs.length:=by omega
      simp only[bS,zrd hk,Int.toNat_natCast];exact zs2 ws bs wc bc k A B hk
theorem zry(ws:List UInt64)(bs:List UInt8)(wc bc c:Nat)(n:Int)(A B:UInt64)(h1:1<=c)(h4:c<=4):DoesI 27 #[.pointer (some ⟨0,0,none⟩),.agg #[.int .u8 (c:Int),.int .i64 n,.int .u64 (A.toNat:Int),.int .u64 (B.toNat:Int)]] (zaI ws bs wc bc) (.tuple #[.int .u64 ((wT c n A ws).toNat:Int),.bool (wAt ws n).isSome]) [mB ws.length wc bs.length bc,wB (wS c n A B ws),bB bs]:=by
  have h:=do_x ws bs wc bc c n A B h1 h4;simp only[zaI,zhy]at h;exact h
theorem zsL(ws:List UInt64)(bs:List UInt8)(wc bc:Nat)(n:Int)(A B:UInt64):DoesI 27 #[.pointer (some ⟨0,0,none⟩),.agg #[.int .u8 ((5:Nat):Int),.int .i64 n,.int .u64 (A.toNat:Int),.int .u64 (B.toNat:Int)]] (zaI ws bs wc bc) (.tuple #[.int .u64 ((bT n bs).toNat:Int),.bool (bAt bs n).isSome]) [mB ws.length wc bs.length bc,wB ws,bB bs]:=ztU ws bs wc bc n A B
theorem zsx(ws:List UInt64)(bs:List UInt8)(wc bc:Nat)(n:Int)(A B:UInt64):DoesI 27 #[.pointer (some ⟨0,0,none⟩),.agg #[.int .u8 ((6:Nat):Int),.int .i64 n,.int .u64 (A.toNat:Int),.int .u64 (B.toNat:Int)]] (zaI ws bs wc bc) (.tuple #[.int .u64 0,.bool (bAt bs n).isSome]) [mB ws.length wc bs.length bc,wB ws,bB (bS n A.toUInt8 bs)]:=by
  have h:=zs7 ws bs wc bc n A B;simp only[zaI,zjq]at h;exact h
variable {v:Value}
theorem ztD{n:Nat}{u0:Value}(h:0<n)(h0:zac u0=true):∀u∈(#[.pointer (some ⟨0,0,none⟩),u0]:Array Value).toList,Clo (Kn n 0) u:=fun u hu=>by
  simp only[zMc,zNm,or_false]at hu;rcases hu with rfl|rfl
  . exact zfg h
  . exact qb h0
theorem z64:(((0:UInt64).toNat:Nat):Int)=0:=rfl
variable {E Ft:Emb}
theorem zbP{k:IntKind}{ns:List Int}:List.map (ren E) (zdJ k ns)=zdJ k ns:=(zao zaj).symm
theorem ztz(ws:List UInt64)(bs:List UInt8)(wc bc:Nat)(n:Int):DoesI 12 #[.pointer (some ⟨0,0,none⟩),.int .i64 n] (zaI ws bs wc bc) (.int .u64 ((wT 1 n 0 ws).toNat:Int)) (zaI ws bs wc bc):=by
  refine qe Try.func12 rfl rfl ?clo ?rows ?_
  case clo=>exact ztD (by simp) rfl
  case rows=>exact zaV ws bs wc bc
  rw[Try.ntmps12];simp only[zSt,zLc,zLn,qa,zCa,zNa];simp only[zaI,zMp,zMn];refine via ?_;have hdo:=zry ws bs wc bc 1 n 0 0 (by omega) (by omega)
  simp only[zhK,z64]at hdo;((first|refine qh [0,1,2] rfl rfl rfl (by decide) rfl (fun K hK=>?_)|refine qg [0,1,2] rfl rfl rfl rfl (by decide) (fun K hK=>?_));simp (disch:=(first|omega|(simp only[zaa,zLc,zLn,zSt,zaf]<;>omega)|fail)) only [go_sem];refine⟨_,_,_,_,_,_,hdo.x,by first|rfl|simp (disch:=(first|omega|(simp only[zaa,zLc,zLn,zSt,zaf]<;>omega)|fail)) only [go_sem],by((repeat(refine⟨⟨_,rfl,rfl,?_,(by first|exact .inr rfl|exact .inl rfl),(by first|exact fun h=>h|exact fun _=>rfl|(intro h;cases h))⟩,?_⟩;· first|exact zao zaj|(simp[up_0,up_1,up_2,up_3,up_4,zaF,zau,adr];done)|(simp[zcg];done)|exact zao (by simp[zac];done)|simp[up_0,up_1,up_2,zdC,zaF,zau,adr]));exact trivial),by first|exact⟨rfl,rfl⟩|rfl,?_⟩;(try simp only[go_sem]);(first|refine hK _ _ _ ?_|refine hK _ _ _ _ ?_);clear hK K)
  simp only[zbP,qi,if_false];refine via ?_;refine qd rfl (by simp (disch:=(first|omega|(simp only[zaa,zLc,zLn,zSt,zaf]<;>omega)|fail)) only [go_sem,resA,zaK,Try.results12]<;>rfl) rfl rfl ?_ ?_
  . exact qb rfl
  . exact zcx
abbrev yB(s:Nat):Blk:=⟨[.pointer (some ⟨0,0,none⟩),.int .i64 (s:Int)],72,false,none⟩
abbrev znf(ws:List UInt64)(bs:List UInt8)(wc bc s:Nat):List Blk:=[mB ws.length wc bs.length bc,wB ws,bB bs,yB s]
theorem zo2(ws:List UInt64)(bs:List UInt8)(wc bc s:Nat):∀b∈znf ws bs wc bc s,∀u∈b.cells,Clo (Kn (znf ws bs wc bc s).length 0) u:=by
  intro b hb u hu;simp only[zMc,zNm,or_false]at hb;rcases hb with rfl|rfl|rfl|rfl
  . simp only[zMc,zNm,or_false]at hu;rcases hu with rfl|rfl
    . exact zka (by simp)
    . exact zka (by simp)
  . exact qb (zaj u hu)
  . exact qb (zaj u hu)
  . simp only[zMc,zNm,or_false]at hu;rcases hu with rfl|rfl
    . exact zfg (by simp)
    . exact qb rfl
theorem ztS{n c:Nat}(h:0<n):∀u∈(yB s).cells,Clo (Kn n c) u:=fun u hu=>by
  simp only[zMc,zNm,or_false]at hu;rcases hu with rfl|rfl
  . exact zfg h
  . exact qb rfl
variable {l:List (Option Blk)}
theorem zty{c:Nat}(hm:0<m):∀(i:Nat) b,[mB wn wc bn bc,wB ws,bB bs,yB s][i]?=some b->b.ro=false->∃b1,(zaq (some (mB wn wc bn bc)::some (wB ws')::some (bB bs')::some (yB s')::l)).get i=some b1/\[mB wn wc bn bc,wB ws',bB bs',yB s'][i]?=some b1/\b1.ro=false/\∀u∈b1.cells,Clo (Kn m c) u
  | 0,b,hb,hro=>by simp at hb;subst hb;cases hro
  | 1,b,_,_=>⟨wB ws',rfl,rfl,rfl,fun u hu=>qb (ziH ws' u hu)⟩
  | 2,b,_,_=>⟨bB bs',rfl,rfl,rfl,fun u hu=>qb (ziG bs' u hu)⟩
  | 3,b,_,_=>⟨yB s',rfl,rfl,rfl,ztS hm⟩
  | i+4,b,hb,_=>by simp at hb
theorem ztN{c:Nat}{A B:UInt64}(h:3<m):∀u∈(#[.pointer (some ⟨3,0,none⟩),.int .u8 (c:Int),.int .i64 n,.int .u64 (A.toNat:Int),.int .u64 (B.toNat:Int)]:Array Value).toList,Clo (Kn m 0) u:=fun u hu=>by
  simp only[zMc,zNm,or_false]at hu;rcases hu with rfl|rfl|rfl|rfl|rfl
  . exact zfg h
  all_goals exact qb rfl
theorem zum(h:s<=1000000000000):IntKind.i64.wrap ((s:Int)+1)=((s+1:Nat):Int):=by rw[IntKind.wrap_i64];omega
theorem zsO(ws:List UInt64)(bs:List UInt8)(wc bc s c:Nat)(n:Int)(A B:UInt64)(h1:1<=c)(h4:c<=4)(hs:s<=1000000000000):DoesI 65 #[.pointer (some ⟨3,0,none⟩),.int .u8 (c:Int),.int .i64 n,.int .u64 (A.toNat:Int),.int .u64 (B.toNat:Int)] (znf ws bs wc bc s) (.int .u64 ((wT c n A ws).toNat:Int)) [mB ws.length wc bs.length bc,wB (wS c n A B ws),bB bs,yB (s+1)]:=by
  refine qe Try.func65 rfl rfl ?clo ?rows ?_
  case clo=>exact ztN (by simp)
  case rows=>exact zo2 ws bs wc bc s
  rw[Try.ntmps65];simp only[zSt,zLc,zLn,qa,zCa,zNa];simp only[znf,zMp,zMn];have hs1:=zum hs;refine viaF hs1 ?_;have hdo:=zry ws bs wc bc c n A B h1 h4;((first|refine qh [0,1,2] rfl rfl rfl (by decide) rfl (fun K hK=>?_)|refine qg [0,1,2] rfl rfl rfl rfl (by decide) (fun K hK=>?_));simp (disch:=(first|omega|(simp only[zaa,zLc,zLn,zSt,zaf]<;>omega)|fail)) only [go_sem];refine⟨_,_,_,_,_,_,hdo.x,by first|rfl|simp (disch:=(first|omega|(simp only[zaa,zLc,zLn,zSt,zaf]<;>omega)|fail)) only [go_sem],by((repeat(refine⟨⟨_,rfl,rfl,?_,(by first|exact .inr rfl|exact .inl rfl),(by first|exact fun h=>h|exact fun _=>rfl|(intro h;cases h))⟩,?_⟩;· first|exact zao zaj|(simp[up_0,up_1,up_2,up_3,up_4,zaF,zau,adr];done)|(simp[zcg];done)|exact zao (by simp[zac];done)|simp[up_0,up_1,up_2,zdC,zaF,zau,adr]));exact trivial),by first|exact⟨rfl,rfl⟩|rfl,?_⟩;(try simp only[go_sem]);(first|refine hK _ _ _ ?_|refine hK _ _ _ _ ?_);clear hK K)
  simp only[zbP,qi,if_false];refine via ?_;refine qd rfl (by simp (disch:=(first|omega|(simp only[zaa,zLc,zLn,zSt,zaf]<;>omega)|fail)) only [go_sem,resA,zaK,Try.results65]<;>rfl) rfl rfl ?_ ?_
  . exact qb rfl
  . exact zty (by simp)
abbrev yBr(s:Nat):Blk:=⟨[.pointer (some ⟨0,0,none⟩),.int .i64 (s:Int)],72,true,none⟩
abbrev dB(me:Int):Blk:=⟨[.pointer (some ⟨3,0,none⟩),.int .i64 me],74,true,none⟩
abbrev dRo(ws:List UInt64)(bs:List UInt8)(wc bc s:Nat)(me:Int):List Blk:=[mB ws.length wc bs.length bc,wBr ws,bBr bs,yBr s,dB me]
abbrev znw(ws:List UInt64)(bs:List UInt8)(wc bc s:Nat)(me:Int):List Blk:=[mB ws.length wc bs.length bc,wB ws,bB bs,yB s,dB me]
theorem dcl(ws:List UInt64)(bs:List UInt8)(wc bc s:Nat)(me:Int)(r1 r2 r3:Bool):∀b∈[mB ws.length wc bs.length bc,⟨wL ws,34,r1,none⟩,⟨bL bs,5,r2,none⟩,⟨[.pointer (some ⟨0,0,none⟩),.int .i64 (s:Int)],72,r3,none⟩,dB me],∀u∈b.cells,Clo (Kn 5 0) u:=by
  intro b hb u hu;simp only[zMc,zNm,or_false]at hb;rcases hb with rfl|rfl|rfl|rfl|rfl
  . simp only[zMc,zNm,or_false]at hu;rcases hu with rfl|rfl
    . exact zka (by simp)
    . exact zka (by simp)
  . exact qb (zaj u hu)
  . exact qb (zaj u hu)
  . simp only[zMc,zNm,or_false]at hu;rcases hu with rfl|rfl
    . exact zfg (by simp)
    . exact qb rfl
  . simp only[zMc,zNm,or_false]at hu;rcases hu with rfl|rfl
    . exact zfg (by simp)
    . exact qb rfl
theorem zq9{c:Nat}(hm:0<m):∀(i:Nat) b,[mB wn wc bn bc,wB ws,bB bs,yB s,dB me][i]?=some b->b.ro=false->∃b1,(zaq (some (mB wn wc bn bc)::some (wB ws')::some (bB bs')::some (yB s')::some (dB me)::l)).get i=some b1/\[mB wn wc bn bc,wB ws',bB bs',yB s',dB me][i]?=some b1/\b1.ro=false/\∀u∈b1.cells,Clo (Kn m c) u
  | 0,b,hb,hro=>by simp at hb;subst hb;cases hro
  | 1,b,_,_=>⟨wB ws',rfl,rfl,rfl,fun u hu=>qb (ziH ws' u hu)⟩
  | 2,b,_,_=>⟨bB bs',rfl,rfl,rfl,fun u hu=>qb (ziG bs' u hu)⟩
  | 3,b,_,_=>⟨yB s',rfl,rfl,rfl,ztS hm⟩
  | 4,b,hb,hro=>by simp at hb;subst hb;cases hro
  | i+5,b,hb,_=>by simp at hb
theorem znC{zs:List Value}(h:∀u∈zs,zac u=true):∀u∈(Value.pointer (some ⟨4,0,none⟩)::zs),Clo (Kn 5 0) u:=fun u hu=>by
  rcases List.mem_cons.1 hu with rfl|hu
  . exact zfg (by simp)
  . exact qb (h u hu)
theorem zrX(ws:List UInt64)(bs:List UInt8)(wc bc s:Nat)(me:Int):DoesX BT 29 #[.pointer (some ⟨4,0,none⟩)] (dRo ws bs wc bc s me) () (.pointer (some ⟨3,0,none⟩)) (dRo ws bs wc bc s me) [] ():=by
  refine DoesX.mk Try.func29 rfl rfl ?clo ?rows ?_
  case clo=>exact znC (zs:=[]) (by simp)
  case rows=>exact dcl ws bs wc bc s me true true true
  rw[Try.ntmps29];simp only[zSt,zLc,zLn,qa,zCa,zNa];simp only[dRo,zMp,zMn];refine via ?_;refine Goes.finS rfl (by simp (disch:=(first|omega|(simp only[zaa,zLc,zLn,zSt,zaf]<;>omega)|fail)) only [go_sem,resA,zaK,Try.results29]<;>rfl) ?_ rfl ?_
  . rfl
  . exact zfg (by simp)
theorem ztb(x:UInt64):((x.toNat:Int)==1)=(x==1):=by
  by_cases h:x=1
  . subst h;rfl
  . have h2:(x==1)=false:=by simpa using h
    rw[h2];simp only[beq_eq_false_iff_ne,ne_eq];intro z;exact h (UInt64.toNat_inj.1 (by have:(1:UInt64).toNat=1:=rfl;omega))
theorem zrz(ws:List UInt64)(bs:List UInt8)(wc bc s:Nat)(me:Int)(n:Int)(hs:s<=1000000000000):DoesI 60 #[.pointer (some ⟨4,0,none⟩),.int .i64 n] (znw ws bs wc bc s me) (.int .u64 ((wT 1 n 0 ws).toNat:Int)) [mB ws.length wc bs.length bc,wB ws,bB bs,yB (s+1),dB me]:=by
  refine qe Try.func60 rfl rfl ?clo ?rows ?_
  case clo=>exact znC (zs:=[.int .i64 n]) (by simp[zac])
  case rows=>exact dcl ws bs wc bc s me false false false
  rw[Try.ntmps60];simp only[zSt,zLc,zLn,qa,zCa,zNa];simp only[znw,zMp,zMn];refine via ?_;((first|refine qh [0,1,2,3,4] rfl rfl rfl (by decide) rfl (fun K hK=>?_)|refine qg [0,1,2,3,4] rfl rfl rfl rfl (by decide) (fun K hK=>?_));simp (disch:=(first|omega|(simp only[zaa,zLc,zLn,zSt,zaf]<;>omega)|fail)) only [go_sem,up_3,up_4];refine⟨_,_,_,_,_,_,zrX ws bs wc bc s me,by first|rfl|simp (disch:=(first|omega|(simp only[zaa,zLc,zLn,zSt,zaf]<;>omega)|fail)) only [go_sem,up_3,up_4],by((repeat(refine⟨⟨_,rfl,rfl,?_,(by first|exact .inr rfl|exact .inl rfl),(by first|exact fun h=>h|exact fun _=>rfl|(intro h;cases h))⟩,?_⟩;· first|exact zao zaj|(simp[up_0,up_1,up_2,up_3,up_4,zaF,zau,adr];done)|(simp[zcg];done)|exact zao (by simp[zac];done)|simp[up_0,up_1,up_2,zdC,zaF,zau,adr]));exact trivial),by first|exact⟨rfl,rfl⟩|rfl,?_⟩;(try simp only[go_sem]);(first|refine hK _ _ _ ?_|refine hK _ _ _ _ ?_);clear hK K)
  simp only[zbP,up_3,qi,if_false];refine via ?_;have hy:=zsO ws bs wc bc s 1 n 0 0 (by omega) (by omega) hs
  simp only[znf,zhK,z64]at hy;((first|refine qh [0,1,2,3] rfl rfl rfl (by decide) rfl (fun K hK=>?_)|refine qg [0,1,2,3] rfl rfl rfl rfl (by decide) (fun K hK=>?_));simp (disch:=(first|omega|(simp only[zaa,zLc,zLn,zSt,zaf]<;>omega)|fail)) only [go_sem,up_3,up_4];refine⟨_,_,_,_,_,_,hy.x,by first|rfl|simp (disch:=(first|omega|(simp only[zaa,zLc,zLn,zSt,zaf]<;>omega)|fail)) only [go_sem,up_3,up_4],by((repeat(refine⟨⟨_,rfl,rfl,?_,(by first|exact .inr rfl|exact .inl rfl),(by first|exact fun h=>h|exact fun _=>rfl|(intro h;cases h))⟩,?_⟩;· first|exact zao zaj|(simp[up_0,up_1,up_2,up_3,up_4,zaF,zau,adr];done)|(simp[zcg];done)|exact zao (by simp[zac];done)|simp[up_0,up_1,up_2,zdC,zaF,zau,adr]));exact trivial),by first|exact⟨rfl,rfl⟩|rfl,?_⟩;(try simp only[go_sem]);(first|refine hK _ _ _ ?_|refine hK _ _ _ _ ?_);clear hK K)
  simp only[zbP,up_3,qi,if_false];refine via ?_;refine qd rfl (by simp (disch:=(first|omega|(simp only[zaa,zLc,zLn,zSt,zaf]<;>omega)|fail)) only [go_sem,resA,zaK,Try.results60]<;>rfl) rfl rfl ?_ ?_
  . exact qb rfl
  . exact zq9 (by simp)
theorem zto(ws:List UInt64)(bs:List UInt8)(wc bc s:Nat)(me:Int)(n:Int)(A B:UInt64)(hs:s<=1000000000000):DoesI 57 #[.pointer (some ⟨4,0,none⟩),.int .i64 n,.int .u64 (A.toNat:Int),.int .u64 (B.toNat:Int)] (znw ws bs wc bc s me) (.bool (wT 3 n A ws==1)) [mB ws.length wc bs.length bc,wB (wS 3 n A B ws),bB bs,yB (s+1),dB me]:=by
  refine qe Try.func57 rfl rfl ?clo ?rows ?_
  case clo=>exact znC (zs:=[.int .i64 n,.int .u64 (A.toNat:Int),.int .u64 (B.toNat:Int)]) (by simp[zac])
  case rows=>exact dcl ws bs wc bc s me false false false
  rw[Try.ntmps57];simp only[zSt,zLc,zLn,qa,zCa,zNa];simp only[znw,zMp,zMn];have he:(((wT 3 n A ws).toNat:Int)==1)=(wT 3 n A ws==1):=ztb _;refine viaF he ?_;((first|refine qh [0,1,2,3,4] rfl rfl rfl (by decide) rfl (fun K hK=>?_)|refine qg [0,1,2,3,4] rfl rfl rfl rfl (by decide) (fun K hK=>?_));simp (disch:=(first|omega|(simp only[zaa,zLc,zLn,zSt,zaf]<;>omega)|fail)) only [go_sem,up_3,up_4];refine⟨_,_,_,_,_,_,zrX ws bs wc bc s me,by first|rfl|simp (disch:=(first|omega|(simp only[zaa,zLc,zLn,zSt,zaf]<;>omega)|fail)) only [go_sem,up_3,up_4],by((repeat(refine⟨⟨_,rfl,rfl,?_,(by first|exact .inr rfl|exact .inl rfl),(by first|exact fun h=>h|exact fun _=>rfl|(intro h;cases h))⟩,?_⟩;· first|exact zao zaj|(simp[up_0,up_1,up_2,up_3,up_4,zaF,zau,adr];done)|(simp[zcg];done)|exact zao (by simp[zac];done)|simp[up_0,up_1,up_2,zdC,zaF,zau,adr]));exact trivial),by first|exact⟨rfl,rfl⟩|rfl,?_⟩;(try simp only[go_sem]);(first|refine hK _ _ _ ?_|refine hK _ _ _ _ ?_);clear hK K)
  simp only[zbP,up_3,qi,if_false];refine viaF he ?_;have hy:=zsO ws bs wc bc s 3 n A B (by omega) (by omega) hs
  simp only[znf,zhK,z64]at hy;((first|refine qh [0,1,2,3] rfl rfl rfl (by decide) rfl (fun K hK=>?_)|refine qg [0,1,2,3] rfl rfl rfl rfl (by decide) (fun K hK=>?_));simp (disch:=(first|omega|(simp only[zaa,zLc,zLn,zSt,zaf]<;>omega)|fail)) only [go_sem,up_3,up_4];refine⟨_,_,_,_,_,_,hy.x,by first|rfl|simp (disch:=(first|omega|(simp only[zaa,zLc,zLn,zSt,zaf]<;>omega)|fail)) only [go_sem,up_3,up_4],by((repeat(refine⟨⟨_,rfl,rfl,?_,(by first|exact .inr rfl|exact .inl rfl),(by first|exact fun h=>h|exact fun _=>rfl|(intro h;cases h))⟩,?_⟩;· first|exact zao zaj|(simp[up_0,up_1,up_2,up_3,up_4,zaF,zau,adr];done)|(simp[zcg];done)|exact zao (by simp[zac];done)|simp[up_0,up_1,up_2,zdC,zaF,zau,adr]));exact trivial),by first|exact⟨rfl,rfl⟩|rfl,?_⟩;(try simp only[go_sem]);(first|refine hK _ _ _ ?_|refine hK _ _ _ _ ?_);clear hK K)
  simp only[zbP,up_3,qi,if_false];refine viaF he ?_;refine qd rfl (by simp (disch:=(first|omega|(simp only[zaa,zLc,zLn,zSt,zaf]<;>omega)|fail)) only [go_sem,resA,zaK,Try.results57]<;>rfl) rfl rfl ?_ ?_
  . exact qb rfl
  . exact zq9 (by simp)
theorem zrB(ws:List UInt64)(bs:List UInt8)(wc bc s:Nat)(me:Int):DoesI 62 #[.pointer (some ⟨4,0,none⟩)] (dRo ws bs wc bc s me) (.int .i64 me) (dRo ws bs wc bc s me):=by
  refine qe Try.func62 rfl rfl ?clo ?rows ?_
  case clo=>exact znC (zs:=[]) (by simp)
  case rows=>exact dcl ws bs wc bc s me true true true
  rw[Try.ntmps62];simp only[zSt,zLc,zLn,qa,zCa,zNa];simp only[dRo,zMp,zMn];refine via ?_;refine qd rfl (by simp (disch:=(first|omega|(simp only[zaa,zLc,zLn,zSt,zaf]<;>omega)|fail)) only [go_sem,resA,zaK,Try.results62]<;>rfl) rfl rfl ?_ ?_
  . exact qb rfl
  . exact zoF rfl
theorem zp4(ws:List UInt64)(bs:List UInt8)(wc bc s:Nat)(me:Int):DoesI 15 #[.pointer (some ⟨4,0,none⟩)] (dRo ws bs wc bc s me) (.int .i64 (s:Int)) (dRo ws bs wc bc s me):=by
  refine qe Try.func15 rfl rfl ?clo ?rows ?_
  case clo=>exact znC (zs:=[]) (by simp)
  case rows=>exact dcl ws bs wc bc s me true true true
  rw[Try.ntmps15];simp only[zSt,zLc,zLn,qa,zCa,zNa];simp only[dRo,zMp,zMn];refine via ?_;((first|refine qh [0,1,2,3,4] rfl rfl rfl (by decide) rfl (fun K hK=>?_)|refine qg [0,1,2,3,4] rfl rfl rfl rfl (by decide) (fun K hK=>?_));simp (disch:=(first|omega|(simp only[zaa,zLc,zLn,zSt,zaf]<;>omega)|fail)) only [go_sem,up_3,up_4];refine⟨_,_,_,_,_,_,zrX ws bs wc bc s me,by first|rfl|simp (disch:=(first|omega|(simp only[zaa,zLc,zLn,zSt,zaf]<;>omega)|fail)) only [go_sem,up_3,up_4],by((repeat(refine⟨⟨_,rfl,rfl,?_,(by first|exact .inr rfl|exact .inl rfl),(by first|exact fun h=>h|exact fun _=>rfl|(intro h;cases h))⟩,?_⟩;· first|exact zao zaj|(simp[up_0,up_1,up_2,up_3,up_4,zaF,zau,adr];done)|(simp[zcg];done)|exact zao (by simp[zac];done)|simp[up_0,up_1,up_2,zdC,zaF,zau,adr]));exact trivial),by first|exact⟨rfl,rfl⟩|rfl,?_⟩;(try simp only[go_sem]);(first|refine hK _ _ _ ?_|refine hK _ _ _ _ ?_);clear hK K)
  simp only[zbP,up_3,qi,if_false];refine via ?_;refine qd rfl (by simp (disch:=(first|omega|(simp only[zaa,zLc,zLn,zSt,zaf]<;>omega)|fail)) only [go_sem,resA,zaK,Try.results15]<;>rfl) rfl rfl ?_ ?_
  . exact qb rfl
  . exact zoF rfl
def ReadsI(f:FuncId)(args:Array Value)(l:List (Option Blk))(v:Value):Prop:=∃g c,Try.prog.funcs[f]?=some g/\g.body=some c/\Goes BT g (fun x=>∃h1,x=.done v h1 ()) (.run (zag g c args).1 (zag g c args).2 (zaq l) ())
variable {zs:Array Value}{f:FuncId}{g:Func}
theorem ReadsI.mk{c:Code}{args:Array Value}(hf:Try.prog.funcs[f]?=some g)(hb:g.body=some c)(hrun:Goes BT g (fun x=>∃h1,x=.done v h1 ()) (.run [.code c] (args.toList++qa (g.ntmps - args.size) undef) (zaq l) ())):ReadsI f args l v:=⟨g,c,hf,hb,hrun⟩
abbrev wpR(self:Int)(s:Nat):Blk:=⟨[.int .i64 self,.int .i64 (wr s)],58,true,none⟩
abbrev thB(self:Int)(W:Value)(c:Option Nat)(Pd:Value)(busy closed:Bool):Blk:=⟨[.int .i64 self,W,.chan c,Pd,.bool busy,.bool closed],53,true,none⟩
abbrev aR(c:Nat)(n:Int)(A B:UInt64):Blk:=⟨[.int .u8 (c:Int),.int .i64 n,.int .u64 (A.toNat:Int),.int .u64 (B.toNat:Int)],64,true,none⟩
theorem zsG(self:Int)(s:Nat):ReadsI 71 #[.pointer (some ⟨0,0,none⟩)] [some (wpR self s)] (.int .i64 self):=by
  refine ReadsI.mk Try.func71 rfl ?_;rw[Try.ntmps71];simp only[zSt,zLc,zLn,qa,zCa,zNa];refine via ?_;refine Goes.fin rfl (by simp (disch:=(first|omega|(simp only[zaa,zLc,zLn,zSt,zaf]<;>omega)|fail)) only [go_sem,resA,zaK,Try.results71]<;>rfl) ?_
  rfl
theorem ztf(self:Int)(W:Value)(c:Option Nat)(busy cl:Bool):ReadsI 26 #[.pointer (some ⟨0,0,none⟩)] [some (thB self W c (.pointer none) busy cl),none,none] (.tuple #[accZ,.bool false]):=by
  refine ReadsI.mk Try.func26 rfl ?_;rw[Try.ntmps26];simp only[zSt,zLc,zLn,qa,zCa,zNa];refine via ?_;refine Goes.fin rfl (by simp (disch:=(first|omega|(simp only[zaa,zLc,zLn,zSt,zaf]<;>omega)|fail)) only [go_sem,resA,zaK,Try.results26]<;>rfl) ?_
  rfl
theorem zsW(self:Int)(W:Value)(c:Option Nat)(busy cl:Bool)(k:Nat)(n:Int)(A B:UInt64):ReadsI 26 #[.pointer (some ⟨0,0,none⟩)] [some (thB self W c (.pointer (some ⟨2,0,none⟩)) busy cl),none,some (aR k n A B)] (.tuple #[accV k n A B,.bool true]):=by
  refine ReadsI.mk Try.func26 rfl ?_;rw[Try.ntmps26];simp only[zSt,zLc,zLn,qa,zCa,zNa];refine via ?_;refine Goes.fin rfl (by simp (disch:=(first|omega|(simp only[zaa,zLc,zLn,zSt,zaf]<;>omega)|fail)) only [go_sem,resA,zaK,Try.results26]<;>rfl) ?_
  rfl
def MakesI(f:FuncId)(args:Array Value)(l:List (Option Blk))(v:Value)(l1:List (Option Blk)):Prop:=∃g c,Try.prog.funcs[f]?=some g/\g.body=some c/\Goes BT g (fun x=>x=.done v (zaq l1) ()) (.run (zag g c args).1 (zag g c args).2 (zaq l) ())
theorem MakesI.mk{c:Code}{args:Array Value}{l1:List (Option Blk)}(hf:Try.prog.funcs[f]?=some g)(hb:g.body=some c)(hrun:Goes BT g (fun x=>x=.done v (zaq l1) ()) (.run [.code c] (args.toList++qa (g.ntmps - args.size) undef) (zaq l) ())):MakesI f args l v l1:=⟨g,c,hf,hb,hrun⟩
theorem Goes.finM{fn:Func}{todo:List Item}{tmps:List Value}{h:AHeap}(ht:retB todo=true)(hv:resA Try.prog fn tmps h=some v):Goes BT fn (fun x=>x=.done v h ()) (.run todo tmps h ()):=.ret ht hv (.here rfl)
theorem ztP(me:Int):MakesI 14 #[.pointer (some ⟨0,0,none⟩),.int .i64 me] [none] (.pointer (some ⟨2,0,none⟩)) [none,some ⟨[.pointer (some ⟨0,0,none⟩),.int .i64 0],72,false,some 0⟩,some ⟨[.pointer (some ⟨1,0,none⟩),.int .i64 me,.pointer none],74,false,some 0⟩]:=by
  refine MakesI.mk Try.func14 rfl ?_;rw[Try.ntmps14];simp only[zSt,zLc,zLn,qa,zCa,zNa];refine via ?_;exact Goes.finM rfl (by simp (disch:=(first|omega|(simp only[zaa,zLc,zLn,zSt,zaf]<;>omega)|fail)) only [go_sem,resA,zaK,Try.results14]<;>rfl)
theorem ztl(a b:Nat)(ha:a<=2097152)(hb:b<=1048576):MakesI 19 #[.int .i64 (a:Int),.int .i64 (b:Int)] [] (.tuple #[.pointer (some ⟨2,0,none⟩),.int .i64 0]) [some ⟨zbu [.int .u64 0] a,34,false,some 0⟩,some ⟨zbu [.int .u8 0] b,5,false,some 0⟩,some ⟨[.slice (some ⟨0,0,none⟩) a a,.slice (some ⟨1,0,none⟩) b b],81,false,some 0⟩]:=by
  refine MakesI.mk Try.func19 rfl ?_;rw[Try.ntmps19];simp only[zSt,zLc,zLn,qa,zCa,zNa];have h1:decide ((a:Int)<0)=false:=decide_eq_false (by omega)
  have h2:decide ((b:Int)<0)=false:=decide_eq_false (by omega)
  have h3:decide ((a:Int) > 2097152)=false:=decide_eq_false (by omega)
  have h4:decide ((b:Int) > 1048576)=false:=decide_eq_false (by omega)
  refine viaF (And.intro h1 (And.intro h2 (And.intro h3 h4))) ?_;exact Goes.finM rfl (by simp (disch:=(first|omega|(simp only[zaa,zLc,zLn,zSt,zaf]<;>omega)|fail)) only [go_sem,resA,zaK,Try.results19]<;>rfl)
variable {w:World}
theorem zfV{c:Code}{A:Conf Unit->Prop}{Q:Value->AHeap->Prop}(hf:Try.prog.funcs[f]?=some g)(hb:g.body=some c)(G:Goes BT g A (.run (zag g c zs).1 (zag g c zs).2 (zaq l) ()))(hA:∀x,A x->∃v h1,x=.done v h1 ()/\Q v h1)(hH:Holds Ft (zaq l) w)(hst:∀u∈zs,Stab (Kn l.length 0) Ft u)(hc:∀n b,(zaq l).get n=some b->∀u∈b.cells,Stab (Kn l.length 0) Ft u)(hl:l.length<=VB):
    TCalls Try.prog f (zs.map (ren Ft)) w fun e w'=>∃v h1 Ft',e=.returned (ren Ft' v)/\Q v h1/\Holds Ft' h1 w'/\Same (Kn l.length 0) Ft Ft'/\Kept w (fun b=>∃n bb,(zaq l).get n=some bb/\bb.ro=false/\Ft.blk n=b) w'/\∀n b,h1.get n=some b->b.ro=false->Ft'.blk n<w.heap.size->∃n' bb,(zaq l).get n'=some bb/\bb.ro=false/\Ft.blk n'=Ft'.blk n:=by
  intro cs
  let b:Frame:={ (default:Frame) with fn:=f,kind:=.normal }
  have henter:Frame.enter Try.prog f (zs.map (ren Ft)) .normal=b.at (actF Ft (zag g c zs).2) (zag g c zs).1:=by
    simp[Frame.enter,Frame.at,hf,hb,b,actF,zag,zaW]
  have hn:(zaq l).next=l.length:=zaa l;have hlow:∀n b,(zaq l).get n=some b->n<l.length:=fun n b hb=>by
    have:=zbA l n b hb;rw[hn]at this;exact this
  have hI:InvC BT Ft w (fun b=>∃n bb,(zaq l).get n=some bb/\bb.ro=false/\Ft.blk n=b) (.run (zag g c zs).1 (zag g c zs).2 (zaq l) ()) w:=by
    refine⟨⟨hH,trivial,fun u hu=>?_,fun n bb hb u hu=>?_,fun n bb hb=>⟨.inl ?_,?_⟩,fun n h1 h2=>?_,fun n hn'=>?_,Kept.refl _ _,fun n bb h1 h2 _=>⟨n,bb,h1,h2,rfl⟩,fun _ h=>h.elim,fun _ _ _ z=>z⟩,by show(zaq l).next<=VB;rw[hn];exact hl⟩
    . have hu:u∈(zag g c zs).2:=hu;simp only[zag,List.mem_append]at hu;show Stab (Kn (zaq l).next 0) Ft u;rw[hn];rcases hu with hu|hu
      . exact hst u (by simpa using hu)
      . rw[List.eq_of_mem_replicate hu];exact Stab.undef
    . show Stab (Kn (zaq l).next 0) Ft u;rw[hn];exact hc n bb hb u hu
    . show n<(zaq l).next;rw[hn];exact hlow n bb hb
    . have:=hlow n bb hb;omega
    . have h2:n<VB+0:=h2;omega
    . rcases hn' with hn'|⟨_,hn'⟩
      . have hn':n<(zaq l).next:=hn';show n<VB+0;omega
      . exact hn'
  obtain⟨c',F',w',m',hAc,hst',hS,hI',hs,_,_⟩:=G.simul b cs Ft w w _ _ hf rfl rfl hI;obtain⟨v,h1,rfl,hQ⟩:=hA c' hAc;obtain⟨fr,rfl,hfn,hleave⟩:=hS;refine⟨.returned (ren F' v),w',fr,⟨v,h1,F',rfl,hQ,hI'.1.holds,?_,hI'.1.kept,hI'.1.own⟩,by rw[henter];exact hst',hfn,hleave⟩
  have hs:Same (Kn (zaq l).next 0) Ft F':=hs;rw[hn]at hs;exact hs
theorem zfj{args:Array Value}{l l':List Blk}(D:DoesI f args l v l')(hH:Holds Ft (zaq (l.map some)) w)(hl:l.length<=VB):
    TCalls Try.prog f (args.map (ren Ft)) w fun e w'=>∃h1 Ft',e=.returned (ren Ft' v)/\zm4 l.length l l' h1/\Holds Ft' h1 w'/\Same (Kn l.length 0) Ft Ft'/\Kept w (fun b=>∃(n:Nat) (bb:Blk),l[n]?=some bb/\bb.ro=false/\Ft.blk n=b) w':=by
  obtain⟨g,c,h1,a1,a2,a3,a4,a5,a6,a7,a8,G⟩:=D;have hget:∀n b,(zaq (l.map some)).get n=some b↔l[n]?=some b:=fun n b=>by
    rw[zaN,List.getElem?_map];cases l[n]?<;>simp
  have hlen:(l.map some).length=l.length:=List.length_map ..;refine(zfV (Q:=fun v' h'=>v'=v/\h'=h1) a1 a3 G (fun x hx=>⟨v,h1,hx,rfl,rfl⟩) hH (fun u hu=>by rw[hlen];exact(a4 u (by simpa using hu)).stab Ft) (fun n b hb u hu=>by rw[hlen];exact(a5 b (List.mem_of_getElem? ((hget n b).1 hb)) u hu).stab Ft) (by rw[hlen];exact hl)).mono fun e w' ⟨v',h',Ft',e1,⟨e2,e3⟩,e4,e5,e6,_⟩=>?_
  subst e2 e3;rw[hlen]at e5;exact⟨h',Ft',e1,a8,e4,e5,⟨e6.os,e6.tape,e6.output,e6.size,fun b h1 h2=>e6.block b h1 fun⟨n,bb,z1,z2,z3⟩=>h2 ⟨n,bb,(hget n bb).1 z1,z2,z3⟩⟩⟩
def embB(bs:List Nat):Emb:=⟨fun n=>bs.getD n 0,fun _=>0,fun _=>0⟩
theorem znY(hb:∀n,Ft.base n=0)(h:∀n b,l[n]?=some (some b)->b.grow=none/\∃(post:Array Value) (fr:Nat×Nat),w.heap[Ft.blk n]?=some (.cells ((b.cells.map (ren Ft)).toArray++post) b.elem fr)/\(b.ro=false->fr=(0,0)))(ha:∀n m b c,l[n]?=some (some b)->l[m]?=some (some c)->n≠m->b.ro=false->Ft.blk n≠Ft.blk m):Holds Ft (zaq l) w:=by
  have hget:∀n b,(zaq l).get n=some b->l[n]?=some (some b):=fun n b hb=>by
    rw[zaN]at hb;cases hx:l[n]? with
    | none=>rw[hx]at hb;cases hb
    | some y=>rw[hx]at hb;exact congrArg some hb
  refine⟨fun n b hn=>?_,fun n m b c h1 h2=>ha n m b c (hget n b h1) (hget m c h2)⟩;obtain⟨h0,post,fr,h1,h2⟩:=h n b (hget n b hn);exact⟨#[],post,fr,by simpa using h1,(hb n).symm,h2,(by rw[h0];intro z;cases z),(by rw[h0];intro s z;cases z)⟩
def zcl(mn:Bool)(OB WB:Nat->Prop)(F:Emb)(S:St)(w:World)(S':St)(v:Value)(e:Ending)(w':World):Prop :=
  ∃F',Same (fun n=>n<VB+S.length) F F'/\e=.returned (ren F' v)/\Rep mn OB WB F' S' w'/\Kept w (fpS mn F S) w'/\∀b,fpS mn F' S' b->fpS mn F S b\/w.heap.size<=b
theorem zfv(ws:List UInt64):(wL ws).toArray=zlq ws:=by simp[zdJ,zlq]
theorem zfs(bs:List UInt8):(bL bs).toArray=zlJ bs:=by simp[zdJ,zlJ]
def embC(bs:List (Nat×Nat)):Emb:=⟨fun n=>(bs.getD n (0,0)).1,fun n=>(bs.getD n (0,0)).2,fun _=>0⟩
theorem zpq(h:∀n b,l[n]?=some (some b)->b.grow=none/\∃(pre post:Array Value) (fr:Nat×Nat),w.heap[Ft.blk n]?=some (.cells (pre++(b.cells.map (ren Ft)).toArray++post) b.elem fr)/\pre.size=Ft.base n/\(b.ro=false->fr=(0,0)))(ha:∀n m b c,l[n]?=some (some b)->l[m]?=some (some c)->n≠m->b.ro=false->Ft.blk n≠Ft.blk m):Holds Ft (zaq l) w:=by
  have hget:∀n b,(zaq l).get n=some b->l[n]?=some (some b):=fun n b hb=>by
    rw[zaN]at hb;cases hx:l[n]? with
    | none=>rw[hx]at hb;cases hb
    | some y=>rw[hx]at hb;exact congrArg some hb
  refine⟨fun n b hn=>?_,fun n m b c h1 h2=>ha n m b c (hget n b h1) (hget m c h2)⟩;obtain⟨h0,pre,post,fr,h1,h2,h3⟩:=h n b (hget n b hn);exact⟨pre,post,fr,h1,h2,h3,(by rw[h0];intro z;cases z),(by rw[h0];intro s z;cases z)⟩
section
variable {w w':World}{m bw bb d v km kd:Nat}{X:MemP km}{Y:DirP kd}{ws ws':List UInt64}{bs bs':List UInt8}{me:Int}{s:Nat}
theorem MemO.ne1(h:MemO w m bw bb X ws bs):m≠bw:=zbc h.hm h.hw (by decide)
theorem MemO.ne2(h:MemO w m bw bb X ws bs):m≠bb:=zbc h.hm h.hb (by decide)
theorem MemO.ne3(h:MemO w m bw bb X ws bs):bw≠bb:=zbc h.hw h.hb (by decide)
abbrev embM(m km bw:Nat)(X:MemP km)(bb:Nat)(t:List (Nat×Nat)):Emb:=embC ((m,km)::(bw,X.wpre.size)::(bb,X.bpre.size)::t)
theorem zox(h:MemO w m bw bb X ws bs):Holds (embM m km bw X bb []) (zaq ((zaI ws bs X.wcap X.bcap).map some)) w:=by
  refine zpq (fun n b hn=>?_) (fun n n' b c h1 h2 hne _=>?_)
  . match n,hn with
    | 0,hn =>
      obtain rfl:b=mB ws.length X.wcap bs.length X.bcap:=by simpa using hn.symm
      exact⟨rfl,X.pre,X.post,(0,0),by show w.heap[m]?=_;rw[h.hm];simp[adr,embC],X.hn,fun _=>rfl⟩
    | 1,hn =>
      obtain rfl:b=wB ws:=by simpa using hn.symm
      exact⟨rfl,X.wpre,X.wpost,(0,0),by show w.heap[bw]?=_;rw[h.hw,zbP,zfv],rfl,fun _=>rfl⟩
    | 2,hn =>
      obtain rfl:b=bB bs:=by simpa using hn.symm
      exact⟨rfl,X.bpre,X.bpost,(0,0),by show w.heap[bb]?=_;rw[h.hb,zbP,zfs],rfl,fun _=>rfl⟩
    | n+3,hn=>simp at hn
  . have l1:n<3:=by have:=(qf.1 h1).1;simpa using this
    have l2:n'<3:=by have:=(qf.1 h2).1;simpa using this
    have e1:=h.ne1;have e2:=h.ne2;have e3:=h.ne3
    match n,n',l1,l2,hne with
    | 0,1,_,_,_=>exact e1
    | 0,2,_,_,_=>exact e2
    | 1,0,_,_,_=>exact e1.symm
    | 1,2,_,_,_=>exact e3
    | 2,0,_,_,_=>exact e2.symm
    | 2,1,_,_,_=>exact e3.symm
    | 0,0,_,_,h=>exact absurd rfl h
    | 1,1,_,_,h=>exact absurd rfl h
    | 2,2,_,_,h=>exact absurd rfl h
theorem zio(h:MemO w m bw bb X ws bs)(hd:DirO w ⟨d,v⟩ m km me Y s){r1 r2 r3:Bool}:Holds (embM m km bw X bb [(v,Y.vpre.size),(d,kd)]) (zaq ([mB ws.length X.wcap bs.length X.bcap,⟨wL ws,34,r1,none⟩,⟨bL bs,5,r2,none⟩,⟨[.pointer (some ⟨0,0,none⟩),.int .i64 (s:Int)],72,r3,none⟩,dB me].map some)) w:=by
  have e1:=h.ne1;have e2:=h.ne2;have e3:=h.ne3;have f0:m≠v:=zbc h.hm hd.hv (by decide)
  have f1:m≠d:=zbc h.hm hd.hd (by decide)
  have f2:bw≠v:=zbc h.hw hd.hv (by decide)
  have f3:bw≠d:=zbc h.hw hd.hd (by decide)
  have f4:bb≠v:=zbc h.hb hd.hv (by decide)
  have f5:bb≠d:=zbc h.hb hd.hd (by decide)
  have f6:v≠d:=zbc hd.hv hd.hd (by decide)
  refine zpq (fun n b hn=>?_) (fun n n' b c h1 h2 hne _=>?_)
  . match n,hn with
    | 0,hn =>
      obtain rfl:b=mB ws.length X.wcap bs.length X.bcap:=by simpa using hn.symm
      exact⟨rfl,X.pre,X.post,(0,0),by show w.heap[m]?=_;rw[h.hm];simp[adr,embC],X.hn,fun _=>rfl⟩
    | 1,hn =>
      obtain rfl:b=⟨wL ws,34,r1,none⟩:=by simpa using hn.symm
      exact⟨rfl,X.wpre,X.wpost,(0,0),by show w.heap[bw]?=_;rw[h.hw];simp only[zbP];rw[zfv],rfl,fun _=>rfl⟩
    | 2,hn =>
      obtain rfl:b=⟨bL bs,5,r2,none⟩:=by simpa using hn.symm
      exact⟨rfl,X.bpre,X.bpost,(0,0),by show w.heap[bb]?=_;rw[h.hb];simp only[zbP];rw[zfs],rfl,fun _=>rfl⟩
    | 3,hn =>
      obtain rfl:b=⟨[.pointer (some ⟨0,0,none⟩),.int .i64 (s:Int)],72,r3,none⟩:=by simpa using hn.symm
      exact⟨rfl,Y.vpre,Y.vpost,(0,0),by show w.heap[v]?=_;rw[hd.hv];simp[adr,embC],rfl,fun _=>rfl⟩
    | 4,hn =>
      obtain rfl:b=dB me:=by simpa using hn.symm
      exact⟨rfl,Y.pre,Y.post,(0,0),by show w.heap[d]?=_;rw[hd.hd];simp[adr,embC],Y.hn,fun _=>rfl⟩
    | n+5,hn=>simp at hn
  . have l1:n<5:=by have:=(qf.1 h1).1;simpa using this
    have l2:n'<5:=by have:=(qf.1 h2).1;simpa using this
    match n,n',l1,l2,hne with
    | 0,0,_,_,h=>exact absurd rfl h
    | 1,1,_,_,h=>exact absurd rfl h
    | 2,2,_,_,h=>exact absurd rfl h
    | 3,3,_,_,h=>exact absurd rfl h
    | 4,4,_,_,h=>exact absurd rfl h
    | 0,1,_,_,_=>exact e1
    | 0,2,_,_,_=>exact e2
    | 0,3,_,_,_=>exact f0
    | 0,4,_,_,_=>exact f1
    | 1,0,_,_,_=>exact e1.symm
    | 1,2,_,_,_=>exact e3
    | 1,3,_,_,_=>exact f2
    | 1,4,_,_,_=>exact f3
    | 2,0,_,_,_=>exact e2.symm
    | 2,1,_,_,_=>exact e3.symm
    | 2,3,_,_,_=>exact f4
    | 2,4,_,_,_=>exact f5
    | 3,0,_,_,_=>exact f0.symm
    | 3,1,_,_,_=>exact f2.symm
    | 3,2,_,_,_=>exact f4.symm
    | 3,4,_,_,_=>exact f6
    | 4,0,_,_,_=>exact f1.symm
    | 4,1,_,_,_=>exact f3.symm
    | 4,2,_,_,_=>exact f5.symm
    | 4,3,_,_,_=>exact f6.symm
end
theorem zep{l l':List Blk}{h1:AHeap}{Ft':Emb}{w':World}(T:zm4 l.length l l' h1)(H:Holds Ft' h1 w')(hs:Same (Kn l.length 0) Ft Ft'){i:Nat}{b b':Blk}(hi:l[i]?=some b)(hro:b.ro=false)(hi':l'[i]?=some b'):
    ∃pre post:Array Value,w'.heap[Ft.blk i]?=some (.cells (pre++(b'.cells.map (ren Ft')).toArray++post) b'.elem (0,0))/\pre.size=Ft.base i:=by
  obtain⟨b1,e1,e2,e3,_⟩:=T i b hi hro;rw[hi']at e2;cases e2;obtain⟨pre,post,fr,r1,r2,r3,_⟩:=H.row i b' e1;obtain⟨s1,s2,_⟩:=hs i (.inl (qf.1 hi).1);rw[<-s1]at r1;rw[<-s2]at r2;rw[r3 e3]at r1;exact⟨pre,post,r1,r2⟩
section
variable {mn:Bool}{OB WB:Nat->Prop}{F:Emb}{S:St}{w w':World}
theorem zfi{k:Nat}{o:Ob}(h:S[k]?=some o):S.set k o=S:=List.ext_getElem? fun j=>by
  by_cases z:k=j
  . subst z;rw[qn (zaG h),h]
  . rw[ql z]
theorem zlr{k:Nat}{o0 o1:Ob}(R:Rep mn OB WB F S w)(hk:S[k]?=some o0)(hbl:zax mn F k o1=zax mn F k o0)(hnw:∀a b c d e,o0≠Ob.wp a b c d e)(hmm:(∃ws bs,o0=Ob.mem ws bs)->∃ws bs,o1=Ob.mem ws bs)(hrb:rowB o1=true->rowB o0=true)(K:Kept w (fun b=>b∈zax mn F k o0) w')(hat:obAt mn OB WB F (S.set k o1) w' k o1):
    Rep mn OB WB F (S.set k o1) w'/\Kept w (fpS mn F S) w'/\∀b,fpS mn F (S.set k o1) b->fpS mn F S b:=by
  have hkl:=zaG hk;have hlen:(S.set k o1).length=S.length:=by simp
  have hself:(S.set k o1)[k]?=some o1:=qn hkl;have hne:∀i,i≠k->(S.set k o1)[i]?=S[i]?:=fun i hi=>ql (Ne.symm hi);have hblk:∀(i:Nat) ob2,(S.set k o1)[i]?=some ob2->∃ob,S[i]?=some ob/\zax mn F i ob2=zax mn F i ob:=fun i ob2 hi=>by
    by_cases z:i=k
    . subst z;rw[hself]at hi;cases hi;exact⟨_,hk,hbl⟩
    . rw[hne i z]at hi;exact⟨_,hi,rfl⟩
  have hkept:∀(i:Nat) ob,i≠k->S[i]?=some ob->∀b∈zax mn F i ob,w'.heap[b]?=w.heap[b]?:=fun i ob hi ho b hb=>by
    have hlt:b<w.heap.size:=by
      obtain⟨c,el,fr,h1⟩:=zfF (R.at' i ob ho) b hb;exact zab h1
    exact K.block b hlt fun z=>R.apart i k _ _ hi ho hk b hb z
  refine⟨⟨fun i ob2 hi hr=>?_,fun i ob2 hi=>?_,fun i i' ob ob' hne' hi hi' x hx hx'=>?_,fun i ob2 hi x hx hW=>?_,fun b hb=>Nat.lt_of_lt_of_le (R.wlow b hb) K.size⟩,⟨K.os,K.tape,K.output,K.size,fun b hl hb=>K.block b hl fun z=>hb ⟨k,_,hk,z⟩⟩,fun b ⟨i,ob2,hi,hb⟩=>?_⟩
  . by_cases z:i=k
    . subst z;rw[hself]at hi;cases hi;exact R.base i _ hk (hrb hr)
    . rw[hne i z]at hi;exact R.base i _ hi hr
  . by_cases z:i=k
    . subst z;rw[hself]at hi;cases hi;exact hat
    . rw[hne i z]at hi;have h1:=zdL (R.at' i _ hi) (hkept i _ z hi);cases ob2 with
      | port m me st =>
        obtain⟨z1,ws0,bs0,z2⟩:=h1;refine⟨z1,?_⟩;by_cases e:m=k
        . subst e;rw[hk]at z2;obtain⟨ws1,bs1,rfl⟩:=hmm ⟨_,_,Option.some.inj z2⟩;exact⟨_,_,hself⟩
        . exact⟨ws0,bs0,(hne m e).trans z2⟩
      | thr a b c d e f=>intro y;obtain⟨a1,a2,a3,a4⟩:=h1 y;exact⟨a1,fun c hc=>by rw[hlen];exact a2 c hc,fun p hp=>by rw[hlen];exact a3 p hp,a4⟩
      | mem=>exact h1
      | wp=>exact h1
      | acc=>exact h1
      | box=>exact h1
  . obtain⟨o1,g1,g2⟩:=hblk i ob hi;obtain⟨o2,g3,g4⟩:=hblk i' ob' hi';exact R.apart i i' o1 o2 hne' g1 g3 x (g2▸hx) (g4▸hx')
  . by_cases z:i=k
    . subst z;rw[hself]at hi;cases hi;obtain⟨_,_,_,_,_,h⟩:=R.waits i _ hk x (hbl▸hx) hW;exact absurd h (hnw _ _ _ _ _)
    . rw[hne i z]at hi;exact R.waits i _ hi x hx hW
  . obtain⟨ob,h1,h2⟩:=hblk i ob2 hi;exact⟨i,ob,h1,h2▸hb⟩
theorem zlz{k:Nat}{X:MemP (F.base (VB+k))}(R:Rep mn OB WB F S w)(hk:S[k]?=some (.mem ws bs))(K:Kept w (fun b=>b=aux (F.slack (VB+k)) 1\/b=aux (F.slack (VB+k)) 2) w')(hm:MemO w' (F.blk (VB+k)) (aux (F.slack (VB+k)) 1) (aux (F.slack (VB+k)) 2) X ws' bs'):
    Rep mn OB WB F (S.set k (.mem ws' bs')) w'/\Kept w (fpS mn F S) w'/\∀b,fpS mn F (S.set k (.mem ws' bs')) b->fpS mn F S b :=
  zlr R hk rfl (fun _ _ _ _ _ z=>by cases z) (fun _=>⟨_,_,rfl⟩) id ⟨K.os,K.tape,K.output,K.size,fun b hl hb=>K.block b hl fun z=>hb (by rcases z with rfl|rfl<;>simp[zax])⟩ ⟨X,hm⟩
theorem zgJ{k:Nat}(R:Rep mn OB WB F S w)(hk:S[k]?=some (.mem ws bs))(D:∀wc bc,DoesI f (#[.pointer (some ⟨0,0,none⟩)]++zs) (zaI ws bs wc bc) v [mB ws.length wc bs.length bc,wB ws',bB bs'])(hz:zs.all zac=true)(hv:zac v=true)(hw:ws'.length=ws.length)(hb:bs'.length=bs.length):
    TCalls Try.prog f ((#[hndV k]++zs).map (ren F)) w (zcl mn OB WB F S w (S.set k (.mem ws' bs')) v):=by
  obtain⟨X,hM⟩:=R.at' _ _ hk;have ha:(#[hndV k]++zs).map (ren F)=(#[Value.pointer (some ⟨0,0,none⟩)]++zs).map (ren (embM (F.blk (VB+k)) (F.base (VB+k)) (aux (F.slack (VB+k)) 1) X (aux (F.slack (VB+k)) 2) [])):=by
    rw[qk,qk,zcB F hz,zcB _ hz];simp[hndV,adr,embC]
  rw[ha];refine(zfj (D X.wcap X.bcap) (zox hM) (by simp[VB])).mono fun e w' ⟨h1,Ft',e1,T,H,hs,K⟩=>?_
  obtain⟨p1,q1,t1,u1⟩:=zep T H hs (i:=1) rfl rfl rfl;obtain⟨p2,q2,t2,u2⟩:=zep T H hs (i:=2) rfl rfl rfl;have K':Kept w (fun b=>b=aux (F.slack (VB+k)) 1\/b=aux (F.slack (VB+k)) 2) w':=⟨K.os,K.tape,K.output,K.size,fun b hl hb=>K.block b hl fun⟨n,bb,z1,z2,z3⟩=>by
    match n,z1 with
    | 0,z1=>simp at z1;subst z1;cases z2
    | 1,_=>exact hb (.inl z3.symm)
    | 2,_=>exact hb (.inr z3.symm)
    | n+3,z1=>simp at z1⟩
  have v1:p1.size=X.wpre.size:=u1;have v2:p2.size=X.bpre.size:=u2;have hmem:MemO w' (F.blk (VB+k)) (aux (F.slack (VB+k)) 1) (aux (F.slack (VB+k)) 2) (⟨X.pre,X.post,p1,q1,X.wcap,p2,q2,X.bcap,X.hn⟩:MemP (F.base (VB+k))) ws' bs':=by
    refine⟨?_,?_,?_,by rw[hw];exact hM.wl,by rw[hb];exact hM.bl⟩
    . rw[K'.block _ (zab hM.hm) (fun z=>z.elim hM.ne1 hM.ne2),hM.hm,hw,hb];simp only[v1,v2]
    . rw[zbP,zfv]at t1;exact t1
    . rw[zbP,zfs]at t2;exact t2
  obtain⟨r1,r2,r3⟩:=zlz R hk K' hmem;exact⟨F,Same.refl _ _,by rw[e1,zaA _ hv,zaA _ hv],r1,r2,fun b hb=>.inl (r3 b hb)⟩
theorem zq0{X:MemP (F.base (VB+m))}{Y:DirP (F.base (VB+p))}{pre post:Array Value}(R:Rep mn OB WB F S w)(hp:S[p]?=some (.port m me s))(hm:S[m]?=some (.mem ws bs))(hd0:DirO w ⟨F.blk (VB+p),aux (F.slack (VB+p)) 1⟩ (F.blk (VB+m)) (F.base (VB+m)) me Y s)(K:Kept w (fun b=>b=aux (F.slack (VB+m)) 1\/b=aux (F.slack (VB+m)) 2\/b=aux (F.slack (VB+p)) 1) w')(hM:MemO w' (F.blk (VB+m)) (aux (F.slack (VB+m)) 1) (aux (F.slack (VB+m)) 2) X ws' bs')(hv:w'.heap[aux (F.slack (VB+p)) 1]?=some (.cells (pre++#[.pointer (some ⟨F.blk (VB+m),F.base (VB+m),none⟩),.int .i64 (s':Int)]++post) 72 (0,0)))(hpre:pre.size=Y.vpre.size):
    Rep mn OB WB F (accS S p m me s' ws' bs') w'/\Kept w (fpS mn F S) w'/\∀b,fpS mn F (accS S p m me s' ws' bs') b->fpS mn F S b:=by
  have hpm:m≠p:=fun e=>by rw[e,hp]at hm;cases hm
  have hv0:=hd0.hv;have hdv:F.blk (VB+p)≠aux (F.slack (VB+p)) 1:=zbc hd0.hd hd0.hv (by decide)
  let w1:World:={ w with heap:=w.heap.setIfInBounds (aux (F.slack (VB+p)) 1) (.cells (pre++#[.pointer (some ⟨F.blk (VB+m),F.base (VB+m),none⟩),.int .i64 (s':Int)]++post) 72 (0,0)) }
  have h1v:w1.heap[aux (F.slack (VB+p)) 1]?=some (.cells (pre++#[.pointer (some ⟨F.blk (VB+m),F.base (VB+m),none⟩),.int .i64 (s':Int)]++post) 72 (0,0)):=Array.getElem?_setIfInBounds_self_of_lt (zab hv0);have h1n:∀x,x≠aux (F.slack (VB+p)) 1->w1.heap[x]?=w.heap[x]?:=fun x hx=>Array.getElem?_setIfInBounds_ne (Ne.symm hx);have hs1:w1.heap.size=w.heap.size:=by simp[w1]
  have K1:Kept w (fun b=>b∈zax mn F p (.port m me s)) w1:=⟨rfl,rfl,rfl,Nat.le_of_eq hs1.symm,fun b _ hb=>h1n b fun e=>hb (by rw[e];simp[zax])⟩
  have hself:(S.set p (Ob.port m me s'))[m]?=some (.mem ws bs):=by rw[ql hpm.symm];exact hm
  obtain⟨r1,r2,r3⟩:=zlr (o1:=.port m me s') R hp rfl (fun _ _ _ _ _ z=>by cases z) (fun⟨_,_,z⟩=>by cases z) id K1 ⟨⟨(⟨Y.pre,Y.post,pre,post,Y.hn⟩:DirP (F.base (VB+p))),⟨by
    show w1.heap[F.blk (VB+p)]?=_;rw[h1n _ hdv,hd0.hd];simp only[hpre],h1v⟩⟩,_,_,hself⟩
  have K2:Kept w1 (fun b=>b=aux (F.slack (VB+m)) 1\/b=aux (F.slack (VB+m)) 2) w':=⟨K.os,K.tape,K.output,by rw[hs1];exact K.size,fun b hl hb=>by
    by_cases e:b=aux (F.slack (VB+p)) 1
    . rw[e,h1v,hv]
    . rw[h1n b e];exact K.block b (by rw[<-hs1];exact hl) fun z=>by
        rcases z with z|z|z
        . exact hb (.inl z)
        . exact hb (.inr z)
        . exact e z⟩
  obtain⟨q1,q2,q3⟩:=zlz r1 hself K2 hM;exact⟨q1,Kept.trans r2 q2 fun b _ hb=>r3 b hb,fun b hb=>r3 b (q3 b hb)⟩
theorem zkg(R:Rep mn OB WB F S w)(hp:S[p]?=some (.port m me s))(hm:S[m]?=some (.mem ws bs))(D:∀wc bc,DoesI f (#[.pointer (some ⟨4,0,none⟩)]++zs) (znw ws bs wc bc s me) v [mB ws.length wc bs.length bc,wB ws',bB bs',yB s',dB me])(hz:zs.all zac=true)(hv:zac v=true)(hw:ws'.length=ws.length)(hb:bs'.length=bs.length):
    TCalls Try.prog f ((#[hndV p]++zs).map (ren F)) w (zcl mn OB WB F S w (accS S p m me s' ws' bs') v):=by
  obtain⟨X,hM⟩:=R.at' _ _ hm;obtain⟨⟨Y,hd⟩,_⟩:=R.at' _ _ hp;have ha:(#[hndV p]++zs).map (ren F)=(#[Value.pointer (some ⟨4,0,none⟩)]++zs).map (ren (embM (F.blk (VB+m)) (F.base (VB+m)) (aux (F.slack (VB+m)) 1) X (aux (F.slack (VB+m)) 2) [(aux (F.slack (VB+p)) 1,Y.vpre.size),(F.blk (VB+p),F.base (VB+p))])):=by
    rw[qk,qk,zcB F hz,zcB _ hz];simp[hndV,adr,embC]
  rw[ha];refine(zfj (D X.wcap X.bcap) (zio hM hd) (by simp[VB])).mono fun e w' ⟨h1,Ft',e1,T,H,hs,K⟩=>?_
  obtain⟨p1,q1,t1,u1⟩:=zep T H hs (i:=1) rfl rfl rfl;obtain⟨p2,q2,t2,u2⟩:=zep T H hs (i:=2) rfl rfl rfl;obtain⟨p3,q3,t3,u3⟩:=zep T H hs (i:=3) rfl rfl rfl;have K':Kept w (fun b=>b=aux (F.slack (VB+m)) 1\/b=aux (F.slack (VB+m)) 2\/b=aux (F.slack (VB+p)) 1) w':=⟨K.os,K.tape,K.output,K.size,fun b hl hb=>K.block b hl fun⟨n,bb,z1,z2,z3⟩=>by
    match n,z1 with
    | 0,z1=>simp at z1;subst z1;cases z2
    | 1,_=>exact hb (.inl z3.symm)
    | 2,_=>exact hb (.inr (.inl z3.symm))
    | 3,_=>exact hb (.inr (.inr z3.symm))
    | 4,z1=>simp at z1;subst z1;cases z2
    | n+5,z1=>simp at z1⟩
  have v1:p1.size=X.wpre.size:=u1;have v2:p2.size=X.bpre.size:=u2;have v3:p3.size=Y.vpre.size:=u3;have hmem:MemO w' (F.blk (VB+m)) (aux (F.slack (VB+m)) 1) (aux (F.slack (VB+m)) 2) (⟨X.pre,X.post,p1,q1,X.wcap,p2,q2,X.bcap,X.hn⟩:MemP (F.base (VB+m))) ws' bs':=by
    refine⟨?_,?_,?_,by rw[hw];exact hM.wl,by rw[hb];exact hM.bl⟩
    . rw[K'.block _ (zab hM.hm) (fun z=>z.elim hM.ne1 fun z=>z.elim hM.ne2 (zbc hM.hm hd.hv (by decide))),hM.hm,hw,hb]
      simp only[v1,v2]
    . rw[zbP,zfv]at t1;exact t1
    . rw[zbP,zfs]at t2;exact t2
  have h0:Ft'.blk 0=F.blk (VB+m)/\Ft'.base 0=F.base (VB+m):=by
    obtain⟨s1,s2,_⟩:=hs 0 (.inl (by simp))
    exact⟨s1.symm,s2.symm⟩
  have t3':w'.heap[aux (F.slack (VB+p)) 1]?=some (.cells (p3++#[.pointer (some ⟨F.blk (VB+m),F.base (VB+m),none⟩),.int .i64 (s':Int)]++q3) 72 (0,0)):=by
    simpa[adr,h0,embC] using t3
  obtain⟨r1,r2,r3⟩:=zq0 R hp hm hd K' hmem t3' v3;exact⟨F,Same.refl _ _,by rw[e1,zaA _ hv,zaA _ hv],r1,r2,fun b hb=>.inl (r3 b hb)⟩
end
variable {e:Operand->Value}
section
variable {P:Program}{σ:Type}{X X':Face P σ}
theorem Op0.face(hp:∀f a S v S',X.prim f a S v S'->X'.prim f a S v S'){o:Oper}{h h':AHeap}{S S':σ}(H:Op0 X o e h S v h' S'):Op0 X' o e h S v h' S':=by
  rcases H with H|H|H|⟨f,g,args,h1,h2,h3,h4,h5⟩
  . exact .inl H
  . exact .inr (.inl H)
  . exact .inr (.inr (.inl H))
  . exact .inr (.inr (.inr ⟨f,g,args,h1,h2,h3,hp _ _ _ _ _ h4,h5⟩))
theorem CallOK.face(hc:X'.cnt=X.cnt){o:Oper}{h h':AHeap}{S S':σ}{c:Code}{Q:Emb}{hc' h1:AHeap}{ex:List Nat}{v0:Value}(H:CallOK X o e h S v h' S' f g c zs E Q hc' h1 ex v0):CallOK X' o e h S v h' S' f g c zs E Q hc' h1 ex v0 :=
  ⟨H.call,H.func,H.go,H.body,by rw[hc];exact H.lends,by rw[hc];exact H.clo,by rw[hc];exact H.back⟩
theorem GoodK.face(hp:∀f a S v S',X.prim f a S v S'->X'.prim f a S v S')(hc:X'.cnt=X.cnt){W:List Nat}{ops:Array Oper}{n0:Nat}{hf:AHeap}{i:Nat}{o:Oper}{p q:DRec σ}(H:GoodK X W ops n0 hf i o p q):GoodK X' W ops n0 hf i o p q:=by
  obtain⟨H1,H2⟩:=H;refine⟨H1,?_⟩;cases hk:p.kind with
  | skip=>rw[hk]at H2;exact H2
  | far=>rw[hk]at H2;exact H2
  | op wr =>
    rw[hk]at H2;obtain⟨a1,a2,a3,a4,a5,a6⟩:=H2;refine⟨a1,a2,a3,a4,a5,?_⟩;cases wr with
    | true=>exact⟨a6.1,a6.2.face hp⟩
    | false=>obtain⟨b1,hv,b2,b3⟩:=a6;exact⟨b1,hv,b2.face hp,b3⟩
  | call wr f g c zs E Q hc' h1 ex v0 =>
    rw[hk]at H2;obtain⟨a1,a2,a3,a4,a5,a6⟩:=H2;refine⟨a1,a2,a3,a4,a5,?_⟩;cases wr with
    | true=>exact⟨a6.1,a6.2.face hc⟩
    | false=>obtain⟨b1,hv,b2,b3⟩:=a6;exact⟨b1,hv,b2.face hc,b3⟩
  | callD f g c args=>rw[hk]at H2;exact H2
theorem Goes.face(hp:∀f a S v S',X.prim f a S v S'->X'.prim f a S v S')(hc:X'.cnt=X.cnt){fn:Func}{A:Conf σ->Prop}{c:Conf σ}(G:Goes X fn A c):Goes X' fn A c:=by
  induction G with
  | here h=>exact .here h
  | ctl h _ ih=>exact .ctl h ih
  | ret h1 h2 _ ih=>exact .ret h1 h2 ih
  | skip h1 h2 _ ih=>exact .skip h1 h2 ih
  | op h1 h2 h3 h4 h5 _ ih=>exact .op h1 h2 h3 (h4.face hp) h5 ih
  | call f g c zs E Q hc' h1 ex v0 a1 a2 a3 a4 a5 _ _ ih1 ih2=>exact .call f g c zs E Q hc' h1 ex v0 a1 a2 a3 (a4.face hc) a5 ih1 ih2
  | callD f g c args v h1 S1 a1 a2 a3 a4 a5 a6 a7 _ _ ih1 ih2=>exact .callD f g c args v h1 S1 a1 a2 a3 a4 a5 a6 a7 ih1 ih2
  | draw W rec a1 a2 hf a3 a4 _ _ _ ih1 ih2 ih3=>exact .draw W rec a1 a2 hf a3 (fun i o ho=>(a4 i o ho).face hp hc) ih1 ih2 ih3
  | raise a1 a2 a3 _ ih=>exact .raise a1 a2 a3 ih
  | weak a1 a2 _ ih=>exact .weak a1 a2 ih
end
inductive GE {P:Program} {σ Γ:Type} (X:Face P σ) (Sp:FuncId->Array Value->AHeap->σ->Γ->(Value->AHeap->σ->Γ->Prop)->Prop):Func->(Conf σ->Γ->Prop)->Conf σ->Γ->Prop
  | here {fn A c γ} (h:A c γ):GE X Sp fn A c γ
  | plain {fn A c γ} (A':Conf σ->Prop) (G:Goes X fn A' c) (hk:∀c',A' c'->GE X Sp fn A c' γ):GE X Sp fn A c γ
  | call {fn A ops i rest k tmps h S o γ} (f:FuncId) (g:Func) (c:Code) (args:Array Value) (Q:Value->AHeap->σ->Γ->Prop) (ho:ops[i]?=some o) (hw:Region.wanted o (zah ops tmps)=true) (hb:o.op.operands.all zaO=true) (hca:zaJ P (evA tmps) o.op=some (f,args))
      (hf:P.funcs[f]?=some g) (hg:goB g=true) (hbd:g.body=some c) (hrun:GE X Sp g (fun x γ'=>∃v h1 S1,x=.done v h1 S1/\Q v h1 S1 γ') (.run (zag g c args).1 (zag g c args).2 h S) γ)
      (hk:∀v h1 S1 γ',Q v h1 S1 γ'->GE X Sp fn A (.run (.inRegion ops rest::k) (putL o.dst v tmps) h1 S1) γ'):GE X Sp fn A (.run (.inRegion ops (i::rest)::k) tmps h S) γ
  | spec {fn A ops i rest k tmps h S o γ} (f:FuncId) (args:Array Value) (Q:Value->AHeap->σ->Γ->Prop) (ho:ops[i]?=some o) (hw:Region.wanted o (zah ops tmps)=true) (hb:o.op.operands.all zaO=true) (hca:zaJ P (evA tmps) o.op=some (f,args))
      (hsp:Sp f args h S γ Q) (hk:∀v h1 S1 γ',Q v h1 S1 γ'->GE X Sp fn A (.run (.inRegion ops rest::k) (putL o.dst v tmps) h1 S1) γ'):GE X Sp fn A (.run (.inRegion ops (i::rest)::k) tmps h S) γ
  | draws {fn A id ops k tmps h S γ} (hk:∀t,GE X Sp fn A (.run (.inRegion ops (Region.schedule (P.follows .mixedOrders) ops t)::k) tmps h S) γ):GE X Sp fn A (.run (.code (.region id ops true)::k) tmps h S) γ
theorem GE.mono{P:Program}{σ Γ:Type}{X:Face P σ}{Sp:FuncId->Array Value->AHeap->σ->Γ->(Value->AHeap->σ->Γ->Prop)->Prop}{fn:Func}{A A1:Conf σ->Γ->Prop}{c:Conf σ}{γ:Γ}(G:GE X Sp fn A c γ)(h:∀c γ,A c γ->A1 c γ):GE X Sp fn A1 c γ:=by
  induction G with
  | here a=>exact .here (h _ _ a)
  | plain A' G _ ih=>exact .plain A' G fun c' hc=>ih c' hc h
  | call f g c args Q a1 a2 a3 a4 a5 a6 a7 hr _ _ ih2=>exact .call f g c args Q a1 a2 a3 a4 a5 a6 a7 hr fun v h1 S1 γ' hq=>ih2 v h1 S1 γ' hq h
  | spec f args Q a1 a2 a3 a4 a5 _ ih=>exact .spec f args Q a1 a2 a3 a4 a5 fun v h1 S1 γ' hq=>ih v h1 S1 γ' hq h
  | draws _ ih=>exact .draws fun t=>ih t h
end Go.Proofs.Ytpkkfkebnhgaiaa
