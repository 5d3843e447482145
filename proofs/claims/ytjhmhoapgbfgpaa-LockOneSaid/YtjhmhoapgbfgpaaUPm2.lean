/-
  What an access of a memory does, by the abstract machine over its rows alone. Printed by gen_do.py.
  No condition: steps of the program.
-/
import Derived.Test.YtjhmhoapgbfgpaaUCo21
set_option maxHeartbeats 40000000
set_option linter.unusedVariables false
set_option linter.unusedSimpArgs false
namespace Go.Proofs.Ytjhmhoapgbfgpaa
open Go Go.RowKit
theorem zt2 {bs:List UInt8} {k:Nat} (h:k<bs.length):(bL bs)[k]?=some (.int .u8 (bs[k].toNat:Int)):=by simp [zdH,h]
theorem ztX {bs:List UInt8} {k:Nat} {x:UInt8}:(bL bs).set k (.int .u8 (x.toNat:Int))=bL (bs.set k x):=by simp [zdH,List.map_set]
theorem znR (b:UInt8):IntKind.u64.wrap (b.toNat:Int)=(b.toNat:Int):=by
  have:=b.toNat_lt;rw [IntKind.wrap_u64];omega
set_option maxRecDepth 100000 in
theorem zrZ (ws:List UInt64) (bs:List UInt8) (wc bc:Nat) (n:Int) (A B:UInt64) (hn:n<0):DoesI 27 #[.pointer (some ⟨0,0,none⟩),accV 1 n A B] (zaI ws bs wc bc) (.tuple #[.int .u64 0,.bool false]) (zaI ws bs wc bc):=by
  refine DoesI.mk Try.func27 rfl rfl ?clo ?rows ?_
  case clo=>exact zbe (by simp)
  case rows=>exact zaW ws bs wc bc
  rw [Try.ntmps27];simp only [List.size_toArray,List.length_cons,List.length_nil,List.replicate,List.cons_append,List.nil_append];simp only [zaI,List.map_cons,List.map_nil,accV,List.length_set];have hd1:decide (n<0)=true:=decide_eq_true hn;refine viaF hd1 ?_;refine Goes.finI rfl (by simp (disch:=(first|omega|(simp only [zaa,List.length_cons,List.length_nil,List.size_toArray,zae]<;>omega)|fail)) only [go_sem,resA,zaJ,Try.results27]<;>rfl) rfl rfl ?_ ?_
  . exact Clo.plain (by simp [zac])
  . exact zct
set_option maxRecDepth 100000 in
theorem zsN (ws:List UInt64) (bs:List UInt8) (wc bc:Nat) (n:Int) (A B:UInt64) (hn:(ws.length:Int)<=n):DoesI 27 #[.pointer (some ⟨0,0,none⟩),accV 1 n A B] (zaI ws bs wc bc) (.tuple #[.int .u64 0,.bool false]) (zaI ws bs wc bc):=by
  refine DoesI.mk Try.func27 rfl rfl ?clo ?rows ?_
  case clo=>exact zbe (by simp)
  case rows=>exact zaW ws bs wc bc
  rw [Try.ntmps27];simp only [List.size_toArray,List.length_cons,List.length_nil,List.replicate,List.cons_append,List.nil_append];simp only [zaI,List.map_cons,List.map_nil,accV,List.length_set];have hd1:decide (n<0)=false:=decide_eq_false (by omega)
  have hd2:decide (n >= (ws.length:Int))=true:=decide_eq_true (by omega)
  refine viaF (And.intro hd1 hd2) ?_;((first|refine At.callX [0,1,2] rfl rfl rfl (by decide) rfl (fun K hK=>?_)|refine RG.callX [0,1,2] rfl rfl rfl rfl (by decide) (fun K hK=>?_));simp (disch:=(first|omega|(simp only [zaa,List.length_cons,List.length_nil,List.size_toArray,zae]<;>omega)|fail)) only [go_sem];refine⟨_,_,_,_,_,_,(zef ws bs wc bc),by first|rfl|simp (disch:=(first|omega|(simp only [zaa,List.length_cons,List.length_nil,List.size_toArray,zae]<;>omega)|fail)) only [go_sem],by ((repeat (refine⟨⟨_,rfl,rfl,?_,(by first|exact .inr rfl|exact .inl rfl),(by first|exact fun h=>h|exact fun _=>rfl|(intro h;cases h))⟩,?_⟩;· first|exact zan zaj|(simp [up_0,up_1,up_2,up_3,up_4,zaA,zas,adr];done)|(simp [zb6];done)|exact zan (by simp [zac];done)|simp [up_0,up_1,up_2,zdt,zaA,zas,adr]));exact trivial),by first|exact⟨rfl,rfl⟩|rfl,?_⟩;(try simp only [go_sem]);(first|refine hK _ _ _ ?_|refine hK _ _ _ _ ?_);clear hK K)
  refine viaF (And.intro hd1 hd2) ?_;refine Goes.finI rfl (by simp (disch:=(first|omega|(simp only [zaa,List.length_cons,List.length_nil,List.size_toArray,zae]<;>omega)|fail)) only [go_sem,resA,zaJ,Try.results27]<;>rfl) rfl rfl ?_ ?_
  . exact Clo.plain (by simp [zac])
  . exact zct
set_option maxRecDepth 100000 in
theorem zs4 (ws:List UInt64) (bs:List UInt8) (wc bc k:Nat) (A B:UInt64) (hk:k<ws.length):DoesI 27 #[.pointer (some ⟨0,0,none⟩),accV 1 (k:Int) A B] (zaI ws bs wc bc) (.tuple #[.int .u64 (ws[k].toNat:Int),.bool true]) (zaI (ws.set k ws[k]) bs wc bc):=by
  refine DoesI.mk Try.func27 rfl rfl ?clo ?rows ?_
  case clo=>exact zbe (by simp)
  case rows=>exact zaW ws bs wc bc
  rw [Try.ntmps27];simp only [List.size_toArray,List.length_cons,List.length_nil,List.replicate,List.cons_append,List.nil_append];simp only [zaI,List.map_cons,List.map_nil,accV,List.length_set];have hd1:decide ((k:Int)<0)=false:=decide_eq_false (by omega)
  have hd2:decide ((k:Int) >= (ws.length:Int))=false:=decide_eq_false (by omega)
  have hx:=zqQ hk;have hll:=zle ws;refine viaF (And.intro hd1 (And.intro hd2 (And.intro hx hll))) ?_;((first|refine At.callX [0,1,2] rfl rfl rfl (by decide) rfl (fun K hK=>?_)|refine RG.callX [0,1,2] rfl rfl rfl rfl (by decide) (fun K hK=>?_));simp (disch:=(first|omega|(simp only [zaa,List.length_cons,List.length_nil,List.size_toArray,zae]<;>omega)|fail)) only [go_sem];refine⟨_,_,_,_,_,_,(zef ws bs wc bc),by first|rfl|simp (disch:=(first|omega|(simp only [zaa,List.length_cons,List.length_nil,List.size_toArray,zae]<;>omega)|fail)) only [go_sem],by ((repeat (refine⟨⟨_,rfl,rfl,?_,(by first|exact .inr rfl|exact .inl rfl),(by first|exact fun h=>h|exact fun _=>rfl|(intro h;cases h))⟩,?_⟩;· first|exact zan zaj|(simp [up_0,up_1,up_2,up_3,up_4,zaA,zas,adr];done)|(simp [zb6];done)|exact zan (by simp [zac];done)|simp [up_0,up_1,up_2,zdt,zaA,zas,adr]));exact trivial),by first|exact⟨rfl,rfl⟩|rfl,?_⟩;(try simp only [go_sem]);(first|refine hK _ _ _ ?_|refine hK _ _ _ _ ?_);clear hK K)
  refine viaF (And.intro hd1 (And.intro hd2 (And.intro hx hll))) ?_;((first|refine qc1 rfl rfl fun K hK=>?_|refine qc3 rfl rfl fun K hK=>?_);simp (disch:=(first|omega|(simp only [sz]<;>omega)|fail)) only [go_sem];(first|refine⟨_,_,zed,?_⟩|refine⟨_,_,Does.com (zed),?_⟩);(try simp only [go_sem]);with_reducible refine hK _ _ ?_;clear hK K)
  simp only [zhW];have hts:=zgy;have hta:=ziC;have hk1:=Nat.mul_one k;refine viaF (And.intro hd1 (And.intro hd2 (And.intro hx (And.intro hll (And.intro hts (And.intro hta hk1)))))) ?_;((first|refine qc1 rfl rfl fun K hK=>?_|refine qc3 rfl rfl fun K hK=>?_);simp (disch:=(first|omega|(simp only [sz]<;>omega)|fail)) only [go_sem];(first|refine⟨_,_,zlK ws[k] 1 (k:Int) A B,?_⟩|refine⟨_,_,Does.com (zlK ws[k] 1 (k:Int) A B),?_⟩);(try simp only [go_sem]);with_reducible refine hK _ _ ?_;clear hK K)
  refine viaF (And.intro hd1 (And.intro hd2 (And.intro hx (And.intro hll hk1)))) ?_;rw [zll];refine Goes.finI rfl (by simp (disch:=(first|omega|(simp only [zaa,List.length_cons,List.length_nil,List.size_toArray,zae]<;>omega)|fail)) only [go_sem,resA,zaJ,Try.results27]<;>rfl) rfl rfl ?_ ?_
  . exact Clo.plain (by simp [zac])
  . exact zct
set_option maxRecDepth 100000 in
theorem zrX (ws:List UInt64) (bs:List UInt8) (wc bc:Nat) (n:Int) (A B:UInt64) (hn:n<0):DoesI 27 #[.pointer (some ⟨0,0,none⟩),accV 2 n A B] (zaI ws bs wc bc) (.tuple #[.int .u64 0,.bool false]) (zaI ws bs wc bc):=by
  refine DoesI.mk Try.func27 rfl rfl ?clo ?rows ?_
  case clo=>exact zbe (by simp)
  case rows=>exact zaW ws bs wc bc
  rw [Try.ntmps27];simp only [List.size_toArray,List.length_cons,List.length_nil,List.replicate,List.cons_append,List.nil_append];simp only [zaI,List.map_cons,List.map_nil,accV,List.length_set];have hd1:decide (n<0)=true:=decide_eq_true hn;refine viaF hd1 ?_;refine Goes.finI rfl (by simp (disch:=(first|omega|(simp only [zaa,List.length_cons,List.length_nil,List.size_toArray,zae]<;>omega)|fail)) only [go_sem,resA,zaJ,Try.results27]<;>rfl) rfl rfl ?_ ?_
  . exact Clo.plain (by simp [zac])
  . exact zct
set_option maxRecDepth 100000 in
theorem zsP (ws:List UInt64) (bs:List UInt8) (wc bc:Nat) (n:Int) (A B:UInt64) (hn:(ws.length:Int)<=n):DoesI 27 #[.pointer (some ⟨0,0,none⟩),accV 2 n A B] (zaI ws bs wc bc) (.tuple #[.int .u64 0,.bool false]) (zaI ws bs wc bc):=by
  refine DoesI.mk Try.func27 rfl rfl ?clo ?rows ?_
  case clo=>exact zbe (by simp)
  case rows=>exact zaW ws bs wc bc
  rw [Try.ntmps27];simp only [List.size_toArray,List.length_cons,List.length_nil,List.replicate,List.cons_append,List.nil_append];simp only [zaI,List.map_cons,List.map_nil,accV,List.length_set];have hd1:decide (n<0)=false:=decide_eq_false (by omega)
  have hd2:decide (n >= (ws.length:Int))=true:=decide_eq_true (by omega)
  refine viaF (And.intro hd1 hd2) ?_;((first|refine At.callX [0,1,2] rfl rfl rfl (by decide) rfl (fun K hK=>?_)|refine RG.callX [0,1,2] rfl rfl rfl rfl (by decide) (fun K hK=>?_));simp (disch:=(first|omega|(simp only [zaa,List.length_cons,List.length_nil,List.size_toArray,zae]<;>omega)|fail)) only [go_sem];refine⟨_,_,_,_,_,_,(zef ws bs wc bc),by first|rfl|simp (disch:=(first|omega|(simp only [zaa,List.length_cons,List.length_nil,List.size_toArray,zae]<;>omega)|fail)) only [go_sem],by ((repeat (refine⟨⟨_,rfl,rfl,?_,(by first|exact .inr rfl|exact .inl rfl),(by first|exact fun h=>h|exact fun _=>rfl|(intro h;cases h))⟩,?_⟩;· first|exact zan zaj|(simp [up_0,up_1,up_2,up_3,up_4,zaA,zas,adr];done)|(simp [zb6];done)|exact zan (by simp [zac];done)|simp [up_0,up_1,up_2,zdt,zaA,zas,adr]));exact trivial),by first|exact⟨rfl,rfl⟩|rfl,?_⟩;(try simp only [go_sem]);(first|refine hK _ _ _ ?_|refine hK _ _ _ _ ?_);clear hK K)
  refine viaF (And.intro hd1 hd2) ?_;refine Goes.finI rfl (by simp (disch:=(first|omega|(simp only [zaa,List.length_cons,List.length_nil,List.size_toArray,zae]<;>omega)|fail)) only [go_sem,resA,zaJ,Try.results27]<;>rfl) rfl rfl ?_ ?_
  . exact Clo.plain (by simp [zac])
  . exact zct
set_option maxRecDepth 100000 in
theorem ztQ (ws:List UInt64) (bs:List UInt8) (wc bc k:Nat) (A B:UInt64) (hk:k<ws.length):DoesI 27 #[.pointer (some ⟨0,0,none⟩),accV 2 (k:Int) A B] (zaI ws bs wc bc) (.tuple #[.int .u64 0,.bool true]) (zaI (ws.set k A) bs wc bc):=by
  refine DoesI.mk Try.func27 rfl rfl ?clo ?rows ?_
  case clo=>exact zbe (by simp)
  case rows=>exact zaW ws bs wc bc
  rw [Try.ntmps27];simp only [List.size_toArray,List.length_cons,List.length_nil,List.replicate,List.cons_append,List.nil_append];simp only [zaI,List.map_cons,List.map_nil,accV,List.length_set];have hd1:decide ((k:Int)<0)=false:=decide_eq_false (by omega)
  have hd2:decide ((k:Int) >= (ws.length:Int))=false:=decide_eq_false (by omega)
  have hx:=zqQ hk;have hll:=zle ws;refine viaF (And.intro hd1 (And.intro hd2 (And.intro hx hll))) ?_;((first|refine At.callX [0,1,2] rfl rfl rfl (by decide) rfl (fun K hK=>?_)|refine RG.callX [0,1,2] rfl rfl rfl rfl (by decide) (fun K hK=>?_));simp (disch:=(first|omega|(simp only [zaa,List.length_cons,List.length_nil,List.size_toArray,zae]<;>omega)|fail)) only [go_sem];refine⟨_,_,_,_,_,_,(zef ws bs wc bc),by first|rfl|simp (disch:=(first|omega|(simp only [zaa,List.length_cons,List.length_nil,List.size_toArray,zae]<;>omega)|fail)) only [go_sem],by ((repeat (refine⟨⟨_,rfl,rfl,?_,(by first|exact .inr rfl|exact .inl rfl),(by first|exact fun h=>h|exact fun _=>rfl|(intro h;cases h))⟩,?_⟩;· first|exact zan zaj|(simp [up_0,up_1,up_2,up_3,up_4,zaA,zas,adr];done)|(simp [zb6];done)|exact zan (by simp [zac];done)|simp [up_0,up_1,up_2,zdt,zaA,zas,adr]));exact trivial),by first|exact⟨rfl,rfl⟩|rfl,?_⟩;(try simp only [go_sem]);(first|refine hK _ _ _ ?_|refine hK _ _ _ _ ?_);clear hK K)
  refine viaF (And.intro hd1 (And.intro hd2 (And.intro hx hll))) ?_;((first|refine qc1 rfl rfl fun K hK=>?_|refine qc3 rfl rfl fun K hK=>?_);simp (disch:=(first|omega|(simp only [sz]<;>omega)|fail)) only [go_sem];(first|refine⟨_,_,zed,?_⟩|refine⟨_,_,Does.com (zed),?_⟩);(try simp only [go_sem]);with_reducible refine hK _ _ ?_;clear hK K)
  simp only [zhW];have hts:=zgy;have hta:=ziC;have hk1:=Nat.mul_one k;refine viaF (And.intro hd1 (And.intro hd2 (And.intro hx (And.intro hll (And.intro hts (And.intro hta hk1)))))) ?_;((first|refine qc1 rfl rfl fun K hK=>?_|refine qc3 rfl rfl fun K hK=>?_);simp (disch:=(first|omega|(simp only [sz]<;>omega)|fail)) only [go_sem];(first|refine⟨_,_,zlD ws[k] 2 (k:Int) A B,?_⟩|refine⟨_,_,Does.com (zlD ws[k] 2 (k:Int) A B),?_⟩);(try simp only [go_sem]);with_reducible refine hK _ _ ?_;clear hK K)
  refine viaF (And.intro hd1 (And.intro hd2 (And.intro hx (And.intro hll hk1)))) ?_;rw [zll];refine Goes.finI rfl (by simp (disch:=(first|omega|(simp only [zaa,List.length_cons,List.length_nil,List.size_toArray,zae]<;>omega)|fail)) only [go_sem,resA,zaJ,Try.results27]<;>rfl) rfl rfl ?_ ?_
  . exact Clo.plain (by simp [zac])
  . exact zct
set_option maxRecDepth 100000 in
theorem zsi (ws:List UInt64) (bs:List UInt8) (wc bc:Nat) (n:Int) (A B:UInt64) (hn:n<0):DoesI 27 #[.pointer (some ⟨0,0,none⟩),accV 3 n A B] (zaI ws bs wc bc) (.tuple #[.int .u64 0,.bool false]) (zaI ws bs wc bc):=by
  refine DoesI.mk Try.func27 rfl rfl ?clo ?rows ?_
  case clo=>exact zbe (by simp)
  case rows=>exact zaW ws bs wc bc
  rw [Try.ntmps27];simp only [List.size_toArray,List.length_cons,List.length_nil,List.replicate,List.cons_append,List.nil_append];simp only [zaI,List.map_cons,List.map_nil,accV,List.length_set];have hd1:decide (n<0)=true:=decide_eq_true hn;refine viaF hd1 ?_;refine Goes.finI rfl (by simp (disch:=(first|omega|(simp only [zaa,List.length_cons,List.length_nil,List.size_toArray,zae]<;>omega)|fail)) only [go_sem,resA,zaJ,Try.results27]<;>rfl) rfl rfl ?_ ?_
  . exact Clo.plain (by simp [zac])
  . exact zct
set_option maxRecDepth 100000 in
theorem zrs (ws:List UInt64) (bs:List UInt8) (wc bc:Nat) (n:Int) (A B:UInt64) (hn:(ws.length:Int)<=n):DoesI 27 #[.pointer (some ⟨0,0,none⟩),accV 3 n A B] (zaI ws bs wc bc) (.tuple #[.int .u64 0,.bool false]) (zaI ws bs wc bc):=by
  refine DoesI.mk Try.func27 rfl rfl ?clo ?rows ?_
  case clo=>exact zbe (by simp)
  case rows=>exact zaW ws bs wc bc
  rw [Try.ntmps27];simp only [List.size_toArray,List.length_cons,List.length_nil,List.replicate,List.cons_append,List.nil_append];simp only [zaI,List.map_cons,List.map_nil,accV,List.length_set];have hd1:decide (n<0)=false:=decide_eq_false (by omega)
  have hd2:decide (n >= (ws.length:Int))=true:=decide_eq_true (by omega)
  refine viaF (And.intro hd1 hd2) ?_;((first|refine At.callX [0,1,2] rfl rfl rfl (by decide) rfl (fun K hK=>?_)|refine RG.callX [0,1,2] rfl rfl rfl rfl (by decide) (fun K hK=>?_));simp (disch:=(first|omega|(simp only [zaa,List.length_cons,List.length_nil,List.size_toArray,zae]<;>omega)|fail)) only [go_sem];refine⟨_,_,_,_,_,_,(zef ws bs wc bc),by first|rfl|simp (disch:=(first|omega|(simp only [zaa,List.length_cons,List.length_nil,List.size_toArray,zae]<;>omega)|fail)) only [go_sem],by ((repeat (refine⟨⟨_,rfl,rfl,?_,(by first|exact .inr rfl|exact .inl rfl),(by first|exact fun h=>h|exact fun _=>rfl|(intro h;cases h))⟩,?_⟩;· first|exact zan zaj|(simp [up_0,up_1,up_2,up_3,up_4,zaA,zas,adr];done)|(simp [zb6];done)|exact zan (by simp [zac];done)|simp [up_0,up_1,up_2,zdt,zaA,zas,adr]));exact trivial),by first|exact⟨rfl,rfl⟩|rfl,?_⟩;(try simp only [go_sem]);(first|refine hK _ _ _ ?_|refine hK _ _ _ _ ?_);clear hK K)
  refine viaF (And.intro hd1 hd2) ?_;refine Goes.finI rfl (by simp (disch:=(first|omega|(simp only [zaa,List.length_cons,List.length_nil,List.size_toArray,zae]<;>omega)|fail)) only [go_sem,resA,zaJ,Try.results27]<;>rfl) rfl rfl ?_ ?_
  . exact Clo.plain (by simp [zac])
  . exact zct
set_option maxRecDepth 100000 in
theorem ztW (ws:List UInt64) (bs:List UInt8) (wc bc k:Nat) (A B:UInt64) (hk:k<ws.length):DoesI 27 #[.pointer (some ⟨0,0,none⟩),accV 3 (k:Int) A B] (zaI ws bs wc bc) (.tuple #[.int .u64 ((zgo 3 ws[k] A).toNat:Int),.bool true]) (zaI (ws.set k (kNow 3 ws[k] A B)) bs wc bc):=by
  refine DoesI.mk Try.func27 rfl rfl ?clo ?rows ?_
  case clo=>exact zbe (by simp)
  case rows=>exact zaW ws bs wc bc
  rw [Try.ntmps27];simp only [List.size_toArray,List.length_cons,List.length_nil,List.replicate,List.cons_append,List.nil_append];simp only [zaI,List.map_cons,List.map_nil,accV,List.length_set];have hd1:decide ((k:Int)<0)=false:=decide_eq_false (by omega)
  have hd2:decide ((k:Int) >= (ws.length:Int))=false:=decide_eq_false (by omega)
  have hx:=zqQ hk;have hll:=zle ws;refine viaF (And.intro hd1 (And.intro hd2 (And.intro hx hll))) ?_;((first|refine At.callX [0,1,2] rfl rfl rfl (by decide) rfl (fun K hK=>?_)|refine RG.callX [0,1,2] rfl rfl rfl rfl (by decide) (fun K hK=>?_));simp (disch:=(first|omega|(simp only [zaa,List.length_cons,List.length_nil,List.size_toArray,zae]<;>omega)|fail)) only [go_sem];refine⟨_,_,_,_,_,_,(zef ws bs wc bc),by first|rfl|simp (disch:=(first|omega|(simp only [zaa,List.length_cons,List.length_nil,List.size_toArray,zae]<;>omega)|fail)) only [go_sem],by ((repeat (refine⟨⟨_,rfl,rfl,?_,(by first|exact .inr rfl|exact .inl rfl),(by first|exact fun h=>h|exact fun _=>rfl|(intro h;cases h))⟩,?_⟩;· first|exact zan zaj|(simp [up_0,up_1,up_2,up_3,up_4,zaA,zas,adr];done)|(simp [zb6];done)|exact zan (by simp [zac];done)|simp [up_0,up_1,up_2,zdt,zaA,zas,adr]));exact trivial),by first|exact⟨rfl,rfl⟩|rfl,?_⟩;(try simp only [go_sem]);(first|refine hK _ _ _ ?_|refine hK _ _ _ _ ?_);clear hK K)
  refine viaF (And.intro hd1 (And.intro hd2 (And.intro hx hll))) ?_;((first|refine qc1 rfl rfl fun K hK=>?_|refine qc3 rfl rfl fun K hK=>?_);simp (disch:=(first|omega|(simp only [sz]<;>omega)|fail)) only [go_sem];(first|refine⟨_,_,zed,?_⟩|refine⟨_,_,Does.com (zed),?_⟩);(try simp only [go_sem]);with_reducible refine hK _ _ ?_;clear hK K)
  simp only [zhW];have hts:=zgy;have hta:=ziC;have hk1:=Nat.mul_one k;refine viaF (And.intro hd1 (And.intro hd2 (And.intro hx (And.intro hll (And.intro hts (And.intro hta hk1)))))) ?_;((first|refine qc1 rfl rfl fun K hK=>?_|refine qc3 rfl rfl fun K hK=>?_);simp (disch:=(first|omega|(simp only [sz]<;>omega)|fail)) only [go_sem];(first|refine⟨_,_,zlx ws[k] 3 (k:Int) A B,?_⟩|refine⟨_,_,Does.com (zlx ws[k] 3 (k:Int) A B),?_⟩);(try simp only [go_sem]);with_reducible refine hK _ _ ?_;clear hK K)
  refine viaF (And.intro hd1 (And.intro hd2 (And.intro hx (And.intro hll hk1)))) ?_;rw [zll];refine Goes.finI rfl (by simp (disch:=(first|omega|(simp only [zaa,List.length_cons,List.length_nil,List.size_toArray,zae]<;>omega)|fail)) only [go_sem,resA,zaJ,Try.results27]<;>rfl) rfl rfl ?_ ?_
  . exact Clo.plain (by simp [zac])
  . exact zct
set_option maxRecDepth 100000 in
theorem zrN (ws:List UInt64) (bs:List UInt8) (wc bc:Nat) (n:Int) (A B:UInt64) (hn:n<0):DoesI 27 #[.pointer (some ⟨0,0,none⟩),accV 4 n A B] (zaI ws bs wc bc) (.tuple #[.int .u64 0,.bool false]) (zaI ws bs wc bc):=by
  refine DoesI.mk Try.func27 rfl rfl ?clo ?rows ?_
  case clo=>exact zbe (by simp)
  case rows=>exact zaW ws bs wc bc
  rw [Try.ntmps27];simp only [List.size_toArray,List.length_cons,List.length_nil,List.replicate,List.cons_append,List.nil_append];simp only [zaI,List.map_cons,List.map_nil,accV,List.length_set];have hd1:decide (n<0)=true:=decide_eq_true hn;refine viaF hd1 ?_;refine Goes.finI rfl (by simp (disch:=(first|omega|(simp only [zaa,List.length_cons,List.length_nil,List.size_toArray,zae]<;>omega)|fail)) only [go_sem,resA,zaJ,Try.results27]<;>rfl) rfl rfl ?_ ?_
  . exact Clo.plain (by simp [zac])
  . exact zct
set_option maxRecDepth 100000 in
theorem zrT (ws:List UInt64) (bs:List UInt8) (wc bc:Nat) (n:Int) (A B:UInt64) (hn:(ws.length:Int)<=n):DoesI 27 #[.pointer (some ⟨0,0,none⟩),accV 4 n A B] (zaI ws bs wc bc) (.tuple #[.int .u64 0,.bool false]) (zaI ws bs wc bc):=by
  refine DoesI.mk Try.func27 rfl rfl ?clo ?rows ?_
  case clo=>exact zbe (by simp)
  case rows=>exact zaW ws bs wc bc
  rw [Try.ntmps27];simp only [List.size_toArray,List.length_cons,List.length_nil,List.replicate,List.cons_append,List.nil_append];simp only [zaI,List.map_cons,List.map_nil,accV,List.length_set];have hd1:decide (n<0)=false:=decide_eq_false (by omega)
  have hd2:decide (n >= (ws.length:Int))=true:=decide_eq_true (by omega)
  refine viaF (And.intro hd1 hd2) ?_;((first|refine At.callX [0,1,2] rfl rfl rfl (by decide) rfl (fun K hK=>?_)|refine RG.callX [0,1,2] rfl rfl rfl rfl (by decide) (fun K hK=>?_));simp (disch:=(first|omega|(simp only [zaa,List.length_cons,List.length_nil,List.size_toArray,zae]<;>omega)|fail)) only [go_sem];refine⟨_,_,_,_,_,_,(zef ws bs wc bc),by first|rfl|simp (disch:=(first|omega|(simp only [zaa,List.length_cons,List.length_nil,List.size_toArray,zae]<;>omega)|fail)) only [go_sem],by ((repeat (refine⟨⟨_,rfl,rfl,?_,(by first|exact .inr rfl|exact .inl rfl),(by first|exact fun h=>h|exact fun _=>rfl|(intro h;cases h))⟩,?_⟩;· first|exact zan zaj|(simp [up_0,up_1,up_2,up_3,up_4,zaA,zas,adr];done)|(simp [zb6];done)|exact zan (by simp [zac];done)|simp [up_0,up_1,up_2,zdt,zaA,zas,adr]));exact trivial),by first|exact⟨rfl,rfl⟩|rfl,?_⟩;(try simp only [go_sem]);(first|refine hK _ _ _ ?_|refine hK _ _ _ _ ?_);clear hK K)
  refine viaF (And.intro hd1 hd2) ?_;refine Goes.finI rfl (by simp (disch:=(first|omega|(simp only [zaa,List.length_cons,List.length_nil,List.size_toArray,zae]<;>omega)|fail)) only [go_sem,resA,zaJ,Try.results27]<;>rfl) rfl rfl ?_ ?_
  . exact Clo.plain (by simp [zac])
  . exact zct
set_option maxRecDepth 100000 in
theorem ztc (ws:List UInt64) (bs:List UInt8) (wc bc k:Nat) (A B:UInt64) (hk:k<ws.length):DoesI 27 #[.pointer (some ⟨0,0,none⟩),accV 4 (k:Int) A B] (zaI ws bs wc bc) (.tuple #[.int .u64 (ws[k].toNat:Int),.bool true]) (zaI (ws.set k (ws[k]+A)) bs wc bc):=by
  refine DoesI.mk Try.func27 rfl rfl ?clo ?rows ?_
  case clo=>exact zbe (by simp)
  case rows=>exact zaW ws bs wc bc
  rw [Try.ntmps27];simp only [List.size_toArray,List.length_cons,List.length_nil,List.replicate,List.cons_append,List.nil_append];simp only [zaI,List.map_cons,List.map_nil,accV,List.length_set];have hd1:decide ((k:Int)<0)=false:=decide_eq_false (by omega)
  have hd2:decide ((k:Int) >= (ws.length:Int))=false:=decide_eq_false (by omega)
  have hx:=zqQ hk;have hll:=zle ws;refine viaF (And.intro hd1 (And.intro hd2 (And.intro hx hll))) ?_;((first|refine At.callX [0,1,2] rfl rfl rfl (by decide) rfl (fun K hK=>?_)|refine RG.callX [0,1,2] rfl rfl rfl rfl (by decide) (fun K hK=>?_));simp (disch:=(first|omega|(simp only [zaa,List.length_cons,List.length_nil,List.size_toArray,zae]<;>omega)|fail)) only [go_sem];refine⟨_,_,_,_,_,_,(zef ws bs wc bc),by first|rfl|simp (disch:=(first|omega|(simp only [zaa,List.length_cons,List.length_nil,List.size_toArray,zae]<;>omega)|fail)) only [go_sem],by ((repeat (refine⟨⟨_,rfl,rfl,?_,(by first|exact .inr rfl|exact .inl rfl),(by first|exact fun h=>h|exact fun _=>rfl|(intro h;cases h))⟩,?_⟩;· first|exact zan zaj|(simp [up_0,up_1,up_2,up_3,up_4,zaA,zas,adr];done)|(simp [zb6];done)|exact zan (by simp [zac];done)|simp [up_0,up_1,up_2,zdt,zaA,zas,adr]));exact trivial),by first|exact⟨rfl,rfl⟩|rfl,?_⟩;(try simp only [go_sem]);(first|refine hK _ _ _ ?_|refine hK _ _ _ _ ?_);clear hK K)
  refine viaF (And.intro hd1 (And.intro hd2 (And.intro hx hll))) ?_;((first|refine qc1 rfl rfl fun K hK=>?_|refine qc3 rfl rfl fun K hK=>?_);simp (disch:=(first|omega|(simp only [sz]<;>omega)|fail)) only [go_sem];(first|refine⟨_,_,zed,?_⟩|refine⟨_,_,Does.com (zed),?_⟩);(try simp only [go_sem]);with_reducible refine hK _ _ ?_;clear hK K)
  simp only [zhW];have hts:=zgy;have hta:=ziC;have hk1:=Nat.mul_one k;refine viaF (And.intro hd1 (And.intro hd2 (And.intro hx (And.intro hll (And.intro hts (And.intro hta hk1)))))) ?_;((first|refine qc1 rfl rfl fun K hK=>?_|refine qc3 rfl rfl fun K hK=>?_);simp (disch:=(first|omega|(simp only [sz]<;>omega)|fail)) only [go_sem];(first|refine⟨_,_,zlY ws[k] 4 (k:Int) A B,?_⟩|refine⟨_,_,Does.com (zlY ws[k] 4 (k:Int) A B),?_⟩);(try simp only [go_sem]);with_reducible refine hK _ _ ?_;clear hK K)
  refine viaF (And.intro hd1 (And.intro hd2 (And.intro hx (And.intro hll hk1)))) ?_;rw [zll];refine Goes.finI rfl (by simp (disch:=(first|omega|(simp only [zaa,List.length_cons,List.length_nil,List.size_toArray,zae]<;>omega)|fail)) only [go_sem,resA,zaJ,Try.results27]<;>rfl) rfl rfl ?_ ?_
  . exact Clo.plain (by simp [zac])
  . exact zct
set_option maxRecDepth 100000 in
theorem zsB (ws:List UInt64) (bs:List UInt8) (wc bc:Nat) (n:Int) (A B:UInt64) (hn:n<0):DoesI 27 #[.pointer (some ⟨0,0,none⟩),accV 5 n A B] (zaI ws bs wc bc) (.tuple #[.int .u64 0,.bool false]) (zaI ws bs wc bc):=by
  refine DoesI.mk Try.func27 rfl rfl ?clo ?rows ?_
  case clo=>exact zbe (by simp)
  case rows=>exact zaW ws bs wc bc
  rw [Try.ntmps27];simp only [List.size_toArray,List.length_cons,List.length_nil,List.replicate,List.cons_append,List.nil_append];simp only [zaI,List.map_cons,List.map_nil,accV,List.length_set];have hd1:decide (n<0)=true:=decide_eq_true hn;refine viaF hd1 ?_;refine Goes.finI rfl (by simp (disch:=(first|omega|(simp only [zaa,List.length_cons,List.length_nil,List.size_toArray,zae]<;>omega)|fail)) only [go_sem,resA,zaJ,Try.results27]<;>rfl) rfl rfl ?_ ?_
  . exact Clo.plain (by simp [zac])
  . exact zct
set_option maxRecDepth 100000 in
theorem zrY (ws:List UInt64) (bs:List UInt8) (wc bc:Nat) (n:Int) (A B:UInt64) (hn:(bs.length:Int)<=n):DoesI 27 #[.pointer (some ⟨0,0,none⟩),accV 5 n A B] (zaI ws bs wc bc) (.tuple #[.int .u64 0,.bool false]) (zaI ws bs wc bc):=by
  refine DoesI.mk Try.func27 rfl rfl ?clo ?rows ?_
  case clo=>exact zbe (by simp)
  case rows=>exact zaW ws bs wc bc
  rw [Try.ntmps27];simp only [List.size_toArray,List.length_cons,List.length_nil,List.replicate,List.cons_append,List.nil_append];simp only [zaI,List.map_cons,List.map_nil,accV,List.length_set];have hd1:decide (n<0)=false:=decide_eq_false (by omega)
  have hd2:decide (n >= (bs.length:Int))=true:=decide_eq_true (by omega)
  refine viaF (And.intro hd1 hd2) ?_;((first|refine At.callX [0,1,2] rfl rfl rfl (by decide) rfl (fun K hK=>?_)|refine RG.callX [0,1,2] rfl rfl rfl rfl (by decide) (fun K hK=>?_));simp (disch:=(first|omega|(simp only [zaa,List.length_cons,List.length_nil,List.size_toArray,zae]<;>omega)|fail)) only [go_sem];refine⟨_,_,_,_,_,_,(ziG ws bs wc bc),by first|rfl|simp (disch:=(first|omega|(simp only [zaa,List.length_cons,List.length_nil,List.size_toArray,zae]<;>omega)|fail)) only [go_sem],by ((repeat (refine⟨⟨_,rfl,rfl,?_,(by first|exact .inr rfl|exact .inl rfl),(by first|exact fun h=>h|exact fun _=>rfl|(intro h;cases h))⟩,?_⟩;· first|exact zan zaj|(simp [up_0,up_1,up_2,up_3,up_4,zaA,zas,adr];done)|(simp [zb6];done)|exact zan (by simp [zac];done)|simp [up_0,up_1,up_2,zdt,zaA,zas,adr]));exact trivial),by first|exact⟨rfl,rfl⟩|rfl,?_⟩;(try simp only [go_sem]);(first|refine hK _ _ _ ?_|refine hK _ _ _ _ ?_);clear hK K)
  refine viaF (And.intro hd1 hd2) ?_;refine Goes.finI rfl (by simp (disch:=(first|omega|(simp only [zaa,List.length_cons,List.length_nil,List.size_toArray,zae]<;>omega)|fail)) only [go_sem,resA,zaJ,Try.results27]<;>rfl) rfl rfl ?_ ?_
  . exact Clo.plain (by simp [zac])
  . exact zct
set_option maxRecDepth 100000 in
theorem ztz (ws:List UInt64) (bs:List UInt8) (wc bc k:Nat) (A B:UInt64) (hk:k<bs.length):DoesI 27 #[.pointer (some ⟨0,0,none⟩),accV 5 (k:Int) A B] (zaI ws bs wc bc) (.tuple #[.int .u64 (bs[k].toNat:Int),.bool true]) (zaI ws bs wc bc):=by
  refine DoesI.mk Try.func27 rfl rfl ?clo ?rows ?_
  case clo=>exact zbe (by simp)
  case rows=>exact zaW ws bs wc bc
  rw [Try.ntmps27];simp only [List.size_toArray,List.length_cons,List.length_nil,List.replicate,List.cons_append,List.nil_append];simp only [zaI,List.map_cons,List.map_nil,accV,List.length_set];have hd1:decide ((k:Int)<0)=false:=decide_eq_false (by omega)
  have hd2:decide ((k:Int) >= (bs.length:Int))=false:=decide_eq_false (by omega)
  have hx:=zt2 hk;have hll:=zri bs;have hk1:=Nat.mul_one k;have hw:=znR bs[k];refine viaF (And.intro hd1 (And.intro hd2 (And.intro hx (And.intro hll (And.intro hk1 hw))))) ?_;((first|refine At.callX [0,1,2] rfl rfl rfl (by decide) rfl (fun K hK=>?_)|refine RG.callX [0,1,2] rfl rfl rfl rfl (by decide) (fun K hK=>?_));simp (disch:=(first|omega|(simp only [zaa,List.length_cons,List.length_nil,List.size_toArray,zae]<;>omega)|fail)) only [go_sem];refine⟨_,_,_,_,_,_,(ziG ws bs wc bc),by first|rfl|simp (disch:=(first|omega|(simp only [zaa,List.length_cons,List.length_nil,List.size_toArray,zae]<;>omega)|fail)) only [go_sem],by ((repeat (refine⟨⟨_,rfl,rfl,?_,(by first|exact .inr rfl|exact .inl rfl),(by first|exact fun h=>h|exact fun _=>rfl|(intro h;cases h))⟩,?_⟩;· first|exact zan zaj|(simp [up_0,up_1,up_2,up_3,up_4,zaA,zas,adr];done)|(simp [zb6];done)|exact zan (by simp [zac];done)|simp [up_0,up_1,up_2,zdt,zaA,zas,adr]));exact trivial),by first|exact⟨rfl,rfl⟩|rfl,?_⟩;(try simp only [go_sem]);(first|refine hK _ _ _ ?_|refine hK _ _ _ _ ?_);clear hK K)
  refine viaF (And.intro hd1 (And.intro hd2 (And.intro hx (And.intro hll (And.intro hk1 hw))))) ?_;refine Goes.finI rfl (by simp (disch:=(first|omega|(simp only [zaa,List.length_cons,List.length_nil,List.size_toArray,zae]<;>omega)|fail)) only [go_sem,resA,zaJ,Try.results27]<;>rfl) rfl rfl ?_ ?_
  . exact Clo.plain (by simp [zac])
  . exact zct
set_option maxRecDepth 100000 in
theorem zrG (ws:List UInt64) (bs:List UInt8) (wc bc:Nat) (n:Int) (A B:UInt64) (hn:n<0):DoesI 27 #[.pointer (some ⟨0,0,none⟩),accV 6 n A B] (zaI ws bs wc bc) (.tuple #[.int .u64 0,.bool false]) (zaI ws bs wc bc):=by
  refine DoesI.mk Try.func27 rfl rfl ?clo ?rows ?_
  case clo=>exact zbe (by simp)
  case rows=>exact zaW ws bs wc bc
  rw [Try.ntmps27];simp only [List.size_toArray,List.length_cons,List.length_nil,List.replicate,List.cons_append,List.nil_append];simp only [zaI,List.map_cons,List.map_nil,accV,List.length_set];have hd1:decide (n<0)=true:=decide_eq_true hn;refine viaF hd1 ?_;refine Goes.finI rfl (by simp (disch:=(first|omega|(simp only [zaa,List.length_cons,List.length_nil,List.size_toArray,zae]<;>omega)|fail)) only [go_sem,resA,zaJ,Try.results27]<;>rfl) rfl rfl ?_ ?_
  . exact Clo.plain (by simp [zac])
  . exact zct
set_option maxRecDepth 100000 in
theorem zrr (ws:List UInt64) (bs:List UInt8) (wc bc:Nat) (n:Int) (A B:UInt64) (hn:(bs.length:Int)<=n):DoesI 27 #[.pointer (some ⟨0,0,none⟩),accV 6 n A B] (zaI ws bs wc bc) (.tuple #[.int .u64 0,.bool false]) (zaI ws bs wc bc):=by
  refine DoesI.mk Try.func27 rfl rfl ?clo ?rows ?_
  case clo=>exact zbe (by simp)
  case rows=>exact zaW ws bs wc bc
  rw [Try.ntmps27];simp only [List.size_toArray,List.length_cons,List.length_nil,List.replicate,List.cons_append,List.nil_append];simp only [zaI,List.map_cons,List.map_nil,accV,List.length_set];have hd1:decide (n<0)=false:=decide_eq_false (by omega)
  have hd2:decide (n >= (bs.length:Int))=true:=decide_eq_true (by omega)
  refine viaF (And.intro hd1 hd2) ?_;((first|refine At.callX [0,1,2] rfl rfl rfl (by decide) rfl (fun K hK=>?_)|refine RG.callX [0,1,2] rfl rfl rfl rfl (by decide) (fun K hK=>?_));simp (disch:=(first|omega|(simp only [zaa,List.length_cons,List.length_nil,List.size_toArray,zae]<;>omega)|fail)) only [go_sem];refine⟨_,_,_,_,_,_,(ziG ws bs wc bc),by first|rfl|simp (disch:=(first|omega|(simp only [zaa,List.length_cons,List.length_nil,List.size_toArray,zae]<;>omega)|fail)) only [go_sem],by ((repeat (refine⟨⟨_,rfl,rfl,?_,(by first|exact .inr rfl|exact .inl rfl),(by first|exact fun h=>h|exact fun _=>rfl|(intro h;cases h))⟩,?_⟩;· first|exact zan zaj|(simp [up_0,up_1,up_2,up_3,up_4,zaA,zas,adr];done)|(simp [zb6];done)|exact zan (by simp [zac];done)|simp [up_0,up_1,up_2,zdt,zaA,zas,adr]));exact trivial),by first|exact⟨rfl,rfl⟩|rfl,?_⟩;(try simp only [go_sem]);(first|refine hK _ _ _ ?_|refine hK _ _ _ _ ?_);clear hK K)
  refine viaF (And.intro hd1 hd2) ?_;refine Goes.finI rfl (by simp (disch:=(first|omega|(simp only [zaa,List.length_cons,List.length_nil,List.size_toArray,zae]<;>omega)|fail)) only [go_sem,resA,zaJ,Try.results27]<;>rfl) rfl rfl ?_ ?_
  . exact Clo.plain (by simp [zac])
  . exact zct
set_option maxRecDepth 100000 in
theorem zte (ws:List UInt64) (bs:List UInt8) (wc bc k:Nat) (A B:UInt64) (hk:k<bs.length):DoesI 27 #[.pointer (some ⟨0,0,none⟩),accV 6 (k:Int) A B] (zaI ws bs wc bc) (.tuple #[.int .u64 0,.bool true]) (zaI ws (bs.set k A.toUInt8) wc bc):=by
  refine DoesI.mk Try.func27 rfl rfl ?clo ?rows ?_
  case clo=>exact zbe (by simp)
  case rows=>exact zaW ws bs wc bc
  rw [Try.ntmps27];simp only [List.size_toArray,List.length_cons,List.length_nil,List.replicate,List.cons_append,List.nil_append];simp only [zaI,List.map_cons,List.map_nil,accV,List.length_set];have hd1:decide ((k:Int)<0)=false:=decide_eq_false (by omega)
  have hd2:decide ((k:Int) >= (bs.length:Int))=false:=decide_eq_false (by omega)
  have hll:=zri bs;have hk1:=Nat.mul_one k;have hw:=zsm A;refine viaF (And.intro hd1 (And.intro hd2 (And.intro hll (And.intro hk1 hw)))) ?_;((first|refine At.callX [0,1,2] rfl rfl rfl (by decide) rfl (fun K hK=>?_)|refine RG.callX [0,1,2] rfl rfl rfl rfl (by decide) (fun K hK=>?_));simp (disch:=(first|omega|(simp only [zaa,List.length_cons,List.length_nil,List.size_toArray,zae]<;>omega)|fail)) only [go_sem];refine⟨_,_,_,_,_,_,(ziG ws bs wc bc),by first|rfl|simp (disch:=(first|omega|(simp only [zaa,List.length_cons,List.length_nil,List.size_toArray,zae]<;>omega)|fail)) only [go_sem],by ((repeat (refine⟨⟨_,rfl,rfl,?_,(by first|exact .inr rfl|exact .inl rfl),(by first|exact fun h=>h|exact fun _=>rfl|(intro h;cases h))⟩,?_⟩;· first|exact zan zaj|(simp [up_0,up_1,up_2,up_3,up_4,zaA,zas,adr];done)|(simp [zb6];done)|exact zan (by simp [zac];done)|simp [up_0,up_1,up_2,zdt,zaA,zas,adr]));exact trivial),by first|exact⟨rfl,rfl⟩|rfl,?_⟩;(try simp only [go_sem]);(first|refine hK _ _ _ ?_|refine hK _ _ _ _ ?_);clear hK K)
  refine viaF (And.intro hd1 (And.intro hd2 (And.intro hll (And.intro hk1 hw)))) ?_;rw [ztX];refine Goes.finI rfl (by simp (disch:=(first|omega|(simp only [zaa,List.length_cons,List.length_nil,List.size_toArray,zae]<;>omega)|fail)) only [go_sem,resA,zaJ,Try.results27]<;>rfl) rfl rfl ?_ ?_
  . exact Clo.plain (by simp [zac])
  . exact zct
theorem zf2 {n:Int} {A B:UInt64} {ws:List UInt64}:wS 1 n A B ws=ws:=by
  unfold wS wAt;split
  . rfl
  . rename_i x h;split at h
    . cases h
    . obtain⟨hi,rfl⟩:=List.getElem?_eq_some_iff.1 h;exact set_same hi
theorem do_x (ws:List UInt64) (bs:List UInt8) (wc bc c:Nat) (n:Int) (A B:UInt64) (h1:1<=c) (h4:c<=4):DoesI 27 #[.pointer (some ⟨0,0,none⟩),accV c n A B] (zaI ws bs wc bc) (.tuple #[.int .u64 ((wT c n A ws).toNat:Int),.bool (wAt ws n).isSome]) (zaI (wS c n A B ws) bs wc bc):=by
  by_cases hn:n<0
  . simp only [wT,wS,zrR hn]
    match c,h1,h4 with
    | 1,_,_=>exact zrZ ws bs wc bc n A B hn
    | 2,_,_=>exact zrX ws bs wc bc n A B hn
    | 3,_,_=>exact zsi ws bs wc bc n A B hn
    | 4,_,_=>exact zrN ws bs wc bc n A B hn
  . by_cases hf:(ws.length:Int)<=n
    . simp only [wT,wS,zsG hf]
      match c,h1,h4 with
      | 1,_,_=>exact zsN ws bs wc bc n A B hf
      | 2,_,_=>exact zsP ws bs wc bc n A B hf
      | 3,_,_=>exact zrs ws bs wc bc n A B hf
      | 4,_,_=>exact zrT ws bs wc bc n A B hf
    . obtain⟨k,rfl⟩:∃ k:Nat,n=k:=⟨n.toNat,by omega⟩
      have hk:k<ws.length:=by omega
      simp only [wT,wS,ztN hk,Int.toNat_natCast]
      match c,h1,h4 with
      | 1,_,_=>exact zs4 ws bs wc bc k A B hk
      | 2,_,_=>exact ztQ ws bs wc bc k A B hk
      | 3,_,_=>exact ztW ws bs wc bc k A B hk
      | 4,_,_=>exact ztc ws bs wc bc k A B hk
theorem zs8 (ws:List UInt64) (bs:List UInt8) (wc bc:Nat) (n:Int) (A B:UInt64):DoesI 27 #[.pointer (some ⟨0,0,none⟩),accV 5 n A B] (zaI ws bs wc bc) (.tuple #[.int .u64 ((bT n bs).toNat:Int),.bool (bAt bs n).isSome]) (zaI ws bs wc bc):=by
  by_cases hn:n<0
  . simp only [bT,zpo hn];exact zsB ws bs wc bc n A B hn
  . by_cases hf:(bs.length:Int)<=n
    . simp only [bT,znQ hf];exact zrY ws bs wc bc n A B hf
    . obtain⟨k,rfl⟩:∃ k:Nat,n=k:=⟨n.toNat,by omega⟩
      have hk:k<bs.length:=by omega
      simp only [bT,zrf hk];exact ztz ws bs wc bc k A B hk
theorem zsV (ws:List UInt64) (bs:List UInt8) (wc bc:Nat) (n:Int) (A B:UInt64):DoesI 27 #[.pointer (some ⟨0,0,none⟩),accV 6 n A B] (zaI ws bs wc bc) (.tuple #[.int .u64 0,.bool (bAt bs n).isSome]) (zaI ws (bS n A.toUInt8 bs) wc bc):=by
  by_cases hn:n<0
  . simp only [bS,zpo hn];exact zrG ws bs wc bc n A B hn
  . by_cases hf:(bs.length:Int)<=n
    . simp only [bS,znQ hf];exact zrr ws bs wc bc n A B hf
    . obtain⟨k,rfl⟩:∃ k:Nat,n=k:=⟨n.toNat,by omega⟩
      have hk:k<bs.length:=by omega
      simp only [bS,zrf hk,Int.toNat_natCast];exact zte ws bs wc bc k A B hk
theorem zsC (ws:List UInt64) (bs:List UInt8) (wc bc c:Nat) (n:Int) (A B:UInt64) (h1:1<=c) (h4:c<=4):DoesI 27 #[.pointer (some ⟨0,0,none⟩),.agg #[.int .u8 (c:Int),.int .i64 n,.int .u64 (A.toNat:Int),.int .u64 (B.toNat:Int)]] (zaI ws bs wc bc) (.tuple #[.int .u64 ((wT c n A ws).toNat:Int),.bool (wAt ws n).isSome]) [mB ws.length wc bs.length bc,wB (wS c n A B ws),bB bs]:=by
  have h:=do_x ws bs wc bc c n A B h1 h4;simp only [zaI,zfD] at h;exact h
theorem zrM (ws:List UInt64) (bs:List UInt8) (wc bc:Nat) (n:Int) (A B:UInt64):DoesI 27 #[.pointer (some ⟨0,0,none⟩),.agg #[.int .u8 ((5:Nat):Int),.int .i64 n,.int .u64 (A.toNat:Int),.int .u64 (B.toNat:Int)]] (zaI ws bs wc bc) (.tuple #[.int .u64 ((bT n bs).toNat:Int),.bool (bAt bs n).isSome]) [mB ws.length wc bs.length bc,wB ws,bB bs]:=zs8 ws bs wc bc n A B
theorem zr7 (ws:List UInt64) (bs:List UInt8) (wc bc:Nat) (n:Int) (A B:UInt64):DoesI 27 #[.pointer (some ⟨0,0,none⟩),.agg #[.int .u8 ((6:Nat):Int),.int .i64 n,.int .u64 (A.toNat:Int),.int .u64 (B.toNat:Int)]] (zaI ws bs wc bc) (.tuple #[.int .u64 0,.bool (bAt bs n).isSome]) [mB ws.length wc bs.length bc,wB ws,bB (bS n A.toUInt8 bs)]:=by
  have h:=zsV ws bs wc bc n A B;simp only [zaI,zjK] at h;exact h
theorem ztn {n:Nat} {u0:Value} (h:0<n) (h0:zac u0=true):∀ u∈(#[.pointer (some ⟨0,0,none⟩),u0]:Array Value).toList,Clo (Kn n 0) u:=fun u hu=>by
  simp only [List.mem_cons,List.not_mem_nil,or_false] at hu;rcases hu with rfl|rfl
  . exact ze5 h
  . exact Clo.plain h0
theorem z64:(((0:UInt64).toNat:Nat):Int)=0:=rfl
theorem zbH {E:Emb} {k:IntKind} {ns:List Int}:List.map (ren E) (zdH k ns)=zdH k ns:=(zan zaj).symm
theorem ztL (ws:List UInt64) (bs:List UInt8) (wc bc:Nat) (n:Int):DoesI 12 #[.pointer (some ⟨0,0,none⟩),.int .i64 n] (zaI ws bs wc bc) (.int .u64 ((wT 1 n 0 ws).toNat:Int)) (zaI ws bs wc bc):=by
  refine DoesI.mk Try.func12 rfl rfl ?clo ?rows ?_
  case clo=>exact ztn (by simp) rfl
  case rows=>exact zaW ws bs wc bc
  rw [Try.ntmps12];simp only [List.size_toArray,List.length_cons,List.length_nil,List.replicate,List.cons_append,List.nil_append];simp only [zaI,List.map_cons,List.map_nil];refine via ?_;have hdo:=zsC ws bs wc bc 1 n 0 0 (by omega) (by omega)
  simp only [zf2,z64] at hdo;((first|refine At.callX [0,1,2] rfl rfl rfl (by decide) rfl (fun K hK=>?_)|refine RG.callX [0,1,2] rfl rfl rfl rfl (by decide) (fun K hK=>?_));simp (disch:=(first|omega|(simp only [zaa,List.length_cons,List.length_nil,List.size_toArray,zae]<;>omega)|fail)) only [go_sem];refine⟨_,_,_,_,_,_,hdo.x,by first|rfl|simp (disch:=(first|omega|(simp only [zaa,List.length_cons,List.length_nil,List.size_toArray,zae]<;>omega)|fail)) only [go_sem],by ((repeat (refine⟨⟨_,rfl,rfl,?_,(by first|exact .inr rfl|exact .inl rfl),(by first|exact fun h=>h|exact fun _=>rfl|(intro h;cases h))⟩,?_⟩;· first|exact zan zaj|(simp [up_0,up_1,up_2,up_3,up_4,zaA,zas,adr];done)|(simp [zb6];done)|exact zan (by simp [zac];done)|simp [up_0,up_1,up_2,zdt,zaA,zas,adr]));exact trivial),by first|exact⟨rfl,rfl⟩|rfl,?_⟩;(try simp only [go_sem]);(first|refine hK _ _ _ ?_|refine hK _ _ _ _ ?_);clear hK K)
  simp only [zbH,Bool.true_eq_false,if_false];refine via ?_;refine Goes.finI rfl (by simp (disch:=(first|omega|(simp only [zaa,List.length_cons,List.length_nil,List.size_toArray,zae]<;>omega)|fail)) only [go_sem,resA,zaJ,Try.results12]<;>rfl) rfl rfl ?_ ?_
  . exact Clo.plain rfl
  . exact zct
abbrev yB (s:Nat):Blk:=⟨[.pointer (some ⟨0,0,none⟩),.int .i64 (s:Int)],64,false,none⟩
abbrev zkB (ws:List UInt64) (bs:List UInt8) (wc bc s:Nat):List Blk:=[mB ws.length wc bs.length bc,wB ws,bB bs,yB s]
theorem znF (ws:List UInt64) (bs:List UInt8) (wc bc s:Nat):∀ b∈zkB ws bs wc bc s,∀ u∈b.cells,Clo (Kn (zkB ws bs wc bc s).length 0) u:=by
  intro b hb u hu;simp only [List.mem_cons,List.not_mem_nil,or_false] at hb;rcases hb with rfl|rfl|rfl|rfl
  . simp only [List.mem_cons,List.not_mem_nil,or_false] at hu;rcases hu with rfl|rfl
    . exact zjz (by simp)
    . exact zjz (by simp)
  . exact Clo.plain (zaj u hu)
  . exact Clo.plain (zaj u hu)
  . simp only [List.mem_cons,List.not_mem_nil,or_false] at hu;rcases hu with rfl|rfl
    . exact ze5 (by simp)
    . exact Clo.plain rfl
theorem ztA {n c s:Nat} (h:0<n):∀ u∈(yB s).cells,Clo (Kn n c) u:=fun u hu=>by
  simp only [List.mem_cons,List.not_mem_nil,or_false] at hu;rcases hu with rfl|rfl
  . exact ze5 h
  . exact Clo.plain rfl
theorem zs7 {ws ws':List UInt64} {bs bs':List UInt8} {wn wc bn bc m c s s':Nat} {l:List (Option Blk)} (hm:0<m):∀ (i:Nat) b,[mB wn wc bn bc,wB ws,bB bs,yB s][i]?=some b->b.ro=false->∃ b1,(zaq (some (mB wn wc bn bc)::some (wB ws')::some (bB bs')::some (yB s')::l)).get i=some b1/\[mB wn wc bn bc,wB ws',bB bs',yB s'][i]?=some b1/\b1.ro=false/\∀ u∈b1.cells,Clo (Kn m c) u
  | 0,b,hb,hro=>by simp at hb;subst hb;cases hro
  | 1,b,_,_=>⟨wB ws',rfl,rfl,rfl,fun u hu=>Clo.plain (ziJ ws' u hu)⟩
  | 2,b,_,_=>⟨bB bs',rfl,rfl,rfl,fun u hu=>Clo.plain (zi0 bs' u hu)⟩
  | 3,b,_,_=>⟨yB s',rfl,rfl,rfl,ztA hm⟩
  | i+4,b,hb,_=>by simp at hb
theorem ztI {c:Nat} {n:Int} {A B:UInt64} {m:Nat} (h:3<m):∀ u∈(#[.pointer (some ⟨3,0,none⟩),.int .u8 (c:Int),.int .i64 n,.int .u64 (A.toNat:Int),.int .u64 (B.toNat:Int)]:Array Value).toList,Clo (Kn m 0) u:=fun u hu=>by
  simp only [List.mem_cons,List.not_mem_nil,or_false] at hu;rcases hu with rfl|rfl|rfl|rfl|rfl
  . exact ze5 h
  all_goals exact Clo.plain rfl
theorem zt4 {s:Nat} (h:s<=1000000000000):IntKind.i64.wrap ((s:Int)+1)=((s+1:Nat):Int):=by rw [IntKind.wrap_i64];omega
theorem zr1 (ws:List UInt64) (bs:List UInt8) (wc bc s c:Nat) (n:Int) (A B:UInt64) (h1:1<=c) (h4:c<=4) (hs:s<=1000000000000):DoesI 68 #[.pointer (some ⟨3,0,none⟩),.int .u8 (c:Int),.int .i64 n,.int .u64 (A.toNat:Int),.int .u64 (B.toNat:Int)] (zkB ws bs wc bc s) (.int .u64 ((wT c n A ws).toNat:Int)) [mB ws.length wc bs.length bc,wB (wS c n A B ws),bB bs,yB (s+1)]:=by
  refine DoesI.mk Try.func68 rfl rfl ?clo ?rows ?_
  case clo=>exact ztI (by simp)
  case rows=>exact znF ws bs wc bc s
  rw [Try.ntmps68];simp only [List.size_toArray,List.length_cons,List.length_nil,List.replicate,List.cons_append,List.nil_append];simp only [zkB,List.map_cons,List.map_nil];have hs1:=zt4 hs;refine viaF hs1 ?_;have hdo:=zsC ws bs wc bc c n A B h1 h4;((first|refine At.callX [0,1,2] rfl rfl rfl (by decide) rfl (fun K hK=>?_)|refine RG.callX [0,1,2] rfl rfl rfl rfl (by decide) (fun K hK=>?_));simp (disch:=(first|omega|(simp only [zaa,List.length_cons,List.length_nil,List.size_toArray,zae]<;>omega)|fail)) only [go_sem];refine⟨_,_,_,_,_,_,hdo.x,by first|rfl|simp (disch:=(first|omega|(simp only [zaa,List.length_cons,List.length_nil,List.size_toArray,zae]<;>omega)|fail)) only [go_sem],by ((repeat (refine⟨⟨_,rfl,rfl,?_,(by first|exact .inr rfl|exact .inl rfl),(by first|exact fun h=>h|exact fun _=>rfl|(intro h;cases h))⟩,?_⟩;· first|exact zan zaj|(simp [up_0,up_1,up_2,up_3,up_4,zaA,zas,adr];done)|(simp [zb6];done)|exact zan (by simp [zac];done)|simp [up_0,up_1,up_2,zdt,zaA,zas,adr]));exact trivial),by first|exact⟨rfl,rfl⟩|rfl,?_⟩;(try simp only [go_sem]);(first|refine hK _ _ _ ?_|refine hK _ _ _ _ ?_);clear hK K)
  simp only [zbH,Bool.true_eq_false,if_false];refine via ?_;refine Goes.finI rfl (by simp (disch:=(first|omega|(simp only [zaa,List.length_cons,List.length_nil,List.size_toArray,zae]<;>omega)|fail)) only [go_sem,resA,zaJ,Try.results68]<;>rfl) rfl rfl ?_ ?_
  . exact Clo.plain rfl
  . exact zs7 (by simp)
abbrev yBr (s:Nat):Blk:=⟨[.pointer (some ⟨0,0,none⟩),.int .i64 (s:Int)],64,true,none⟩
abbrev dB (me:Int):Blk:=⟨[.pointer (some ⟨3,0,none⟩),.int .i64 me],67,true,none⟩
abbrev dRo (ws:List UInt64) (bs:List UInt8) (wc bc s:Nat) (me:Int):List Blk:=[mB ws.length wc bs.length bc,wBr ws,bBr bs,yBr s,dB me]
abbrev zkJ (ws:List UInt64) (bs:List UInt8) (wc bc s:Nat) (me:Int):List Blk:=[mB ws.length wc bs.length bc,wB ws,bB bs,yB s,dB me]
theorem dcl (ws:List UInt64) (bs:List UInt8) (wc bc s:Nat) (me:Int) (r1 r2 r3:Bool):∀ b∈[mB ws.length wc bs.length bc,⟨wL ws,34,r1,none⟩,⟨bL bs,5,r2,none⟩,⟨[.pointer (some ⟨0,0,none⟩),.int .i64 (s:Int)],64,r3,none⟩,dB me],∀ u∈b.cells,Clo (Kn 5 0) u:=by
  intro b hb u hu;simp only [List.mem_cons,List.not_mem_nil,or_false] at hb;rcases hb with rfl|rfl|rfl|rfl|rfl
  . simp only [List.mem_cons,List.not_mem_nil,or_false] at hu;rcases hu with rfl|rfl
    . exact zjz (by simp)
    . exact zjz (by simp)
  . exact Clo.plain (zaj u hu)
  . exact Clo.plain (zaj u hu)
  . simp only [List.mem_cons,List.not_mem_nil,or_false] at hu;rcases hu with rfl|rfl
    . exact ze5 (by simp)
    . exact Clo.plain rfl
  . simp only [List.mem_cons,List.not_mem_nil,or_false] at hu;rcases hu with rfl|rfl
    . exact ze5 (by simp)
    . exact Clo.plain rfl
theorem zpl {ws ws':List UInt64} {bs bs':List UInt8} {wn wc bn bc m c s s':Nat} {me:Int} {l:List (Option Blk)} (hm:0<m):∀ (i:Nat) b,[mB wn wc bn bc,wB ws,bB bs,yB s,dB me][i]?=some b->b.ro=false->∃ b1,(zaq (some (mB wn wc bn bc)::some (wB ws')::some (bB bs')::some (yB s')::some (dB me)::l)).get i=some b1/\[mB wn wc bn bc,wB ws',bB bs',yB s',dB me][i]?=some b1/\b1.ro=false/\∀ u∈b1.cells,Clo (Kn m c) u
  | 0,b,hb,hro=>by simp at hb;subst hb;cases hro
  | 1,b,_,_=>⟨wB ws',rfl,rfl,rfl,fun u hu=>Clo.plain (ziJ ws' u hu)⟩
  | 2,b,_,_=>⟨bB bs',rfl,rfl,rfl,fun u hu=>Clo.plain (zi0 bs' u hu)⟩
  | 3,b,_,_=>⟨yB s',rfl,rfl,rfl,ztA hm⟩
  | 4,b,hb,hro=>by simp at hb;subst hb;cases hro
  | i+5,b,hb,_=>by simp at hb
theorem zoj {zs:List Value} (h:∀ u∈zs,zac u=true):∀ u∈(Value.pointer (some ⟨4,0,none⟩)::zs),Clo (Kn 5 0) u:=fun u hu=>by
  rcases List.mem_cons.1 hu with rfl|hu
  . exact ze5 (by simp)
  . exact Clo.plain (h u hu)
theorem zr9 (ws:List UInt64) (bs:List UInt8) (wc bc s:Nat) (me:Int):DoesX BT 67 #[.pointer (some ⟨4,0,none⟩)] (dRo ws bs wc bc s me) () (.pointer (some ⟨3,0,none⟩)) (dRo ws bs wc bc s me) [] ():=by
  refine DoesX.mk Try.func67 rfl rfl ?clo ?rows ?_
  case clo=>exact zoj (zs:=[]) (by simp)
  case rows=>exact dcl ws bs wc bc s me true true true
  rw [Try.ntmps67];simp only [List.size_toArray,List.length_cons,List.length_nil,List.replicate,List.cons_append,List.nil_append];simp only [dRo,List.map_cons,List.map_nil];refine via ?_;refine Goes.finS rfl (by simp (disch:=(first|omega|(simp only [zaa,List.length_cons,List.length_nil,List.size_toArray,zae]<;>omega)|fail)) only [go_sem,resA,zaJ,Try.results67]<;>rfl) ?_ rfl ?_
  . rfl
  . exact ze5 (by simp)
theorem zs2 (x:UInt64):((x.toNat:Int)==1)=(x==1):=by
  by_cases h:x=1
  . subst h;rfl
  . have h2:(x==1)=false:=by simpa using h
    rw [h2];simp only [beq_eq_false_iff_ne,ne_eq];intro z;exact h (UInt64.toNat_inj.1 (by have:(1:UInt64).toNat=1:=rfl;omega))
theorem zsy (ws:List UInt64) (bs:List UInt8) (wc bc s:Nat) (me:Int) (n:Int) (hs:s<=1000000000000):DoesI 61 #[.pointer (some ⟨4,0,none⟩),.int .i64 n] (zkJ ws bs wc bc s me) (.int .u64 ((wT 1 n 0 ws).toNat:Int)) [mB ws.length wc bs.length bc,wB ws,bB bs,yB (s+1),dB me]:=by
  refine DoesI.mk Try.func61 rfl rfl ?clo ?rows ?_
  case clo=>exact zoj (zs:=[.int .i64 n]) (by simp [zac])
  case rows=>exact dcl ws bs wc bc s me false false false
  rw [Try.ntmps61];simp only [List.size_toArray,List.length_cons,List.length_nil,List.replicate,List.cons_append,List.nil_append];simp only [zkJ,List.map_cons,List.map_nil];refine via ?_;((first|refine At.callX [0,1,2,3,4] rfl rfl rfl (by decide) rfl (fun K hK=>?_)|refine RG.callX [0,1,2,3,4] rfl rfl rfl rfl (by decide) (fun K hK=>?_));simp (disch:=(first|omega|(simp only [zaa,List.length_cons,List.length_nil,List.size_toArray,zae]<;>omega)|fail)) only [go_sem,up_3,up_4];refine⟨_,_,_,_,_,_,zr9 ws bs wc bc s me,by first|rfl|simp (disch:=(first|omega|(simp only [zaa,List.length_cons,List.length_nil,List.size_toArray,zae]<;>omega)|fail)) only [go_sem,up_3,up_4],by ((repeat (refine⟨⟨_,rfl,rfl,?_,(by first|exact .inr rfl|exact .inl rfl),(by first|exact fun h=>h|exact fun _=>rfl|(intro h;cases h))⟩,?_⟩;· first|exact zan zaj|(simp [up_0,up_1,up_2,up_3,up_4,zaA,zas,adr];done)|(simp [zb6];done)|exact zan (by simp [zac];done)|simp [up_0,up_1,up_2,zdt,zaA,zas,adr]));exact trivial),by first|exact⟨rfl,rfl⟩|rfl,?_⟩;(try simp only [go_sem]);(first|refine hK _ _ _ ?_|refine hK _ _ _ _ ?_);clear hK K)
  simp only [zbH,up_3,Bool.true_eq_false,if_false];refine via ?_;have hy:=zr1 ws bs wc bc s 1 n 0 0 (by omega) (by omega) hs
  simp only [zkB,zf2,z64] at hy;((first|refine At.callX [0,1,2,3] rfl rfl rfl (by decide) rfl (fun K hK=>?_)|refine RG.callX [0,1,2,3] rfl rfl rfl rfl (by decide) (fun K hK=>?_));simp (disch:=(first|omega|(simp only [zaa,List.length_cons,List.length_nil,List.size_toArray,zae]<;>omega)|fail)) only [go_sem,up_3,up_4];refine⟨_,_,_,_,_,_,hy.x,by first|rfl|simp (disch:=(first|omega|(simp only [zaa,List.length_cons,List.length_nil,List.size_toArray,zae]<;>omega)|fail)) only [go_sem,up_3,up_4],by ((repeat (refine⟨⟨_,rfl,rfl,?_,(by first|exact .inr rfl|exact .inl rfl),(by first|exact fun h=>h|exact fun _=>rfl|(intro h;cases h))⟩,?_⟩;· first|exact zan zaj|(simp [up_0,up_1,up_2,up_3,up_4,zaA,zas,adr];done)|(simp [zb6];done)|exact zan (by simp [zac];done)|simp [up_0,up_1,up_2,zdt,zaA,zas,adr]));exact trivial),by first|exact⟨rfl,rfl⟩|rfl,?_⟩;(try simp only [go_sem]);(first|refine hK _ _ _ ?_|refine hK _ _ _ _ ?_);clear hK K)
  simp only [zbH,up_3,Bool.true_eq_false,if_false];refine via ?_;refine Goes.finI rfl (by simp (disch:=(first|omega|(simp only [zaa,List.length_cons,List.length_nil,List.size_toArray,zae]<;>omega)|fail)) only [go_sem,resA,zaJ,Try.results61]<;>rfl) rfl rfl ?_ ?_
  . exact Clo.plain rfl
  . exact zpl (by simp)
theorem ztx (ws:List UInt64) (bs:List UInt8) (wc bc s:Nat) (me:Int) (n:Int) (A B:UInt64) (hs:s<=1000000000000):DoesI 58 #[.pointer (some ⟨4,0,none⟩),.int .i64 n,.int .u64 (A.toNat:Int),.int .u64 (B.toNat:Int)] (zkJ ws bs wc bc s me) (.bool (wT 3 n A ws==1)) [mB ws.length wc bs.length bc,wB (wS 3 n A B ws),bB bs,yB (s+1),dB me]:=by
  refine DoesI.mk Try.func58 rfl rfl ?clo ?rows ?_
  case clo=>exact zoj (zs:=[.int .i64 n,.int .u64 (A.toNat:Int),.int .u64 (B.toNat:Int)]) (by simp [zac])
  case rows=>exact dcl ws bs wc bc s me false false false
  rw [Try.ntmps58];simp only [List.size_toArray,List.length_cons,List.length_nil,List.replicate,List.cons_append,List.nil_append];simp only [zkJ,List.map_cons,List.map_nil];have he:(((wT 3 n A ws).toNat:Int)==1)=(wT 3 n A ws==1):=zs2 _;refine viaF he ?_;((first|refine At.callX [0,1,2,3,4] rfl rfl rfl (by decide) rfl (fun K hK=>?_)|refine RG.callX [0,1,2,3,4] rfl rfl rfl rfl (by decide) (fun K hK=>?_));simp (disch:=(first|omega|(simp only [zaa,List.length_cons,List.length_nil,List.size_toArray,zae]<;>omega)|fail)) only [go_sem,up_3,up_4];refine⟨_,_,_,_,_,_,zr9 ws bs wc bc s me,by first|rfl|simp (disch:=(first|omega|(simp only [zaa,List.length_cons,List.length_nil,List.size_toArray,zae]<;>omega)|fail)) only [go_sem,up_3,up_4],by ((repeat (refine⟨⟨_,rfl,rfl,?_,(by first|exact .inr rfl|exact .inl rfl),(by first|exact fun h=>h|exact fun _=>rfl|(intro h;cases h))⟩,?_⟩;· first|exact zan zaj|(simp [up_0,up_1,up_2,up_3,up_4,zaA,zas,adr];done)|(simp [zb6];done)|exact zan (by simp [zac];done)|simp [up_0,up_1,up_2,zdt,zaA,zas,adr]));exact trivial),by first|exact⟨rfl,rfl⟩|rfl,?_⟩;(try simp only [go_sem]);(first|refine hK _ _ _ ?_|refine hK _ _ _ _ ?_);clear hK K)
  simp only [zbH,up_3,Bool.true_eq_false,if_false];refine viaF he ?_;have hy:=zr1 ws bs wc bc s 3 n A B (by omega) (by omega) hs
  simp only [zkB,zf2,z64] at hy;((first|refine At.callX [0,1,2,3] rfl rfl rfl (by decide) rfl (fun K hK=>?_)|refine RG.callX [0,1,2,3] rfl rfl rfl rfl (by decide) (fun K hK=>?_));simp (disch:=(first|omega|(simp only [zaa,List.length_cons,List.length_nil,List.size_toArray,zae]<;>omega)|fail)) only [go_sem,up_3,up_4];refine⟨_,_,_,_,_,_,hy.x,by first|rfl|simp (disch:=(first|omega|(simp only [zaa,List.length_cons,List.length_nil,List.size_toArray,zae]<;>omega)|fail)) only [go_sem,up_3,up_4],by ((repeat (refine⟨⟨_,rfl,rfl,?_,(by first|exact .inr rfl|exact .inl rfl),(by first|exact fun h=>h|exact fun _=>rfl|(intro h;cases h))⟩,?_⟩;· first|exact zan zaj|(simp [up_0,up_1,up_2,up_3,up_4,zaA,zas,adr];done)|(simp [zb6];done)|exact zan (by simp [zac];done)|simp [up_0,up_1,up_2,zdt,zaA,zas,adr]));exact trivial),by first|exact⟨rfl,rfl⟩|rfl,?_⟩;(try simp only [go_sem]);(first|refine hK _ _ _ ?_|refine hK _ _ _ _ ?_);clear hK K)
  simp only [zbH,up_3,Bool.true_eq_false,if_false];refine viaF he ?_;refine Goes.finI rfl (by simp (disch:=(first|omega|(simp only [zaa,List.length_cons,List.length_nil,List.size_toArray,zae]<;>omega)|fail)) only [go_sem,resA,zaJ,Try.results58]<;>rfl) rfl rfl ?_ ?_
  . exact Clo.plain rfl
  . exact zpl (by simp)
theorem zsT (ws:List UInt64) (bs:List UInt8) (wc bc s:Nat) (me:Int) (n:Int) (A:UInt64) (hs:s<=1000000000000):DoesI 57 #[.pointer (some ⟨4,0,none⟩),.int .i64 n,.int .u64 (A.toNat:Int)] (zkJ ws bs wc bc s me) (.int .u64 ((wT 4 n A ws).toNat:Int)) [mB ws.length wc bs.length bc,wB (wS 4 n A 0 ws),bB bs,yB (s+1),dB me]:=by
  refine DoesI.mk Try.func57 rfl rfl ?clo ?rows ?_
  case clo=>exact zoj (zs:=[.int .i64 n,.int .u64 (A.toNat:Int)]) (by simp [zac])
  case rows=>exact dcl ws bs wc bc s me false false false
  rw [Try.ntmps57];simp only [List.size_toArray,List.length_cons,List.length_nil,List.replicate,List.cons_append,List.nil_append];simp only [zkJ,List.map_cons,List.map_nil];refine via ?_;((first|refine At.callX [0,1,2,3,4] rfl rfl rfl (by decide) rfl (fun K hK=>?_)|refine RG.callX [0,1,2,3,4] rfl rfl rfl rfl (by decide) (fun K hK=>?_));simp (disch:=(first|omega|(simp only [zaa,List.length_cons,List.length_nil,List.size_toArray,zae]<;>omega)|fail)) only [go_sem,up_3,up_4];refine⟨_,_,_,_,_,_,zr9 ws bs wc bc s me,by first|rfl|simp (disch:=(first|omega|(simp only [zaa,List.length_cons,List.length_nil,List.size_toArray,zae]<;>omega)|fail)) only [go_sem,up_3,up_4],by ((repeat (refine⟨⟨_,rfl,rfl,?_,(by first|exact .inr rfl|exact .inl rfl),(by first|exact fun h=>h|exact fun _=>rfl|(intro h;cases h))⟩,?_⟩;· first|exact zan zaj|(simp [up_0,up_1,up_2,up_3,up_4,zaA,zas,adr];done)|(simp [zb6];done)|exact zan (by simp [zac];done)|simp [up_0,up_1,up_2,zdt,zaA,zas,adr]));exact trivial),by first|exact⟨rfl,rfl⟩|rfl,?_⟩;(try simp only [go_sem]);(first|refine hK _ _ _ ?_|refine hK _ _ _ _ ?_);clear hK K)
  simp only [zbH,up_3,Bool.true_eq_false,if_false];refine via ?_;have hy:=zr1 ws bs wc bc s 4 n A 0 (by omega) (by omega) hs
  simp only [zkB,zf2,z64] at hy;((first|refine At.callX [0,1,2,3] rfl rfl rfl (by decide) rfl (fun K hK=>?_)|refine RG.callX [0,1,2,3] rfl rfl rfl rfl (by decide) (fun K hK=>?_));simp (disch:=(first|omega|(simp only [zaa,List.length_cons,List.length_nil,List.size_toArray,zae]<;>omega)|fail)) only [go_sem,up_3,up_4];refine⟨_,_,_,_,_,_,hy.x,by first|rfl|simp (disch:=(first|omega|(simp only [zaa,List.length_cons,List.length_nil,List.size_toArray,zae]<;>omega)|fail)) only [go_sem,up_3,up_4],by ((repeat (refine⟨⟨_,rfl,rfl,?_,(by first|exact .inr rfl|exact .inl rfl),(by first|exact fun h=>h|exact fun _=>rfl|(intro h;cases h))⟩,?_⟩;· first|exact zan zaj|(simp [up_0,up_1,up_2,up_3,up_4,zaA,zas,adr];done)|(simp [zb6];done)|exact zan (by simp [zac];done)|simp [up_0,up_1,up_2,zdt,zaA,zas,adr]));exact trivial),by first|exact⟨rfl,rfl⟩|rfl,?_⟩;(try simp only [go_sem]);(first|refine hK _ _ _ ?_|refine hK _ _ _ _ ?_);clear hK K)
  simp only [zbH,up_3,Bool.true_eq_false,if_false];refine via ?_;refine Goes.finI rfl (by simp (disch:=(first|omega|(simp only [zaa,List.length_cons,List.length_nil,List.size_toArray,zae]<;>omega)|fail)) only [go_sem,resA,zaJ,Try.results57]<;>rfl) rfl rfl ?_ ?_
  . exact Clo.plain rfl
  . exact zpl (by simp)
theorem zrS (ws:List UInt64) (bs:List UInt8) (wc bc s:Nat) (me:Int):DoesI 63 #[.pointer (some ⟨4,0,none⟩)] (dRo ws bs wc bc s me) (.int .i64 me) (dRo ws bs wc bc s me):=by
  refine DoesI.mk Try.func63 rfl rfl ?clo ?rows ?_
  case clo=>exact zoj (zs:=[]) (by simp)
  case rows=>exact dcl ws bs wc bc s me true true true
  rw [Try.ntmps63];simp only [List.size_toArray,List.length_cons,List.length_nil,List.replicate,List.cons_append,List.nil_append];simp only [dRo,List.map_cons,List.map_nil];refine via ?_;refine Goes.finI rfl (by simp (disch:=(first|omega|(simp only [zaa,List.length_cons,List.length_nil,List.size_toArray,zae]<;>omega)|fail)) only [go_sem,resA,zaJ,Try.results63]<;>rfl) rfl rfl ?_ ?_
  . exact Clo.plain rfl
  . exact zrL rfl
def ReadsI (f:FuncId) (args:Array Value) (l:List (Option Blk)) (v:Value):Prop:=∃ g c,Try.prog.funcs[f]?=some g/\g.body=some c/\Goes BT g (fun x=>∃ h1,x=.done v h1 ()) (.run (zag g c args).1 (zag g c args).2 (zaq l) ())
theorem ReadsI.mk {f:FuncId} {g:Func} {c:Code} {args:Array Value} {l:List (Option Blk)} {v:Value} (hf:Try.prog.funcs[f]?=some g) (hb:g.body=some c) (hrun:Goes BT g (fun x=>∃ h1,x=.done v h1 ()) (.run [.code c] (args.toList++List.replicate (g.ntmps - args.size) undef) (zaq l) ())):ReadsI f args l v:=⟨g,c,hf,hb,hrun⟩
abbrev wpR (self:Int) (s:Nat):Blk:=⟨[.int .i64 self,.int .i64 (wr s)],81,true,none⟩
abbrev thB (self:Int) (W:Value) (c:Option Nat) (Pd:Value) (busy:Bool):Blk:=⟨[.int .i64 self,W,.chan c,Pd,.bool busy],77,true,none⟩
abbrev aR (c:Nat) (n:Int) (A B:UInt64):Blk:=⟨[.int .u8 (c:Int),.int .i64 n,.int .u64 (A.toNat:Int),.int .u64 (B.toNat:Int)],61,true,none⟩
theorem zsf (self:Int) (s:Nat):ReadsI 75 #[.pointer (some ⟨0,0,none⟩)] [some (wpR self s)] (.int .i64 self):=by
  refine ReadsI.mk Try.func75 rfl ?_;rw [Try.ntmps75];simp only [List.size_toArray,List.length_cons,List.length_nil,List.replicate,List.cons_append,List.nil_append];refine via ?_;refine Goes.fin rfl (by simp (disch:=(first|omega|(simp only [zaa,List.length_cons,List.length_nil,List.size_toArray,zae]<;>omega)|fail)) only [go_sem,resA,zaJ,Try.results75]<;>rfl) ?_
  rfl
theorem ztT (self:Int) (W:Value) (c:Option Nat) (Pd:Value) (busy:Bool):ReadsI 25 #[.pointer (some ⟨0,0,none⟩)] [some (thB self W c Pd busy),none,none] (.bool busy):=by
  refine ReadsI.mk Try.func25 rfl ?_;rw [Try.ntmps25];simp only [List.size_toArray,List.length_cons,List.length_nil,List.replicate,List.cons_append,List.nil_append];refine via ?_;refine Goes.fin rfl (by simp (disch:=(first|omega|(simp only [zaa,List.length_cons,List.length_nil,List.size_toArray,zae]<;>omega)|fail)) only [go_sem,resA,zaJ,Try.results25]<;>rfl) ?_
  rfl
theorem ztO (self:Int) (W:Value) (c:Option Nat) (busy:Bool):ReadsI 32 #[.pointer (some ⟨0,0,none⟩)] [some (thB self W c (.pointer none) busy),none,none] (.tuple #[accZ,.bool false]):=by
  refine ReadsI.mk Try.func32 rfl ?_;rw [Try.ntmps32];simp only [List.size_toArray,List.length_cons,List.length_nil,List.replicate,List.cons_append,List.nil_append];refine via ?_;refine Goes.fin rfl (by simp (disch:=(first|omega|(simp only [zaa,List.length_cons,List.length_nil,List.size_toArray,zae]<;>omega)|fail)) only [go_sem,resA,zaJ,Try.results32]<;>rfl) ?_
  rfl
theorem zs1 (self:Int) (W:Value) (c:Option Nat) (busy:Bool) (k:Nat) (n:Int) (A B:UInt64):ReadsI 32 #[.pointer (some ⟨0,0,none⟩)] [some (thB self W c (.pointer (some ⟨2,0,none⟩)) busy),none,some (aR k n A B)] (.tuple #[accV k n A B,.bool true]):=by
  refine ReadsI.mk Try.func32 rfl ?_;rw [Try.ntmps32];simp only [List.size_toArray,List.length_cons,List.length_nil,List.replicate,List.cons_append,List.nil_append];refine via ?_;refine Goes.fin rfl (by simp (disch:=(first|omega|(simp only [zaa,List.length_cons,List.length_nil,List.size_toArray,zae]<;>omega)|fail)) only [go_sem,resA,zaJ,Try.results32]<;>rfl) ?_
  rfl
def MakesI (f:FuncId) (args:Array Value) (l:List (Option Blk)) (v:Value) (l1:List (Option Blk)):Prop:=∃ g c,Try.prog.funcs[f]?=some g/\g.body=some c/\Goes BT g (fun x=>x=.done v (zaq l1) ()) (.run (zag g c args).1 (zag g c args).2 (zaq l) ())
theorem MakesI.mk {f:FuncId} {g:Func} {c:Code} {args:Array Value} {l l1:List (Option Blk)} {v:Value} (hf:Try.prog.funcs[f]?=some g) (hb:g.body=some c) (hrun:Goes BT g (fun x=>x=.done v (zaq l1) ()) (.run [.code c] (args.toList++List.replicate (g.ntmps - args.size) undef) (zaq l) ())):MakesI f args l v l1:=⟨g,c,hf,hb,hrun⟩
theorem Goes.finM {fn:Func} {todo:List Item} {tmps:List Value} {h:AHeap} {v:Value} (ht:retB todo=true) (hv:resA Try.prog fn tmps h=some v):Goes BT fn (fun x=>x=.done v h ()) (.run todo tmps h ()):=.ret ht hv (.here rfl)
theorem ztk (me:Int):MakesI 14 #[.pointer (some ⟨0,0,none⟩),.int .i64 me] [none] (.pointer (some ⟨2,0,none⟩)) [none,some ⟨[.pointer (some ⟨0,0,none⟩),.int .i64 0],64,false,some 0⟩,some ⟨[.pointer (some ⟨1,0,none⟩),.int .i64 me,.pointer none],67,false,some 0⟩]:=by
  refine MakesI.mk Try.func14 rfl ?_;rw [Try.ntmps14];simp only [List.size_toArray,List.length_cons,List.length_nil,List.replicate,List.cons_append,List.nil_append];refine via ?_;exact Goes.finM rfl (by simp (disch:=(first|omega|(simp only [zaa,List.length_cons,List.length_nil,List.size_toArray,zae]<;>omega)|fail)) only [go_sem,resA,zaJ,Try.results14]<;>rfl)
theorem zsU (a b:Nat) (ha:a<=2097152) (hb:b<=1048576):MakesI 18 #[.int .i64 (a:Int),.int .i64 (b:Int)] [] (.tuple #[.pointer (some ⟨2,0,none⟩),.int .i64 0]) [some ⟨zbw [.int .u64 0] a,34,false,some 0⟩,some ⟨zbw [.int .u8 0] b,5,false,some 0⟩,some ⟨[.slice (some ⟨0,0,none⟩) a a,.slice (some ⟨1,0,none⟩) b b],71,false,some 0⟩]:=by
  refine MakesI.mk Try.func18 rfl ?_;rw [Try.ntmps18];simp only [List.size_toArray,List.length_cons,List.length_nil,List.replicate,List.cons_append,List.nil_append];have h1:decide ((a:Int)<0)=false:=decide_eq_false (by omega)
  have h2:decide ((b:Int)<0)=false:=decide_eq_false (by omega)
  have h3:decide ((a:Int) > 2097152)=false:=decide_eq_false (by omega)
  have h4:decide ((b:Int) > 1048576)=false:=decide_eq_false (by omega)
  refine viaF (And.intro h1 (And.intro h2 (And.intro h3 h4))) ?_;exact Goes.finM rfl (by simp (disch:=(first|omega|(simp only [zaa,List.length_cons,List.length_nil,List.size_toArray,zae]<;>omega)|fail)) only [go_sem,resA,zaJ,Try.results18]<;>rfl)
theorem zfL {f:FuncId} {g:Func} {c:Code} {zs:Array Value} {l:List (Option Blk)} {A:Conf Unit->Prop} {Q:Value->AHeap->Prop} {Ft:Emb} {w:World} (hf:Try.prog.funcs[f]?=some g) (hb:g.body=some c) (G:Goes BT g A (.run (zag g c zs).1 (zag g c zs).2 (zaq l) ())) (hA:∀ x,A x->∃ v h1,x=.done v h1 ()/\Q v h1)
    (hH:Holds Ft (zaq l) w) (hst:∀ u∈zs,Stab (Kn l.length 0) Ft u) (hc:∀ n b,(zaq l).get n=some b->∀ u∈b.cells,Stab (Kn l.length 0) Ft u) (hl:l.length<=VB) :
    TCalls Try.prog f (zs.map (ren Ft)) w fun e w'=>∃ v h1 Ft',e=.returned (ren Ft' v)/\Q v h1/\Holds Ft' h1 w'/\Same (Kn l.length 0) Ft Ft'/\Kept w (fun b=>∃ n bb,(zaq l).get n=some bb/\bb.ro=false/\Ft.blk n=b) w'/\∀ n b,h1.get n=some b->b.ro=false->Ft'.blk n<w.heap.size->∃ n' bb,(zaq l).get n'=some bb/\bb.ro=false/\Ft.blk n'=Ft'.blk n:=by
  intro cs
  let b:Frame:={ (default:Frame) with fn:=f,kind:=.normal }
  have henter:Frame.enter Try.prog f (zs.map (ren Ft)) .normal=b.at (actF Ft (zag g c zs).2) (zag g c zs).1:=by
    simp [Frame.enter,Frame.at,hf,hb,b,actF,zag,zaV]
  have hn:(zaq l).next=l.length:=zaa l;have hlow:∀ n b,(zaq l).get n=some b->n<l.length:=fun n b hb=>by
    have:=zbu l n b hb;rw [hn] at this;exact this
  have hI:InvC BT Ft w (fun b=>∃ n bb,(zaq l).get n=some bb/\bb.ro=false/\Ft.blk n=b) (.run (zag g c zs).1 (zag g c zs).2 (zaq l) ()) w:=by
    refine⟨⟨hH,trivial,fun u hu=>?_,fun n bb hb u hu=>?_,fun n bb hb=>⟨.inl ?_,?_⟩,fun n h1 h2=>?_,fun n hn'=>?_,Kept.refl _ _,fun n bb h1 h2 _=>⟨n,bb,h1,h2,rfl⟩,fun _ h=>h.elim,fun _ _ _ z=>z⟩,by show (zaq l).next<=VB;rw [hn];exact hl⟩
    . have hu:u∈(zag g c zs).2:=hu;simp only [zag,List.mem_append] at hu;show Stab (Kn (zaq l).next 0) Ft u;rw [hn];rcases hu with hu|hu
      . exact hst u (by simpa using hu)
      . rw [List.eq_of_mem_replicate hu];exact Stab.undef
    . show Stab (Kn (zaq l).next 0) Ft u;rw [hn];exact hc n bb hb u hu
    . show n<(zaq l).next;rw [hn];exact hlow n bb hb
    . have:=hlow n bb hb;omega
    . have h2:n<VB+0:=h2;omega
    . rcases hn' with hn'|⟨_,hn'⟩
      . have hn':n<(zaq l).next:=hn';show n<VB+0;omega
      . exact hn'
  obtain⟨c',F',w',m',hAc,hst',hS,hI',hs,_,_⟩:=G.simul b cs Ft w w _ _ hf rfl rfl hI;obtain⟨v,h1,rfl,hQ⟩:=hA c' hAc;obtain⟨fr,rfl,hfn,hleave⟩:=hS;refine⟨.returned (ren F' v),w',fr,⟨v,h1,F',rfl,hQ,hI'.1.holds,?_,hI'.1.kept,hI'.1.own⟩,by rw [henter];exact hst',hfn,hleave⟩
  have hs:Same (Kn (zaq l).next 0) Ft F':=hs;rw [hn] at hs;exact hs
theorem ze0 {f:FuncId} {args:Array Value} {l l':List Blk} {v:Value} (D:DoesI f args l v l') {Ft:Emb} {w:World} (hH:Holds Ft (zaq (l.map some)) w) (hl:l.length<=VB) :
    TCalls Try.prog f (args.map (ren Ft)) w fun e w'=>∃ h1 Ft',e=.returned (ren Ft' v)/\zmU l.length l l' h1/\Holds Ft' h1 w'/\Same (Kn l.length 0) Ft Ft'/\Kept w (fun b=>∃ (n:Nat) (bb:Blk),l[n]?=some bb/\bb.ro=false/\Ft.blk n=b) w':=by
  obtain⟨g,c,h1,a1,a2,a3,a4,a5,a6,a7,a8,G⟩:=D;have hget:∀ n b,(zaq (l.map some)).get n=some b↔l[n]?=some b:=fun n b=>by
    rw [zaK,List.getElem?_map];cases l[n]?<;>simp
  have hlen:(l.map some).length=l.length:=List.length_map ..;refine (zfL (Q:=fun v' h'=>v'=v/\h'=h1) a1 a3 G (fun x hx=>⟨v,h1,hx,rfl,rfl⟩) hH (fun u hu=>by rw [hlen];exact (a4 u (by simpa using hu)).stab Ft) (fun n b hb u hu=>by rw [hlen];exact (a5 b (List.mem_of_getElem? ((hget n b).1 hb)) u hu).stab Ft) (by rw [hlen];exact hl)).mono fun e w' ⟨v',h',Ft',e1,⟨e2,e3⟩,e4,e5,e6,_⟩=>?_
  subst e2 e3;rw [hlen] at e5;exact⟨h',Ft',e1,a8,e4,e5,⟨e6.os,e6.tape,e6.output,e6.size,fun b h1 h2=>e6.block b h1 fun⟨n,bb,z1,z2,z3⟩=>h2 ⟨n,bb,(hget n bb).1 z1,z2,z3⟩⟩⟩
def embB (bs:List Nat):Emb:=⟨fun n=>bs.getD n 0,fun _=>0,fun _=>0⟩
theorem zoa {l:List (Option Blk)} {Ft:Emb} {w:World} (hb:∀ n,Ft.base n=0) (h:∀ n b,l[n]?=some (some b)->b.grow=none/\∃ (post:Array Value) (fr:Nat × Nat),w.heap[Ft.blk n]?=some (.cells ((b.cells.map (ren Ft)).toArray++post) b.elem fr)/\(b.ro=false->fr=(0,0)))
    (ha:∀ n m b c,l[n]?=some (some b)->l[m]?=some (some c)->n≠m->b.ro=false->Ft.blk n≠Ft.blk m):Holds Ft (zaq l) w:=by
  have hget:∀ n b,(zaq l).get n=some b->l[n]?=some (some b):=fun n b hb=>by
    rw [zaK] at hb;cases hx:l[n]? with
    | none=>rw [hx] at hb;cases hb
    | some y=>rw [hx] at hb;exact congrArg some hb
  refine⟨fun n b hn=>?_,fun n m b c h1 h2=>ha n m b c (hget n b h1) (hget m c h2)⟩;obtain⟨h0,post,fr,h1,h2⟩:=h n b (hget n b hn);exact⟨#[],post,fr,by simpa using h1,(hb n).symm,h2,(by rw [h0];intro z;cases z),(by rw [h0];intro s z;cases z)⟩
def zco (mn:Bool) (OB WB:Nat->Prop) (F:Emb) (S:St) (w:World) (S':St) (v:Value) (e:Ending) (w':World):Prop :=
  ∃ F',Same (fun n=>n<VB+S.length) F F'/\e=.returned (ren F' v)/\Rep mn OB WB F' S' w'/\Kept w (fpS mn F S) w'/\∀ b,fpS mn F' S' b->fpS mn F S b\/w.heap.size<=b
theorem zfs (ws:List UInt64):(wL ws).toArray=zlZ ws:=by simp [zdH,zlZ]
theorem zfC (bs:List UInt8):(bL bs).toArray=zl1 bs:=by simp [zdH,zl1]
def embC (bs:List (Nat × Nat)):Emb:=⟨fun n=>(bs.getD n (0,0)).1,fun n=>(bs.getD n (0,0)).2,fun _=>0⟩
theorem zpc {l:List (Option Blk)} {Ft:Emb} {w:World} (h:∀ n b,l[n]?=some (some b)->b.grow=none/\∃ (pre post:Array Value) (fr:Nat × Nat),w.heap[Ft.blk n]?=some (.cells (pre++(b.cells.map (ren Ft)).toArray++post) b.elem fr)/\pre.size=Ft.base n/\(b.ro=false->fr=(0,0)))
    (ha:∀ n m b c,l[n]?=some (some b)->l[m]?=some (some c)->n≠m->b.ro=false->Ft.blk n≠Ft.blk m):Holds Ft (zaq l) w:=by
  have hget:∀ n b,(zaq l).get n=some b->l[n]?=some (some b):=fun n b hb=>by
    rw [zaK] at hb;cases hx:l[n]? with
    | none=>rw [hx] at hb;cases hb
    | some y=>rw [hx] at hb;exact congrArg some hb
  refine⟨fun n b hn=>?_,fun n m b c h1 h2=>ha n m b c (hget n b h1) (hget m c h2)⟩;obtain⟨h0,pre,post,fr,h1,h2,h3⟩:=h n b (hget n b hn);exact⟨pre,post,fr,h1,h2,h3,(by rw [h0];intro z;cases z),(by rw [h0];intro s z;cases z)⟩
section
variable {w w':World} {m bw bb d v km kd:Nat} {X:MemP km} {Y:DirP kd} {ws ws':List UInt64} {bs bs':List UInt8} {me:Int} {s:Nat}
theorem MemO.ne1 (h:MemO w m bw bb X ws bs):m≠bw:=zbc h.hm h.hw (by decide)
theorem MemO.ne2 (h:MemO w m bw bb X ws bs):m≠bb:=zbc h.hm h.hb (by decide)
theorem MemO.ne3 (h:MemO w m bw bb X ws bs):bw≠bb:=zbc h.hw h.hb (by decide)
abbrev embM (m km bw:Nat) (X:MemP km) (bb:Nat) (t:List (Nat × Nat)):Emb:=embC ((m,km)::(bw,X.wpre.size)::(bb,X.bpre.size)::t)
theorem zpz (h:MemO w m bw bb X ws bs):Holds (embM m km bw X bb []) (zaq ((zaI ws bs X.wcap X.bcap).map some)) w:=by
  refine zpc (fun n b hn=>?_) (fun n n' b c h1 h2 hne _=>?_)
  . match n,hn with
    | 0,hn =>
      obtain rfl:b=mB ws.length X.wcap bs.length X.bcap:=by simpa using hn.symm
      exact⟨rfl,X.pre,X.post,(0,0),by show w.heap[m]?=_;rw [h.hm];simp [adr,embC],X.hn,fun _=>rfl⟩
    | 1,hn =>
      obtain rfl:b=wB ws:=by simpa using hn.symm
      exact⟨rfl,X.wpre,X.wpost,(0,0),by show w.heap[bw]?=_;rw [h.hw,zbH,zfs],rfl,fun _=>rfl⟩
    | 2,hn =>
      obtain rfl:b=bB bs:=by simpa using hn.symm
      exact⟨rfl,X.bpre,X.bpost,(0,0),by show w.heap[bb]?=_;rw [h.hb,zbH,zfC],rfl,fun _=>rfl⟩
    | n+3,hn=>simp at hn
  . have l1:n<3:=by have:=(List.getElem?_eq_some_iff.1 h1).1;simpa using this
    have l2:n'<3:=by have:=(List.getElem?_eq_some_iff.1 h2).1;simpa using this
    have e1:=h.ne1;have e2:=h.ne2;have e3:=h.ne3
    match n,n',l1,l2,hne with
    | 0,1,_,_,_=>exact e1
    | 0,2,_,_,_=>exact e2
    | 1,0,_,_,_=>exact e1.symm
    | 1,2,_,_,_=>exact e3
    | 2,0,_,_,_=>exact e2.symm
    | 2,1,_,_,_=>exact e3.symm
    | 0,0,_,_,h=>exact absurd rfl h
    | 1,1,_,_,h=>exact absurd rfl h
    | 2,2,_,_,h=>exact absurd rfl h
theorem zia (h:MemO w m bw bb X ws bs) (hd:DirO w ⟨d,v⟩ m km me Y s) {r1 r2 r3:Bool}:Holds (embM m km bw X bb [(v,Y.vpre.size),(d,kd)]) (zaq ([mB ws.length X.wcap bs.length X.bcap,⟨wL ws,34,r1,none⟩,⟨bL bs,5,r2,none⟩,⟨[.pointer (some ⟨0,0,none⟩),.int .i64 (s:Int)],64,r3,none⟩,dB me].map some)) w:=by
  have e1:=h.ne1;have e2:=h.ne2;have e3:=h.ne3;have f0:m≠v:=zbc h.hm hd.hv (by decide)
  have f1:m≠d:=zbc h.hm hd.hd (by decide)
  have f2:bw≠v:=zbc h.hw hd.hv (by decide)
  have f3:bw≠d:=zbc h.hw hd.hd (by decide)
  have f4:bb≠v:=zbc h.hb hd.hv (by decide)
  have f5:bb≠d:=zbc h.hb hd.hd (by decide)
  have f6:v≠d:=zbc hd.hv hd.hd (by decide)
  refine zpc (fun n b hn=>?_) (fun n n' b c h1 h2 hne _=>?_)
  . match n,hn with
    | 0,hn =>
      obtain rfl:b=mB ws.length X.wcap bs.length X.bcap:=by simpa using hn.symm
      exact⟨rfl,X.pre,X.post,(0,0),by show w.heap[m]?=_;rw [h.hm];simp [adr,embC],X.hn,fun _=>rfl⟩
    | 1,hn =>
      obtain rfl:b=⟨wL ws,34,r1,none⟩:=by simpa using hn.symm
      exact⟨rfl,X.wpre,X.wpost,(0,0),by show w.heap[bw]?=_;rw [h.hw];simp only [zbH];rw [zfs],rfl,fun _=>rfl⟩
    | 2,hn =>
      obtain rfl:b=⟨bL bs,5,r2,none⟩:=by simpa using hn.symm
      exact⟨rfl,X.bpre,X.bpost,(0,0),by show w.heap[bb]?=_;rw [h.hb];simp only [zbH];rw [zfC],rfl,fun _=>rfl⟩
    | 3,hn =>
      obtain rfl:b=⟨[.pointer (some ⟨0,0,none⟩),.int .i64 (s:Int)],64,r3,none⟩:=by simpa using hn.symm
      exact⟨rfl,Y.vpre,Y.vpost,(0,0),by show w.heap[v]?=_;rw [hd.hv];simp [adr,embC],rfl,fun _=>rfl⟩
    | 4,hn =>
      obtain rfl:b=dB me:=by simpa using hn.symm
      exact⟨rfl,Y.pre,Y.post,(0,0),by show w.heap[d]?=_;rw [hd.hd];simp [adr,embC],Y.hn,fun _=>rfl⟩
    | n+5,hn=>simp at hn
  . have l1:n<5:=by have:=(List.getElem?_eq_some_iff.1 h1).1;simpa using this
    have l2:n'<5:=by have:=(List.getElem?_eq_some_iff.1 h2).1;simpa using this
    match n,n',l1,l2,hne with
    | 0,0,_,_,h=>exact absurd rfl h
    | 1,1,_,_,h=>exact absurd rfl h
    | 2,2,_,_,h=>exact absurd rfl h
    | 3,3,_,_,h=>exact absurd rfl h
    | 4,4,_,_,h=>exact absurd rfl h
    | 0,1,_,_,_=>exact e1
    | 0,2,_,_,_=>exact e2
    | 0,3,_,_,_=>exact f0
    | 0,4,_,_,_=>exact f1
    | 1,0,_,_,_=>exact e1.symm
    | 1,2,_,_,_=>exact e3
    | 1,3,_,_,_=>exact f2
    | 1,4,_,_,_=>exact f3
    | 2,0,_,_,_=>exact e2.symm
    | 2,1,_,_,_=>exact e3.symm
    | 2,3,_,_,_=>exact f4
    | 2,4,_,_,_=>exact f5
    | 3,0,_,_,_=>exact f0.symm
    | 3,1,_,_,_=>exact f2.symm
    | 3,2,_,_,_=>exact f4.symm
    | 3,4,_,_,_=>exact f6
    | 4,0,_,_,_=>exact f1.symm
    | 4,1,_,_,_=>exact f3.symm
    | 4,2,_,_,_=>exact f5.symm
    | 4,3,_,_,_=>exact f6.symm
end
theorem zep {l l':List Blk} {h1:AHeap} {Ft Ft':Emb} {w':World} (T:zmU l.length l l' h1) (H:Holds Ft' h1 w') (hs:Same (Kn l.length 0) Ft Ft') {i:Nat} {b b':Blk} (hi:l[i]?=some b) (hro:b.ro=false) (hi':l'[i]?=some b') :
    ∃ pre post:Array Value,w'.heap[Ft.blk i]?=some (.cells (pre++(b'.cells.map (ren Ft')).toArray++post) b'.elem (0,0))/\pre.size=Ft.base i:=by
  obtain⟨b1,e1,e2,e3,_⟩:=T i b hi hro;rw [hi'] at e2;cases e2;obtain⟨pre,post,fr,r1,r2,r3,_⟩:=H.row i b' e1;obtain⟨s1,s2,_⟩:=hs i (.inl (List.getElem?_eq_some_iff.1 hi).1);rw [<-s1] at r1;rw [<-s2] at r2;rw [r3 e3] at r1;exact⟨pre,post,r1,r2⟩
section
variable {mn:Bool} {OB WB:Nat->Prop} {F:Emb} {S:St} {w w':World}
theorem zfb {k:Nat} {o:Ob} (h:S[k]?=some o):S.set k o=S:=List.ext_getElem? fun j=>by
  by_cases z:k=j
  . subst z;rw [List.getElem?_set_self (zaG h),h]
  . rw [List.getElem?_set_ne z]
theorem zlt {k:Nat} {o0 o1:Ob} (R:Rep mn OB WB F S w) (hk:S[k]?=some o0) (hbl:zax mn F k o1=zax mn F k o0) (hnw:∀ a b c d e,o0≠Ob.wp a b c d e) (hmm:(∃ ws bs,o0=Ob.mem ws bs)->∃ ws bs,o1=Ob.mem ws bs) (hrb:rowB o1=true->rowB o0=true) (K:Kept w (fun b=>b∈zax mn F k o0) w') (hat:obAt mn OB WB F (S.set k o1) w' k o1) :
    Rep mn OB WB F (S.set k o1) w'/\Kept w (fpS mn F S) w'/\∀ b,fpS mn F (S.set k o1) b->fpS mn F S b:=by
  have hkl:=zaG hk;have hlen:(S.set k o1).length=S.length:=by simp
  have hself:(S.set k o1)[k]?=some o1:=List.getElem?_set_self hkl;have hne:∀ i,i≠k->(S.set k o1)[i]?=S[i]?:=fun i hi=>List.getElem?_set_ne (Ne.symm hi);have hblk:∀ (i:Nat) ob2,(S.set k o1)[i]?=some ob2->∃ ob,S[i]?=some ob/\zax mn F i ob2=zax mn F i ob:=fun i ob2 hi=>by
    by_cases z:i=k
    . subst z;rw [hself] at hi;cases hi;exact⟨_,hk,hbl⟩
    . rw [hne i z] at hi;exact⟨_,hi,rfl⟩
  have hkept:∀ (i:Nat) ob,i≠k->S[i]?=some ob->∀ b∈zax mn F i ob,w'.heap[b]?=w.heap[b]?:=fun i ob hi ho b hb=>by
    have hlt:b<w.heap.size:=by
      obtain⟨c,el,fr,h1⟩:=zfl (R.at' i ob ho) b hb;exact zab h1
    exact K.block b hlt fun z=>R.apart i k _ _ hi ho hk b hb z
  refine⟨⟨fun i ob2 hi hr=>?_,fun i ob2 hi=>?_,fun i i' ob ob' hne' hi hi' x hx hx'=>?_,fun i ob2 hi x hx hW=>?_,fun b hb=>Nat.lt_of_lt_of_le (R.wlow b hb) K.size⟩,⟨K.os,K.tape,K.output,K.size,fun b hl hb=>K.block b hl fun z=>hb ⟨k,_,hk,z⟩⟩,fun b ⟨i,ob2,hi,hb⟩=>?_⟩
  . by_cases z:i=k
    . subst z;rw [hself] at hi;cases hi;exact R.base i _ hk (hrb hr)
    . rw [hne i z] at hi;exact R.base i _ hi hr
  . by_cases z:i=k
    . subst z;rw [hself] at hi;cases hi;exact hat
    . rw [hne i z] at hi;have h1:=zdE (R.at' i _ hi) (hkept i _ z hi);cases ob2 with
      | port m me st =>
        obtain⟨z1,ws0,bs0,z2⟩:=h1;refine⟨z1,?_⟩;by_cases e:m=k
        . subst e;rw [hk] at z2;obtain⟨ws1,bs1,rfl⟩:=hmm ⟨_,_,Option.some.inj z2⟩;exact⟨_,_,hself⟩
        . exact⟨ws0,bs0,(hne m e).trans z2⟩
      | thr a b c d e f=>intro y;obtain⟨a1,a2,a3,a4⟩:=h1 y;exact⟨a1,fun c hc=>by rw [hlen];exact a2 c hc,fun p hp=>by rw [hlen];exact a3 p hp,a4⟩
      | mem=>exact h1
      | wp=>exact h1
      | acc=>exact h1
      | box=>exact h1
  . obtain⟨o1,g1,g2⟩:=hblk i ob hi;obtain⟨o2,g3,g4⟩:=hblk i' ob' hi';exact R.apart i i' o1 o2 hne' g1 g3 x (g2 ▸ hx) (g4 ▸ hx')
  . by_cases z:i=k
    . subst z;rw [hself] at hi;cases hi;obtain⟨_,_,_,_,_,h⟩:=R.waits i _ hk x (hbl ▸ hx) hW;exact absurd h (hnw _ _ _ _ _)
    . rw [hne i z] at hi;exact R.waits i _ hi x hx hW
  . obtain⟨ob,h1,h2⟩:=hblk i ob2 hi;exact⟨i,ob,h1,h2 ▸ hb⟩
theorem zlP {k:Nat} {ws ws':List UInt64} {bs bs':List UInt8} {X:MemP (F.base (VB+k))} (R:Rep mn OB WB F S w) (hk:S[k]?=some (.mem ws bs)) (K:Kept w (fun b=>b=aux (F.slack (VB+k)) 1\/b=aux (F.slack (VB+k)) 2) w') (hm:MemO w' (F.blk (VB+k)) (aux (F.slack (VB+k)) 1) (aux (F.slack (VB+k)) 2) X ws' bs') :
    Rep mn OB WB F (S.set k (.mem ws' bs')) w'/\Kept w (fpS mn F S) w'/\∀ b,fpS mn F (S.set k (.mem ws' bs')) b->fpS mn F S b :=
  zlt R hk rfl (fun _ _ _ _ _ z=>by cases z) (fun _=>⟨_,_,rfl⟩) id ⟨K.os,K.tape,K.output,K.size,fun b hl hb=>K.block b hl fun z=>hb (by rcases z with rfl|rfl<;>simp [zax])⟩ ⟨X,hm⟩
theorem zgs {f:FuncId} {zs:Array Value} {v:Value} {k:Nat} {ws ws':List UInt64} {bs bs':List UInt8} (R:Rep mn OB WB F S w) (hk:S[k]?=some (.mem ws bs)) (D:∀ wc bc,DoesI f (#[.pointer (some ⟨0,0,none⟩)]++zs) (zaI ws bs wc bc) v [mB ws.length wc bs.length bc,wB ws',bB bs']) (hz:zs.all zac=true) (hv:zac v=true) (hw:ws'.length=ws.length) (hb:bs'.length=bs.length) :
    TCalls Try.prog f ((#[hndV k]++zs).map (ren F)) w (zco mn OB WB F S w (S.set k (.mem ws' bs')) v):=by
  obtain⟨X,hM⟩:=R.at' _ _ hk;have ha:(#[hndV k]++zs).map (ren F)=(#[Value.pointer (some ⟨0,0,none⟩)]++zs).map (ren (embM (F.blk (VB+k)) (F.base (VB+k)) (aux (F.slack (VB+k)) 1) X (aux (F.slack (VB+k)) 2) [])):=by
    rw [Array.map_append,Array.map_append,zcB F hz,zcB _ hz];simp [hndV,adr,embC]
  rw [ha];refine (ze0 (D X.wcap X.bcap) (zpz hM) (by simp [VB])).mono fun e w' ⟨h1,Ft',e1,T,H,hs,K⟩=>?_
  obtain⟨p1,q1,t1,u1⟩:=zep T H hs (i:=1) rfl rfl rfl;obtain⟨p2,q2,t2,u2⟩:=zep T H hs (i:=2) rfl rfl rfl;have K':Kept w (fun b=>b=aux (F.slack (VB+k)) 1\/b=aux (F.slack (VB+k)) 2) w':=⟨K.os,K.tape,K.output,K.size,fun b hl hb=>K.block b hl fun⟨n,bb,z1,z2,z3⟩=>by
    match n,z1 with
    | 0,z1=>simp at z1;subst z1;cases z2
    | 1,_=>exact hb (.inl z3.symm)
    | 2,_=>exact hb (.inr z3.symm)
    | n+3,z1=>simp at z1⟩
  have v1:p1.size=X.wpre.size:=u1;have v2:p2.size=X.bpre.size:=u2;have hmem:MemO w' (F.blk (VB+k)) (aux (F.slack (VB+k)) 1) (aux (F.slack (VB+k)) 2) (⟨X.pre,X.post,p1,q1,X.wcap,p2,q2,X.bcap,X.hn⟩:MemP (F.base (VB+k))) ws' bs':=by
    refine⟨?_,?_,?_,by rw [hw];exact hM.wl,by rw [hb];exact hM.bl⟩
    . rw [K'.block _ (zab hM.hm) (fun z=>z.elim hM.ne1 hM.ne2),hM.hm,hw,hb];simp only [v1,v2]
    . rw [zbH,zfs] at t1;exact t1
    . rw [zbH,zfC] at t2;exact t2
  obtain⟨r1,r2,r3⟩:=zlP R hk K' hmem;exact⟨F,Same.refl _ _,by rw [e1,zaE _ hv,zaE _ hv],r1,r2,fun b hb=>.inl (r3 b hb)⟩
theorem zqJ {p m:Nat} {me:Int} {s s':Nat} {ws ws':List UInt64} {bs bs':List UInt8} {X:MemP (F.base (VB+m))} {Y:DirP (F.base (VB+p))} {pre post:Array Value} (R:Rep mn OB WB F S w) (hp:S[p]?=some (.port m me s)) (hm:S[m]?=some (.mem ws bs)) (hd0:DirO w ⟨F.blk (VB+p),aux (F.slack (VB+p)) 1⟩ (F.blk (VB+m)) (F.base (VB+m)) me Y s)
    (K:Kept w (fun b=>b=aux (F.slack (VB+m)) 1\/b=aux (F.slack (VB+m)) 2\/b=aux (F.slack (VB+p)) 1) w') (hM:MemO w' (F.blk (VB+m)) (aux (F.slack (VB+m)) 1) (aux (F.slack (VB+m)) 2) X ws' bs') (hv:w'.heap[aux (F.slack (VB+p)) 1]?=some (.cells (pre++#[.pointer (some ⟨F.blk (VB+m),F.base (VB+m),none⟩),.int .i64 (s':Int)]++post) 64 (0,0))) (hpre:pre.size=Y.vpre.size) :
    Rep mn OB WB F (accS S p m me s' ws' bs') w'/\Kept w (fpS mn F S) w'/\∀ b,fpS mn F (accS S p m me s' ws' bs') b->fpS mn F S b:=by
  have hpm:m≠p:=fun e=>by rw [e,hp] at hm;cases hm
  have hv0:=hd0.hv;have hdv:F.blk (VB+p)≠aux (F.slack (VB+p)) 1:=zbc hd0.hd hd0.hv (by decide)
  let w1:World:={ w with heap:=w.heap.setIfInBounds (aux (F.slack (VB+p)) 1) (.cells (pre++#[.pointer (some ⟨F.blk (VB+m),F.base (VB+m),none⟩),.int .i64 (s':Int)]++post) 64 (0,0)) }
  have h1v:w1.heap[aux (F.slack (VB+p)) 1]?=some (.cells (pre++#[.pointer (some ⟨F.blk (VB+m),F.base (VB+m),none⟩),.int .i64 (s':Int)]++post) 64 (0,0)):=Array.getElem?_setIfInBounds_self_of_lt (zab hv0);have h1n:∀ x,x≠aux (F.slack (VB+p)) 1->w1.heap[x]?=w.heap[x]?:=fun x hx=>Array.getElem?_setIfInBounds_ne (Ne.symm hx);have hs1:w1.heap.size=w.heap.size:=by simp [w1]
  have K1:Kept w (fun b=>b∈zax mn F p (.port m me s)) w1:=⟨rfl,rfl,rfl,Nat.le_of_eq hs1.symm,fun b _ hb=>h1n b fun e=>hb (by rw [e];simp [zax])⟩
  have hself:(S.set p (Ob.port m me s'))[m]?=some (.mem ws bs):=by rw [List.getElem?_set_ne hpm.symm];exact hm
  obtain⟨r1,r2,r3⟩:=zlt (o1:=.port m me s') R hp rfl (fun _ _ _ _ _ z=>by cases z) (fun⟨_,_,z⟩=>by cases z) id K1 ⟨⟨(⟨Y.pre,Y.post,pre,post,Y.hn⟩:DirP (F.base (VB+p))),⟨by
    show w1.heap[F.blk (VB+p)]?=_;rw [h1n _ hdv,hd0.hd];simp only [hpre],h1v⟩⟩,_,_,hself⟩
  have K2:Kept w1 (fun b=>b=aux (F.slack (VB+m)) 1\/b=aux (F.slack (VB+m)) 2) w':=⟨K.os,K.tape,K.output,by rw [hs1];exact K.size,fun b hl hb=>by
    by_cases e:b=aux (F.slack (VB+p)) 1
    . rw [e,h1v,hv]
    . rw [h1n b e];exact K.block b (by rw [<-hs1];exact hl) fun z=>by
        rcases z with z|z|z
        . exact hb (.inl z)
        . exact hb (.inr z)
        . exact e z⟩
  obtain⟨q1,q2,q3⟩:=zlP r1 hself K2 hM;exact⟨q1,Kept.trans r2 q2 fun b _ hb=>r3 b hb,fun b hb=>r3 b (q3 b hb)⟩
theorem zgF {f:FuncId} {zs:Array Value} {v:Value} {p m:Nat} {me:Int} {s s':Nat} {ws ws':List UInt64} {bs bs':List UInt8} (R:Rep mn OB WB F S w) (hp:S[p]?=some (.port m me s)) (hm:S[m]?=some (.mem ws bs)) (D:∀ wc bc,DoesI f (#[.pointer (some ⟨4,0,none⟩)]++zs) (zkJ ws bs wc bc s me) v [mB ws.length wc bs.length bc,wB ws',bB bs',yB s',dB me]) (hz:zs.all zac=true) (hv:zac v=true) (hw:ws'.length=ws.length) (hb:bs'.length=bs.length) :
    TCalls Try.prog f ((#[hndV p]++zs).map (ren F)) w (zco mn OB WB F S w (accS S p m me s' ws' bs') v):=by
  obtain⟨X,hM⟩:=R.at' _ _ hm;obtain⟨⟨Y,hd⟩,_⟩:=R.at' _ _ hp;have ha:(#[hndV p]++zs).map (ren F)=(#[Value.pointer (some ⟨4,0,none⟩)]++zs).map (ren (embM (F.blk (VB+m)) (F.base (VB+m)) (aux (F.slack (VB+m)) 1) X (aux (F.slack (VB+m)) 2) [(aux (F.slack (VB+p)) 1,Y.vpre.size),(F.blk (VB+p),F.base (VB+p))])):=by
    rw [Array.map_append,Array.map_append,zcB F hz,zcB _ hz];simp [hndV,adr,embC]
  rw [ha];refine (ze0 (D X.wcap X.bcap) (zia hM hd) (by simp [VB])).mono fun e w' ⟨h1,Ft',e1,T,H,hs,K⟩=>?_
  obtain⟨p1,q1,t1,u1⟩:=zep T H hs (i:=1) rfl rfl rfl;obtain⟨p2,q2,t2,u2⟩:=zep T H hs (i:=2) rfl rfl rfl;obtain⟨p3,q3,t3,u3⟩:=zep T H hs (i:=3) rfl rfl rfl;have K':Kept w (fun b=>b=aux (F.slack (VB+m)) 1\/b=aux (F.slack (VB+m)) 2\/b=aux (F.slack (VB+p)) 1) w':=⟨K.os,K.tape,K.output,K.size,fun b hl hb=>K.block b hl fun⟨n,bb,z1,z2,z3⟩=>by
    match n,z1 with
    | 0,z1=>simp at z1;subst z1;cases z2
    | 1,_=>exact hb (.inl z3.symm)
    | 2,_=>exact hb (.inr (.inl z3.symm))
    | 3,_=>exact hb (.inr (.inr z3.symm))
    | 4,z1=>simp at z1;subst z1;cases z2
    | n+5,z1=>simp at z1⟩
  have v1:p1.size=X.wpre.size:=u1;have v2:p2.size=X.bpre.size:=u2;have v3:p3.size=Y.vpre.size:=u3;have hmem:MemO w' (F.blk (VB+m)) (aux (F.slack (VB+m)) 1) (aux (F.slack (VB+m)) 2) (⟨X.pre,X.post,p1,q1,X.wcap,p2,q2,X.bcap,X.hn⟩:MemP (F.base (VB+m))) ws' bs':=by
    refine⟨?_,?_,?_,by rw [hw];exact hM.wl,by rw [hb];exact hM.bl⟩
    . rw [K'.block _ (zab hM.hm) (fun z=>z.elim hM.ne1 fun z=>z.elim hM.ne2 (zbc hM.hm hd.hv (by decide))),hM.hm,hw,hb]
      simp only [v1,v2]
    . rw [zbH,zfs] at t1;exact t1
    . rw [zbH,zfC] at t2;exact t2
  have h0:Ft'.blk 0=F.blk (VB+m)/\Ft'.base 0=F.base (VB+m):=by
    obtain⟨s1,s2,_⟩:=hs 0 (.inl (by simp))
    exact⟨s1.symm,s2.symm⟩
  have t3':w'.heap[aux (F.slack (VB+p)) 1]?=some (.cells (p3++#[.pointer (some ⟨F.blk (VB+m),F.base (VB+m),none⟩),.int .i64 (s':Int)]++q3) 64 (0,0)):=by
    simpa [adr,h0,embC] using t3
  obtain⟨r1,r2,r3⟩:=zqJ R hp hm hd K' hmem t3' v3;exact⟨F,Same.refl _ _,by rw [e1,zaE _ hv,zaE _ hv],r1,r2,fun b hb=>.inl (r3 b hb)⟩
end
end Go.Proofs.Ytjhmhoapgbfgpaa
