/-
  What an access of a memory does, by the abstract machine over its rows alone. Printed by gen_do.py.
  No condition: steps of the program.
-/
import Derived.Test.YtkjnamhgemidkaaUCo21
namespace Go.Proofs.Ytkjnamhgemidkaa
open Go Go.RowKit
set_option linter.unusedSimpArgs false
set_option linter.unusedVariables false
theorem bL_at {bs:List UInt8} {k:Nat} (h:k<bs.length):(bL bs)[k]?=some (.int .u8 (bs[k].toNat:Int)):=by simp [numRow,h]
theorem bL_set {bs:List UInt8} {k:Nat} {x:UInt8}:(bL bs).set k (.int .u8 (x.toNat:Int))=bL (bs.set k x):=by simp [numRow,List.map_set]
theorem u64_of_u8 (b:UInt8):IntKind.u64.wrap (b.toNat:Int)=(b.toNat:Int):=by
  have:=b.toNat_lt
  rw [IntKind.wrap_u64];omega
set_option maxHeartbeats 1000000 in
set_option maxRecDepth 100000 in
theorem do1_neg (ws:List UInt64) (bs:List UInt8) (wc bc:Nat) (n:Int) (A B:UInt64) (hn:n<0):DoesI 39 #[.pointer (some ⟨0,0,none⟩),accV 1 n A B] (mRows ws bs wc bc) (.tuple #[.int .u64 0,.bool false]) (mRows ws bs wc bc):=by
  refine DoesI.mk Try.func39 rfl rfl ?clo ?rows ?_
  case clo=>exact args_clo (by simp)
  case rows=>exact mRows_clo ws bs wc bc
  rw [Try.ntmps39];simp only [List.size_toArray,List.length_cons,List.length_nil,List.replicate,List.cons_append,List.nil_append]
  simp only [mRows,List.map_cons,List.map_nil,accV,List.length_set]
  have hd1:decide (n<0)=true:=decide_eq_true hn
  refine viaF hd1 ?_
  refine Goes.finI rfl (by simp (disch:=(first|omega|(simp only [heapL_next,List.length_cons,List.length_nil,List.size_toArray,geo_len]<;>omega)|fail)) only [go_sem,resA,res1A,Try.results39]<;>rfl) rfl rfl ?_ ?_
  · exact Clo.plain (by simp [plainB])
  · exact turn_m
set_option maxHeartbeats 1000000 in
set_option maxRecDepth 100000 in
theorem do1_far (ws:List UInt64) (bs:List UInt8) (wc bc:Nat) (n:Int) (A B:UInt64) (hn:(ws.length:Int)≤n):DoesI 39 #[.pointer (some ⟨0,0,none⟩),accV 1 n A B] (mRows ws bs wc bc) (.tuple #[.int .u64 0,.bool false]) (mRows ws bs wc bc):=by
  refine DoesI.mk Try.func39 rfl rfl ?clo ?rows ?_
  case clo=>exact args_clo (by simp)
  case rows=>exact mRows_clo ws bs wc bc
  rw [Try.ntmps39];simp only [List.size_toArray,List.length_cons,List.length_nil,List.replicate,List.cons_append,List.nil_append]
  simp only [mRows,List.map_cons,List.map_nil,accV,List.length_set]
  have hd1:decide (n<0)=false:=decide_eq_false (by omega)
  have hd2:decide (n ≥ (ws.length:Int))=true:=decide_eq_true (by omega)
  refine viaF (And.intro hd1 hd2) ?_
  ((first|refine At.callX [0,1,2] rfl rfl rfl (by decide) rfl (fun K hK=>?_)|refine RG.callX [0,1,2] rfl rfl rfl rfl (by decide) (fun K hK=>?_));simp (disch:=(first|omega|(simp only [heapL_next,List.length_cons,List.length_nil,List.size_toArray,geo_len]<;>omega)|fail)) only [go_sem];refine⟨_,_,_,_,_,_,(words_x ws bs wc bc),by first|rfl|simp (disch:=(first|omega|(simp only [heapL_next,List.length_cons,List.length_nil,List.size_toArray,geo_len]<;>omega)|fail)) only [go_sem],by ((repeat (refine⟨⟨_,rfl,rfl,?_,(by first|exact .inr rfl|exact .inl rfl),(by first|exact fun h=>h|exact fun _=>rfl|(intro h;cases h))⟩,?_⟩;· first|exact plain_map numRow_plain|(simp [up_0,up_1,up_2,up_3,up_4,up_base,up_slack,adr];done)|(simp [up_prt];done)|exact plain_map (by simp [plainB];done)|simp [up_0,up_1,up_2,up_00,up_base,up_slack,adr]));exact trivial),by first|exact⟨rfl,rfl⟩|rfl,?_⟩;(try simp only [go_sem]);(first|refine hK _ _ _ ?_|refine hK _ _ _ _ ?_);clear hK K)
  refine viaF (And.intro hd1 hd2) ?_
  refine Goes.finI rfl (by simp (disch:=(first|omega|(simp only [heapL_next,List.length_cons,List.length_nil,List.size_toArray,geo_len]<;>omega)|fail)) only [go_sem,resA,res1A,Try.results39]<;>rfl) rfl rfl ?_ ?_
  · exact Clo.plain (by simp [plainB])
  · exact turn_m
set_option maxHeartbeats 1000000 in
set_option maxRecDepth 100000 in
theorem do1_in (ws:List UInt64) (bs:List UInt8) (wc bc k:Nat) (A B:UInt64) (hk:k<ws.length):DoesI 39 #[.pointer (some ⟨0,0,none⟩),accV 1 (k:Int) A B] (mRows ws bs wc bc) (.tuple #[.int .u64 (ws[k].toNat:Int),.bool true]) (mRows (ws.set k ws[k]) bs wc bc):=by
  refine DoesI.mk Try.func39 rfl rfl ?clo ?rows ?_
  case clo=>exact args_clo (by simp)
  case rows=>exact mRows_clo ws bs wc bc
  rw [Try.ntmps39];simp only [List.size_toArray,List.length_cons,List.length_nil,List.replicate,List.cons_append,List.nil_append]
  simp only [mRows,List.map_cons,List.map_nil,accV,List.length_set]
  have hd1:decide ((k:Int)<0)=false:=decide_eq_false (by omega)
  have hd2:decide ((k:Int) ≥ (ws.length:Int))=false:=decide_eq_false (by omega)
  have hx:=wL_at hk
  have hll:=wL_len ws
  refine viaF (And.intro hd1 (And.intro hd2 (And.intro hx hll))) ?_
  ((first|refine At.callX [0,1,2] rfl rfl rfl (by decide) rfl (fun K hK=>?_)|refine RG.callX [0,1,2] rfl rfl rfl rfl (by decide) (fun K hK=>?_));simp (disch:=(first|omega|(simp only [heapL_next,List.length_cons,List.length_nil,List.size_toArray,geo_len]<;>omega)|fail)) only [go_sem];refine⟨_,_,_,_,_,_,(words_x ws bs wc bc),by first|rfl|simp (disch:=(first|omega|(simp only [heapL_next,List.length_cons,List.length_nil,List.size_toArray,geo_len]<;>omega)|fail)) only [go_sem],by ((repeat (refine⟨⟨_,rfl,rfl,?_,(by first|exact .inr rfl|exact .inl rfl),(by first|exact fun h=>h|exact fun _=>rfl|(intro h;cases h))⟩,?_⟩;· first|exact plain_map numRow_plain|(simp [up_0,up_1,up_2,up_3,up_4,up_base,up_slack,adr];done)|(simp [up_prt];done)|exact plain_map (by simp [plainB];done)|simp [up_0,up_1,up_2,up_00,up_base,up_slack,adr]));exact trivial),by first|exact⟨rfl,rfl⟩|rfl,?_⟩;(try simp only [go_sem]);(first|refine hK _ _ _ ?_|refine hK _ _ _ _ ?_);clear hK K)
  refine viaF (And.intro hd1 (And.intro hd2 (And.intro hx hll))) ?_
  ((first|refine qc1 rfl rfl fun K hK=>?_|refine qc3 rfl rfl fun K hK=>?_);simp (disch:=(first|omega|(simp only [sz]<;>omega)|fail)) only [go_sem];(first|refine⟨_,_,kinds_x,?_⟩|refine⟨_,_,Does.com (kinds_x),?_⟩);(try simp only [go_sem]);with_reducible refine hK _ _ ?_;clear hK K)
  simp only [kindsV]
  have hts:=onw_size
  have hta:=onw_agg
  have hk1:=Nat.mul_one k
  refine viaF (And.intro hd1 (And.intro hd2 (And.intro hx (And.intro hll (And.intro hts (And.intro hta hk1)))))) ?_
  ((first|refine qc1 rfl rfl fun K hK=>?_|refine qc3 rfl rfl fun K hK=>?_);simp (disch:=(first|omega|(simp only [sz]<;>omega)|fail)) only [go_sem];(first|refine⟨_,_,kinds1_x ws[k] 1 (k:Int) A B,?_⟩|refine⟨_,_,Does.com (kinds1_x ws[k] 1 (k:Int) A B),?_⟩);(try simp only [go_sem]);with_reducible refine hK _ _ ?_;clear hK K)
  refine viaF (And.intro hd1 (And.intro hd2 (And.intro hx (And.intro hll hk1)))) ?_
  rw [wL_set]
  refine Goes.finI rfl (by simp (disch:=(first|omega|(simp only [heapL_next,List.length_cons,List.length_nil,List.size_toArray,geo_len]<;>omega)|fail)) only [go_sem,resA,res1A,Try.results39]<;>rfl) rfl rfl ?_ ?_
  · exact Clo.plain (by simp [plainB])
  · exact turn_m
set_option maxHeartbeats 1000000 in
set_option maxRecDepth 100000 in
theorem do2_neg (ws:List UInt64) (bs:List UInt8) (wc bc:Nat) (n:Int) (A B:UInt64) (hn:n<0):DoesI 39 #[.pointer (some ⟨0,0,none⟩),accV 2 n A B] (mRows ws bs wc bc) (.tuple #[.int .u64 0,.bool false]) (mRows ws bs wc bc):=by
  refine DoesI.mk Try.func39 rfl rfl ?clo ?rows ?_
  case clo=>exact args_clo (by simp)
  case rows=>exact mRows_clo ws bs wc bc
  rw [Try.ntmps39];simp only [List.size_toArray,List.length_cons,List.length_nil,List.replicate,List.cons_append,List.nil_append]
  simp only [mRows,List.map_cons,List.map_nil,accV,List.length_set]
  have hd1:decide (n<0)=true:=decide_eq_true hn
  refine viaF hd1 ?_
  refine Goes.finI rfl (by simp (disch:=(first|omega|(simp only [heapL_next,List.length_cons,List.length_nil,List.size_toArray,geo_len]<;>omega)|fail)) only [go_sem,resA,res1A,Try.results39]<;>rfl) rfl rfl ?_ ?_
  · exact Clo.plain (by simp [plainB])
  · exact turn_m
set_option maxHeartbeats 1000000 in
set_option maxRecDepth 100000 in
theorem do2_far (ws:List UInt64) (bs:List UInt8) (wc bc:Nat) (n:Int) (A B:UInt64) (hn:(ws.length:Int)≤n):DoesI 39 #[.pointer (some ⟨0,0,none⟩),accV 2 n A B] (mRows ws bs wc bc) (.tuple #[.int .u64 0,.bool false]) (mRows ws bs wc bc):=by
  refine DoesI.mk Try.func39 rfl rfl ?clo ?rows ?_
  case clo=>exact args_clo (by simp)
  case rows=>exact mRows_clo ws bs wc bc
  rw [Try.ntmps39];simp only [List.size_toArray,List.length_cons,List.length_nil,List.replicate,List.cons_append,List.nil_append]
  simp only [mRows,List.map_cons,List.map_nil,accV,List.length_set]
  have hd1:decide (n<0)=false:=decide_eq_false (by omega)
  have hd2:decide (n ≥ (ws.length:Int))=true:=decide_eq_true (by omega)
  refine viaF (And.intro hd1 hd2) ?_
  ((first|refine At.callX [0,1,2] rfl rfl rfl (by decide) rfl (fun K hK=>?_)|refine RG.callX [0,1,2] rfl rfl rfl rfl (by decide) (fun K hK=>?_));simp (disch:=(first|omega|(simp only [heapL_next,List.length_cons,List.length_nil,List.size_toArray,geo_len]<;>omega)|fail)) only [go_sem];refine⟨_,_,_,_,_,_,(words_x ws bs wc bc),by first|rfl|simp (disch:=(first|omega|(simp only [heapL_next,List.length_cons,List.length_nil,List.size_toArray,geo_len]<;>omega)|fail)) only [go_sem],by ((repeat (refine⟨⟨_,rfl,rfl,?_,(by first|exact .inr rfl|exact .inl rfl),(by first|exact fun h=>h|exact fun _=>rfl|(intro h;cases h))⟩,?_⟩;· first|exact plain_map numRow_plain|(simp [up_0,up_1,up_2,up_3,up_4,up_base,up_slack,adr];done)|(simp [up_prt];done)|exact plain_map (by simp [plainB];done)|simp [up_0,up_1,up_2,up_00,up_base,up_slack,adr]));exact trivial),by first|exact⟨rfl,rfl⟩|rfl,?_⟩;(try simp only [go_sem]);(first|refine hK _ _ _ ?_|refine hK _ _ _ _ ?_);clear hK K)
  refine viaF (And.intro hd1 hd2) ?_
  refine Goes.finI rfl (by simp (disch:=(first|omega|(simp only [heapL_next,List.length_cons,List.length_nil,List.size_toArray,geo_len]<;>omega)|fail)) only [go_sem,resA,res1A,Try.results39]<;>rfl) rfl rfl ?_ ?_
  · exact Clo.plain (by simp [plainB])
  · exact turn_m
set_option maxHeartbeats 1000000 in
set_option maxRecDepth 100000 in
theorem do2_in (ws:List UInt64) (bs:List UInt8) (wc bc k:Nat) (A B:UInt64) (hk:k<ws.length):DoesI 39 #[.pointer (some ⟨0,0,none⟩),accV 2 (k:Int) A B] (mRows ws bs wc bc) (.tuple #[.int .u64 0,.bool true]) (mRows (ws.set k A) bs wc bc):=by
  refine DoesI.mk Try.func39 rfl rfl ?clo ?rows ?_
  case clo=>exact args_clo (by simp)
  case rows=>exact mRows_clo ws bs wc bc
  rw [Try.ntmps39];simp only [List.size_toArray,List.length_cons,List.length_nil,List.replicate,List.cons_append,List.nil_append]
  simp only [mRows,List.map_cons,List.map_nil,accV,List.length_set]
  have hd1:decide ((k:Int)<0)=false:=decide_eq_false (by omega)
  have hd2:decide ((k:Int) ≥ (ws.length:Int))=false:=decide_eq_false (by omega)
  have hx:=wL_at hk
  have hll:=wL_len ws
  refine viaF (And.intro hd1 (And.intro hd2 (And.intro hx hll))) ?_
  ((first|refine At.callX [0,1,2] rfl rfl rfl (by decide) rfl (fun K hK=>?_)|refine RG.callX [0,1,2] rfl rfl rfl rfl (by decide) (fun K hK=>?_));simp (disch:=(first|omega|(simp only [heapL_next,List.length_cons,List.length_nil,List.size_toArray,geo_len]<;>omega)|fail)) only [go_sem];refine⟨_,_,_,_,_,_,(words_x ws bs wc bc),by first|rfl|simp (disch:=(first|omega|(simp only [heapL_next,List.length_cons,List.length_nil,List.size_toArray,geo_len]<;>omega)|fail)) only [go_sem],by ((repeat (refine⟨⟨_,rfl,rfl,?_,(by first|exact .inr rfl|exact .inl rfl),(by first|exact fun h=>h|exact fun _=>rfl|(intro h;cases h))⟩,?_⟩;· first|exact plain_map numRow_plain|(simp [up_0,up_1,up_2,up_3,up_4,up_base,up_slack,adr];done)|(simp [up_prt];done)|exact plain_map (by simp [plainB];done)|simp [up_0,up_1,up_2,up_00,up_base,up_slack,adr]));exact trivial),by first|exact⟨rfl,rfl⟩|rfl,?_⟩;(try simp only [go_sem]);(first|refine hK _ _ _ ?_|refine hK _ _ _ _ ?_);clear hK K)
  refine viaF (And.intro hd1 (And.intro hd2 (And.intro hx hll))) ?_
  ((first|refine qc1 rfl rfl fun K hK=>?_|refine qc3 rfl rfl fun K hK=>?_);simp (disch:=(first|omega|(simp only [sz]<;>omega)|fail)) only [go_sem];(first|refine⟨_,_,kinds_x,?_⟩|refine⟨_,_,Does.com (kinds_x),?_⟩);(try simp only [go_sem]);with_reducible refine hK _ _ ?_;clear hK K)
  simp only [kindsV]
  have hts:=onw_size
  have hta:=onw_agg
  have hk1:=Nat.mul_one k
  refine viaF (And.intro hd1 (And.intro hd2 (And.intro hx (And.intro hll (And.intro hts (And.intro hta hk1)))))) ?_
  ((first|refine qc1 rfl rfl fun K hK=>?_|refine qc3 rfl rfl fun K hK=>?_);simp (disch:=(first|omega|(simp only [sz]<;>omega)|fail)) only [go_sem];(first|refine⟨_,_,kinds2_x ws[k] 2 (k:Int) A B,?_⟩|refine⟨_,_,Does.com (kinds2_x ws[k] 2 (k:Int) A B),?_⟩);(try simp only [go_sem]);with_reducible refine hK _ _ ?_;clear hK K)
  refine viaF (And.intro hd1 (And.intro hd2 (And.intro hx (And.intro hll hk1)))) ?_
  rw [wL_set]
  refine Goes.finI rfl (by simp (disch:=(first|omega|(simp only [heapL_next,List.length_cons,List.length_nil,List.size_toArray,geo_len]<;>omega)|fail)) only [go_sem,resA,res1A,Try.results39]<;>rfl) rfl rfl ?_ ?_
  · exact Clo.plain (by simp [plainB])
  · exact turn_m
set_option maxHeartbeats 1000000 in
set_option maxRecDepth 100000 in
theorem do3_neg (ws:List UInt64) (bs:List UInt8) (wc bc:Nat) (n:Int) (A B:UInt64) (hn:n<0):DoesI 39 #[.pointer (some ⟨0,0,none⟩),accV 3 n A B] (mRows ws bs wc bc) (.tuple #[.int .u64 0,.bool false]) (mRows ws bs wc bc):=by
  refine DoesI.mk Try.func39 rfl rfl ?clo ?rows ?_
  case clo=>exact args_clo (by simp)
  case rows=>exact mRows_clo ws bs wc bc
  rw [Try.ntmps39];simp only [List.size_toArray,List.length_cons,List.length_nil,List.replicate,List.cons_append,List.nil_append]
  simp only [mRows,List.map_cons,List.map_nil,accV,List.length_set]
  have hd1:decide (n<0)=true:=decide_eq_true hn
  refine viaF hd1 ?_
  refine Goes.finI rfl (by simp (disch:=(first|omega|(simp only [heapL_next,List.length_cons,List.length_nil,List.size_toArray,geo_len]<;>omega)|fail)) only [go_sem,resA,res1A,Try.results39]<;>rfl) rfl rfl ?_ ?_
  · exact Clo.plain (by simp [plainB])
  · exact turn_m
set_option maxHeartbeats 1000000 in
set_option maxRecDepth 100000 in
theorem do3_far (ws:List UInt64) (bs:List UInt8) (wc bc:Nat) (n:Int) (A B:UInt64) (hn:(ws.length:Int)≤n):DoesI 39 #[.pointer (some ⟨0,0,none⟩),accV 3 n A B] (mRows ws bs wc bc) (.tuple #[.int .u64 0,.bool false]) (mRows ws bs wc bc):=by
  refine DoesI.mk Try.func39 rfl rfl ?clo ?rows ?_
  case clo=>exact args_clo (by simp)
  case rows=>exact mRows_clo ws bs wc bc
  rw [Try.ntmps39];simp only [List.size_toArray,List.length_cons,List.length_nil,List.replicate,List.cons_append,List.nil_append]
  simp only [mRows,List.map_cons,List.map_nil,accV,List.length_set]
  have hd1:decide (n<0)=false:=decide_eq_false (by omega)
  have hd2:decide (n ≥ (ws.length:Int))=true:=decide_eq_true (by omega)
  refine viaF (And.intro hd1 hd2) ?_
  ((first|refine At.callX [0,1,2] rfl rfl rfl (by decide) rfl (fun K hK=>?_)|refine RG.callX [0,1,2] rfl rfl rfl rfl (by decide) (fun K hK=>?_));simp (disch:=(first|omega|(simp only [heapL_next,List.length_cons,List.length_nil,List.size_toArray,geo_len]<;>omega)|fail)) only [go_sem];refine⟨_,_,_,_,_,_,(words_x ws bs wc bc),by first|rfl|simp (disch:=(first|omega|(simp only [heapL_next,List.length_cons,List.length_nil,List.size_toArray,geo_len]<;>omega)|fail)) only [go_sem],by ((repeat (refine⟨⟨_,rfl,rfl,?_,(by first|exact .inr rfl|exact .inl rfl),(by first|exact fun h=>h|exact fun _=>rfl|(intro h;cases h))⟩,?_⟩;· first|exact plain_map numRow_plain|(simp [up_0,up_1,up_2,up_3,up_4,up_base,up_slack,adr];done)|(simp [up_prt];done)|exact plain_map (by simp [plainB];done)|simp [up_0,up_1,up_2,up_00,up_base,up_slack,adr]));exact trivial),by first|exact⟨rfl,rfl⟩|rfl,?_⟩;(try simp only [go_sem]);(first|refine hK _ _ _ ?_|refine hK _ _ _ _ ?_);clear hK K)
  refine viaF (And.intro hd1 hd2) ?_
  refine Goes.finI rfl (by simp (disch:=(first|omega|(simp only [heapL_next,List.length_cons,List.length_nil,List.size_toArray,geo_len]<;>omega)|fail)) only [go_sem,resA,res1A,Try.results39]<;>rfl) rfl rfl ?_ ?_
  · exact Clo.plain (by simp [plainB])
  · exact turn_m
set_option maxHeartbeats 1000000 in
set_option maxRecDepth 100000 in
theorem do3_in (ws:List UInt64) (bs:List UInt8) (wc bc k:Nat) (A B:UInt64) (hk:k<ws.length):DoesI 39 #[.pointer (some ⟨0,0,none⟩),accV 3 (k:Int) A B] (mRows ws bs wc bc) (.tuple #[.int .u64 ((kTold 3 ws[k] A).toNat:Int),.bool true]) (mRows (ws.set k (kNow 3 ws[k] A B)) bs wc bc):=by
  refine DoesI.mk Try.func39 rfl rfl ?clo ?rows ?_
  case clo=>exact args_clo (by simp)
  case rows=>exact mRows_clo ws bs wc bc
  rw [Try.ntmps39];simp only [List.size_toArray,List.length_cons,List.length_nil,List.replicate,List.cons_append,List.nil_append]
  simp only [mRows,List.map_cons,List.map_nil,accV,List.length_set]
  have hd1:decide ((k:Int)<0)=false:=decide_eq_false (by omega)
  have hd2:decide ((k:Int) ≥ (ws.length:Int))=false:=decide_eq_false (by omega)
  have hx:=wL_at hk
  have hll:=wL_len ws
  refine viaF (And.intro hd1 (And.intro hd2 (And.intro hx hll))) ?_
  ((first|refine At.callX [0,1,2] rfl rfl rfl (by decide) rfl (fun K hK=>?_)|refine RG.callX [0,1,2] rfl rfl rfl rfl (by decide) (fun K hK=>?_));simp (disch:=(first|omega|(simp only [heapL_next,List.length_cons,List.length_nil,List.size_toArray,geo_len]<;>omega)|fail)) only [go_sem];refine⟨_,_,_,_,_,_,(words_x ws bs wc bc),by first|rfl|simp (disch:=(first|omega|(simp only [heapL_next,List.length_cons,List.length_nil,List.size_toArray,geo_len]<;>omega)|fail)) only [go_sem],by ((repeat (refine⟨⟨_,rfl,rfl,?_,(by first|exact .inr rfl|exact .inl rfl),(by first|exact fun h=>h|exact fun _=>rfl|(intro h;cases h))⟩,?_⟩;· first|exact plain_map numRow_plain|(simp [up_0,up_1,up_2,up_3,up_4,up_base,up_slack,adr];done)|(simp [up_prt];done)|exact plain_map (by simp [plainB];done)|simp [up_0,up_1,up_2,up_00,up_base,up_slack,adr]));exact trivial),by first|exact⟨rfl,rfl⟩|rfl,?_⟩;(try simp only [go_sem]);(first|refine hK _ _ _ ?_|refine hK _ _ _ _ ?_);clear hK K)
  refine viaF (And.intro hd1 (And.intro hd2 (And.intro hx hll))) ?_
  ((first|refine qc1 rfl rfl fun K hK=>?_|refine qc3 rfl rfl fun K hK=>?_);simp (disch:=(first|omega|(simp only [sz]<;>omega)|fail)) only [go_sem];(first|refine⟨_,_,kinds_x,?_⟩|refine⟨_,_,Does.com (kinds_x),?_⟩);(try simp only [go_sem]);with_reducible refine hK _ _ ?_;clear hK K)
  simp only [kindsV]
  have hts:=onw_size
  have hta:=onw_agg
  have hk1:=Nat.mul_one k
  refine viaF (And.intro hd1 (And.intro hd2 (And.intro hx (And.intro hll (And.intro hts (And.intro hta hk1)))))) ?_
  ((first|refine qc1 rfl rfl fun K hK=>?_|refine qc3 rfl rfl fun K hK=>?_);simp (disch:=(first|omega|(simp only [sz]<;>omega)|fail)) only [go_sem];(first|refine⟨_,_,kinds3_x ws[k] 3 (k:Int) A B,?_⟩|refine⟨_,_,Does.com (kinds3_x ws[k] 3 (k:Int) A B),?_⟩);(try simp only [go_sem]);with_reducible refine hK _ _ ?_;clear hK K)
  refine viaF (And.intro hd1 (And.intro hd2 (And.intro hx (And.intro hll hk1)))) ?_
  rw [wL_set]
  refine Goes.finI rfl (by simp (disch:=(first|omega|(simp only [heapL_next,List.length_cons,List.length_nil,List.size_toArray,geo_len]<;>omega)|fail)) only [go_sem,resA,res1A,Try.results39]<;>rfl) rfl rfl ?_ ?_
  · exact Clo.plain (by simp [plainB])
  · exact turn_m
set_option maxHeartbeats 1000000 in
set_option maxRecDepth 100000 in
theorem do4_neg (ws:List UInt64) (bs:List UInt8) (wc bc:Nat) (n:Int) (A B:UInt64) (hn:n<0):DoesI 39 #[.pointer (some ⟨0,0,none⟩),accV 4 n A B] (mRows ws bs wc bc) (.tuple #[.int .u64 0,.bool false]) (mRows ws bs wc bc):=by
  refine DoesI.mk Try.func39 rfl rfl ?clo ?rows ?_
  case clo=>exact args_clo (by simp)
  case rows=>exact mRows_clo ws bs wc bc
  rw [Try.ntmps39];simp only [List.size_toArray,List.length_cons,List.length_nil,List.replicate,List.cons_append,List.nil_append]
  simp only [mRows,List.map_cons,List.map_nil,accV,List.length_set]
  have hd1:decide (n<0)=true:=decide_eq_true hn
  refine viaF hd1 ?_
  refine Goes.finI rfl (by simp (disch:=(first|omega|(simp only [heapL_next,List.length_cons,List.length_nil,List.size_toArray,geo_len]<;>omega)|fail)) only [go_sem,resA,res1A,Try.results39]<;>rfl) rfl rfl ?_ ?_
  · exact Clo.plain (by simp [plainB])
  · exact turn_m
set_option maxHeartbeats 1000000 in
set_option maxRecDepth 100000 in
theorem do4_far (ws:List UInt64) (bs:List UInt8) (wc bc:Nat) (n:Int) (A B:UInt64) (hn:(ws.length:Int)≤n):DoesI 39 #[.pointer (some ⟨0,0,none⟩),accV 4 n A B] (mRows ws bs wc bc) (.tuple #[.int .u64 0,.bool false]) (mRows ws bs wc bc):=by
  refine DoesI.mk Try.func39 rfl rfl ?clo ?rows ?_
  case clo=>exact args_clo (by simp)
  case rows=>exact mRows_clo ws bs wc bc
  rw [Try.ntmps39];simp only [List.size_toArray,List.length_cons,List.length_nil,List.replicate,List.cons_append,List.nil_append]
  simp only [mRows,List.map_cons,List.map_nil,accV,List.length_set]
  have hd1:decide (n<0)=false:=decide_eq_false (by omega)
  have hd2:decide (n ≥ (ws.length:Int))=true:=decide_eq_true (by omega)
  refine viaF (And.intro hd1 hd2) ?_
  ((first|refine At.callX [0,1,2] rfl rfl rfl (by decide) rfl (fun K hK=>?_)|refine RG.callX [0,1,2] rfl rfl rfl rfl (by decide) (fun K hK=>?_));simp (disch:=(first|omega|(simp only [heapL_next,List.length_cons,List.length_nil,List.size_toArray,geo_len]<;>omega)|fail)) only [go_sem];refine⟨_,_,_,_,_,_,(words_x ws bs wc bc),by first|rfl|simp (disch:=(first|omega|(simp only [heapL_next,List.length_cons,List.length_nil,List.size_toArray,geo_len]<;>omega)|fail)) only [go_sem],by ((repeat (refine⟨⟨_,rfl,rfl,?_,(by first|exact .inr rfl|exact .inl rfl),(by first|exact fun h=>h|exact fun _=>rfl|(intro h;cases h))⟩,?_⟩;· first|exact plain_map numRow_plain|(simp [up_0,up_1,up_2,up_3,up_4,up_base,up_slack,adr];done)|(simp [up_prt];done)|exact plain_map (by simp [plainB];done)|simp [up_0,up_1,up_2,up_00,up_base,up_slack,adr]));exact trivial),by first|exact⟨rfl,rfl⟩|rfl,?_⟩;(try simp only [go_sem]);(first|refine hK _ _ _ ?_|refine hK _ _ _ _ ?_);clear hK K)
  refine viaF (And.intro hd1 hd2) ?_
  refine Goes.finI rfl (by simp (disch:=(first|omega|(simp only [heapL_next,List.length_cons,List.length_nil,List.size_toArray,geo_len]<;>omega)|fail)) only [go_sem,resA,res1A,Try.results39]<;>rfl) rfl rfl ?_ ?_
  · exact Clo.plain (by simp [plainB])
  · exact turn_m
set_option maxHeartbeats 1000000 in
set_option maxRecDepth 100000 in
theorem do4_in (ws:List UInt64) (bs:List UInt8) (wc bc k:Nat) (A B:UInt64) (hk:k<ws.length):DoesI 39 #[.pointer (some ⟨0,0,none⟩),accV 4 (k:Int) A B] (mRows ws bs wc bc) (.tuple #[.int .u64 (ws[k].toNat:Int),.bool true]) (mRows (ws.set k (ws[k]+A)) bs wc bc):=by
  refine DoesI.mk Try.func39 rfl rfl ?clo ?rows ?_
  case clo=>exact args_clo (by simp)
  case rows=>exact mRows_clo ws bs wc bc
  rw [Try.ntmps39];simp only [List.size_toArray,List.length_cons,List.length_nil,List.replicate,List.cons_append,List.nil_append]
  simp only [mRows,List.map_cons,List.map_nil,accV,List.length_set]
  have hd1:decide ((k:Int)<0)=false:=decide_eq_false (by omega)
  have hd2:decide ((k:Int) ≥ (ws.length:Int))=false:=decide_eq_false (by omega)
  have hx:=wL_at hk
  have hll:=wL_len ws
  refine viaF (And.intro hd1 (And.intro hd2 (And.intro hx hll))) ?_
  ((first|refine At.callX [0,1,2] rfl rfl rfl (by decide) rfl (fun K hK=>?_)|refine RG.callX [0,1,2] rfl rfl rfl rfl (by decide) (fun K hK=>?_));simp (disch:=(first|omega|(simp only [heapL_next,List.length_cons,List.length_nil,List.size_toArray,geo_len]<;>omega)|fail)) only [go_sem];refine⟨_,_,_,_,_,_,(words_x ws bs wc bc),by first|rfl|simp (disch:=(first|omega|(simp only [heapL_next,List.length_cons,List.length_nil,List.size_toArray,geo_len]<;>omega)|fail)) only [go_sem],by ((repeat (refine⟨⟨_,rfl,rfl,?_,(by first|exact .inr rfl|exact .inl rfl),(by first|exact fun h=>h|exact fun _=>rfl|(intro h;cases h))⟩,?_⟩;· first|exact plain_map numRow_plain|(simp [up_0,up_1,up_2,up_3,up_4,up_base,up_slack,adr];done)|(simp [up_prt];done)|exact plain_map (by simp [plainB];done)|simp [up_0,up_1,up_2,up_00,up_base,up_slack,adr]));exact trivial),by first|exact⟨rfl,rfl⟩|rfl,?_⟩;(try simp only [go_sem]);(first|refine hK _ _ _ ?_|refine hK _ _ _ _ ?_);clear hK K)
  refine viaF (And.intro hd1 (And.intro hd2 (And.intro hx hll))) ?_
  ((first|refine qc1 rfl rfl fun K hK=>?_|refine qc3 rfl rfl fun K hK=>?_);simp (disch:=(first|omega|(simp only [sz]<;>omega)|fail)) only [go_sem];(first|refine⟨_,_,kinds_x,?_⟩|refine⟨_,_,Does.com (kinds_x),?_⟩);(try simp only [go_sem]);with_reducible refine hK _ _ ?_;clear hK K)
  simp only [kindsV]
  have hts:=onw_size
  have hta:=onw_agg
  have hk1:=Nat.mul_one k
  refine viaF (And.intro hd1 (And.intro hd2 (And.intro hx (And.intro hll (And.intro hts (And.intro hta hk1)))))) ?_
  ((first|refine qc1 rfl rfl fun K hK=>?_|refine qc3 rfl rfl fun K hK=>?_);simp (disch:=(first|omega|(simp only [sz]<;>omega)|fail)) only [go_sem];(first|refine⟨_,_,kinds4_x ws[k] 4 (k:Int) A B,?_⟩|refine⟨_,_,Does.com (kinds4_x ws[k] 4 (k:Int) A B),?_⟩);(try simp only [go_sem]);with_reducible refine hK _ _ ?_;clear hK K)
  refine viaF (And.intro hd1 (And.intro hd2 (And.intro hx (And.intro hll hk1)))) ?_
  rw [wL_set]
  refine Goes.finI rfl (by simp (disch:=(first|omega|(simp only [heapL_next,List.length_cons,List.length_nil,List.size_toArray,geo_len]<;>omega)|fail)) only [go_sem,resA,res1A,Try.results39]<;>rfl) rfl rfl ?_ ?_
  · exact Clo.plain (by simp [plainB])
  · exact turn_m
set_option maxHeartbeats 1000000 in
set_option maxRecDepth 100000 in
theorem do5_neg (ws:List UInt64) (bs:List UInt8) (wc bc:Nat) (n:Int) (A B:UInt64) (hn:n<0):DoesI 39 #[.pointer (some ⟨0,0,none⟩),accV 5 n A B] (mRows ws bs wc bc) (.tuple #[.int .u64 0,.bool false]) (mRows ws bs wc bc):=by
  refine DoesI.mk Try.func39 rfl rfl ?clo ?rows ?_
  case clo=>exact args_clo (by simp)
  case rows=>exact mRows_clo ws bs wc bc
  rw [Try.ntmps39];simp only [List.size_toArray,List.length_cons,List.length_nil,List.replicate,List.cons_append,List.nil_append]
  simp only [mRows,List.map_cons,List.map_nil,accV,List.length_set]
  have hd1:decide (n<0)=true:=decide_eq_true hn
  refine viaF hd1 ?_
  refine Goes.finI rfl (by simp (disch:=(first|omega|(simp only [heapL_next,List.length_cons,List.length_nil,List.size_toArray,geo_len]<;>omega)|fail)) only [go_sem,resA,res1A,Try.results39]<;>rfl) rfl rfl ?_ ?_
  · exact Clo.plain (by simp [plainB])
  · exact turn_m
set_option maxHeartbeats 1000000 in
set_option maxRecDepth 100000 in
theorem do5_far (ws:List UInt64) (bs:List UInt8) (wc bc:Nat) (n:Int) (A B:UInt64) (hn:(bs.length:Int)≤n):DoesI 39 #[.pointer (some ⟨0,0,none⟩),accV 5 n A B] (mRows ws bs wc bc) (.tuple #[.int .u64 0,.bool false]) (mRows ws bs wc bc):=by
  refine DoesI.mk Try.func39 rfl rfl ?clo ?rows ?_
  case clo=>exact args_clo (by simp)
  case rows=>exact mRows_clo ws bs wc bc
  rw [Try.ntmps39];simp only [List.size_toArray,List.length_cons,List.length_nil,List.replicate,List.cons_append,List.nil_append]
  simp only [mRows,List.map_cons,List.map_nil,accV,List.length_set]
  have hd1:decide (n<0)=false:=decide_eq_false (by omega)
  have hd2:decide (n ≥ (bs.length:Int))=true:=decide_eq_true (by omega)
  refine viaF (And.intro hd1 hd2) ?_
  ((first|refine At.callX [0,1,2] rfl rfl rfl (by decide) rfl (fun K hK=>?_)|refine RG.callX [0,1,2] rfl rfl rfl rfl (by decide) (fun K hK=>?_));simp (disch:=(first|omega|(simp only [heapL_next,List.length_cons,List.length_nil,List.size_toArray,geo_len]<;>omega)|fail)) only [go_sem];refine⟨_,_,_,_,_,_,(bytes_x ws bs wc bc),by first|rfl|simp (disch:=(first|omega|(simp only [heapL_next,List.length_cons,List.length_nil,List.size_toArray,geo_len]<;>omega)|fail)) only [go_sem],by ((repeat (refine⟨⟨_,rfl,rfl,?_,(by first|exact .inr rfl|exact .inl rfl),(by first|exact fun h=>h|exact fun _=>rfl|(intro h;cases h))⟩,?_⟩;· first|exact plain_map numRow_plain|(simp [up_0,up_1,up_2,up_3,up_4,up_base,up_slack,adr];done)|(simp [up_prt];done)|exact plain_map (by simp [plainB];done)|simp [up_0,up_1,up_2,up_00,up_base,up_slack,adr]));exact trivial),by first|exact⟨rfl,rfl⟩|rfl,?_⟩;(try simp only [go_sem]);(first|refine hK _ _ _ ?_|refine hK _ _ _ _ ?_);clear hK K)
  refine viaF (And.intro hd1 hd2) ?_
  refine Goes.finI rfl (by simp (disch:=(first|omega|(simp only [heapL_next,List.length_cons,List.length_nil,List.size_toArray,geo_len]<;>omega)|fail)) only [go_sem,resA,res1A,Try.results39]<;>rfl) rfl rfl ?_ ?_
  · exact Clo.plain (by simp [plainB])
  · exact turn_m
set_option maxHeartbeats 1000000 in
set_option maxRecDepth 100000 in
theorem do5_in (ws:List UInt64) (bs:List UInt8) (wc bc k:Nat) (A B:UInt64) (hk:k<bs.length):DoesI 39 #[.pointer (some ⟨0,0,none⟩),accV 5 (k:Int) A B] (mRows ws bs wc bc) (.tuple #[.int .u64 (bs[k].toNat:Int),.bool true]) (mRows ws bs wc bc):=by
  refine DoesI.mk Try.func39 rfl rfl ?clo ?rows ?_
  case clo=>exact args_clo (by simp)
  case rows=>exact mRows_clo ws bs wc bc
  rw [Try.ntmps39];simp only [List.size_toArray,List.length_cons,List.length_nil,List.replicate,List.cons_append,List.nil_append]
  simp only [mRows,List.map_cons,List.map_nil,accV,List.length_set]
  have hd1:decide ((k:Int)<0)=false:=decide_eq_false (by omega)
  have hd2:decide ((k:Int) ≥ (bs.length:Int))=false:=decide_eq_false (by omega)
  have hx:=bL_at hk
  have hll:=bL_len bs
  have hk1:=Nat.mul_one k
  have hw:=u64_of_u8 bs[k]
  refine viaF (And.intro hd1 (And.intro hd2 (And.intro hx (And.intro hll (And.intro hk1 hw))))) ?_
  ((first|refine At.callX [0,1,2] rfl rfl rfl (by decide) rfl (fun K hK=>?_)|refine RG.callX [0,1,2] rfl rfl rfl rfl (by decide) (fun K hK=>?_));simp (disch:=(first|omega|(simp only [heapL_next,List.length_cons,List.length_nil,List.size_toArray,geo_len]<;>omega)|fail)) only [go_sem];refine⟨_,_,_,_,_,_,(bytes_x ws bs wc bc),by first|rfl|simp (disch:=(first|omega|(simp only [heapL_next,List.length_cons,List.length_nil,List.size_toArray,geo_len]<;>omega)|fail)) only [go_sem],by ((repeat (refine⟨⟨_,rfl,rfl,?_,(by first|exact .inr rfl|exact .inl rfl),(by first|exact fun h=>h|exact fun _=>rfl|(intro h;cases h))⟩,?_⟩;· first|exact plain_map numRow_plain|(simp [up_0,up_1,up_2,up_3,up_4,up_base,up_slack,adr];done)|(simp [up_prt];done)|exact plain_map (by simp [plainB];done)|simp [up_0,up_1,up_2,up_00,up_base,up_slack,adr]));exact trivial),by first|exact⟨rfl,rfl⟩|rfl,?_⟩;(try simp only [go_sem]);(first|refine hK _ _ _ ?_|refine hK _ _ _ _ ?_);clear hK K)
  refine viaF (And.intro hd1 (And.intro hd2 (And.intro hx (And.intro hll (And.intro hk1 hw))))) ?_
  refine Goes.finI rfl (by simp (disch:=(first|omega|(simp only [heapL_next,List.length_cons,List.length_nil,List.size_toArray,geo_len]<;>omega)|fail)) only [go_sem,resA,res1A,Try.results39]<;>rfl) rfl rfl ?_ ?_
  · exact Clo.plain (by simp [plainB])
  · exact turn_m
set_option maxHeartbeats 1000000 in
set_option maxRecDepth 100000 in
theorem do6_neg (ws:List UInt64) (bs:List UInt8) (wc bc:Nat) (n:Int) (A B:UInt64) (hn:n<0):DoesI 39 #[.pointer (some ⟨0,0,none⟩),accV 6 n A B] (mRows ws bs wc bc) (.tuple #[.int .u64 0,.bool false]) (mRows ws bs wc bc):=by
  refine DoesI.mk Try.func39 rfl rfl ?clo ?rows ?_
  case clo=>exact args_clo (by simp)
  case rows=>exact mRows_clo ws bs wc bc
  rw [Try.ntmps39];simp only [List.size_toArray,List.length_cons,List.length_nil,List.replicate,List.cons_append,List.nil_append]
  simp only [mRows,List.map_cons,List.map_nil,accV,List.length_set]
  have hd1:decide (n<0)=true:=decide_eq_true hn
  refine viaF hd1 ?_
  refine Goes.finI rfl (by simp (disch:=(first|omega|(simp only [heapL_next,List.length_cons,List.length_nil,List.size_toArray,geo_len]<;>omega)|fail)) only [go_sem,resA,res1A,Try.results39]<;>rfl) rfl rfl ?_ ?_
  · exact Clo.plain (by simp [plainB])
  · exact turn_m
set_option maxHeartbeats 1000000 in
set_option maxRecDepth 100000 in
theorem do6_far (ws:List UInt64) (bs:List UInt8) (wc bc:Nat) (n:Int) (A B:UInt64) (hn:(bs.length:Int)≤n):DoesI 39 #[.pointer (some ⟨0,0,none⟩),accV 6 n A B] (mRows ws bs wc bc) (.tuple #[.int .u64 0,.bool false]) (mRows ws bs wc bc):=by
  refine DoesI.mk Try.func39 rfl rfl ?clo ?rows ?_
  case clo=>exact args_clo (by simp)
  case rows=>exact mRows_clo ws bs wc bc
  rw [Try.ntmps39];simp only [List.size_toArray,List.length_cons,List.length_nil,List.replicate,List.cons_append,List.nil_append]
  simp only [mRows,List.map_cons,List.map_nil,accV,List.length_set]
  have hd1:decide (n<0)=false:=decide_eq_false (by omega)
  have hd2:decide (n ≥ (bs.length:Int))=true:=decide_eq_true (by omega)
  refine viaF (And.intro hd1 hd2) ?_
  ((first|refine At.callX [0,1,2] rfl rfl rfl (by decide) rfl (fun K hK=>?_)|refine RG.callX [0,1,2] rfl rfl rfl rfl (by decide) (fun K hK=>?_));simp (disch:=(first|omega|(simp only [heapL_next,List.length_cons,List.length_nil,List.size_toArray,geo_len]<;>omega)|fail)) only [go_sem];refine⟨_,_,_,_,_,_,(bytes_x ws bs wc bc),by first|rfl|simp (disch:=(first|omega|(simp only [heapL_next,List.length_cons,List.length_nil,List.size_toArray,geo_len]<;>omega)|fail)) only [go_sem],by ((repeat (refine⟨⟨_,rfl,rfl,?_,(by first|exact .inr rfl|exact .inl rfl),(by first|exact fun h=>h|exact fun _=>rfl|(intro h;cases h))⟩,?_⟩;· first|exact plain_map numRow_plain|(simp [up_0,up_1,up_2,up_3,up_4,up_base,up_slack,adr];done)|(simp [up_prt];done)|exact plain_map (by simp [plainB];done)|simp [up_0,up_1,up_2,up_00,up_base,up_slack,adr]));exact trivial),by first|exact⟨rfl,rfl⟩|rfl,?_⟩;(try simp only [go_sem]);(first|refine hK _ _ _ ?_|refine hK _ _ _ _ ?_);clear hK K)
  refine viaF (And.intro hd1 hd2) ?_
  refine Goes.finI rfl (by simp (disch:=(first|omega|(simp only [heapL_next,List.length_cons,List.length_nil,List.size_toArray,geo_len]<;>omega)|fail)) only [go_sem,resA,res1A,Try.results39]<;>rfl) rfl rfl ?_ ?_
  · exact Clo.plain (by simp [plainB])
  · exact turn_m
set_option maxHeartbeats 1000000 in
set_option maxRecDepth 100000 in
theorem do6_in (ws:List UInt64) (bs:List UInt8) (wc bc k:Nat) (A B:UInt64) (hk:k<bs.length):DoesI 39 #[.pointer (some ⟨0,0,none⟩),accV 6 (k:Int) A B] (mRows ws bs wc bc) (.tuple #[.int .u64 0,.bool true]) (mRows ws (bs.set k A.toUInt8) wc bc):=by
  refine DoesI.mk Try.func39 rfl rfl ?clo ?rows ?_
  case clo=>exact args_clo (by simp)
  case rows=>exact mRows_clo ws bs wc bc
  rw [Try.ntmps39];simp only [List.size_toArray,List.length_cons,List.length_nil,List.replicate,List.cons_append,List.nil_append]
  simp only [mRows,List.map_cons,List.map_nil,accV,List.length_set]
  have hd1:decide ((k:Int)<0)=false:=decide_eq_false (by omega)
  have hd2:decide ((k:Int) ≥ (bs.length:Int))=false:=decide_eq_false (by omega)
  have hll:=bL_len bs
  have hk1:=Nat.mul_one k
  have hw:=u8_wrap A
  refine viaF (And.intro hd1 (And.intro hd2 (And.intro hll (And.intro hk1 hw)))) ?_
  ((first|refine At.callX [0,1,2] rfl rfl rfl (by decide) rfl (fun K hK=>?_)|refine RG.callX [0,1,2] rfl rfl rfl rfl (by decide) (fun K hK=>?_));simp (disch:=(first|omega|(simp only [heapL_next,List.length_cons,List.length_nil,List.size_toArray,geo_len]<;>omega)|fail)) only [go_sem];refine⟨_,_,_,_,_,_,(bytes_x ws bs wc bc),by first|rfl|simp (disch:=(first|omega|(simp only [heapL_next,List.length_cons,List.length_nil,List.size_toArray,geo_len]<;>omega)|fail)) only [go_sem],by ((repeat (refine⟨⟨_,rfl,rfl,?_,(by first|exact .inr rfl|exact .inl rfl),(by first|exact fun h=>h|exact fun _=>rfl|(intro h;cases h))⟩,?_⟩;· first|exact plain_map numRow_plain|(simp [up_0,up_1,up_2,up_3,up_4,up_base,up_slack,adr];done)|(simp [up_prt];done)|exact plain_map (by simp [plainB];done)|simp [up_0,up_1,up_2,up_00,up_base,up_slack,adr]));exact trivial),by first|exact⟨rfl,rfl⟩|rfl,?_⟩;(try simp only [go_sem]);(first|refine hK _ _ _ ?_|refine hK _ _ _ _ ?_);clear hK K)
  refine viaF (And.intro hd1 (And.intro hd2 (And.intro hll (And.intro hk1 hw)))) ?_
  rw [bL_set]
  refine Goes.finI rfl (by simp (disch:=(first|omega|(simp only [heapL_next,List.length_cons,List.length_nil,List.size_toArray,geo_len]<;>omega)|fail)) only [go_sem,resA,res1A,Try.results39]<;>rfl) rfl rfl ?_ ?_
  · exact Clo.plain (by simp [plainB])
  · exact turn_m
theorem wS_load {n:Int} {A B:UInt64} {ws:List UInt64}:wS 1 n A B ws=ws:=by
  unfold wS wAt
  split
  · rfl
  · rename_i x h
    split at h
    · cases h
    · obtain⟨hi,rfl⟩:=List.getElem?_eq_some_iff.1 h
      exact set_same hi
theorem do_x (ws:List UInt64) (bs:List UInt8) (wc bc c:Nat) (n:Int) (A B:UInt64) (h1:1≤c) (h4:c≤4):DoesI 39 #[.pointer (some ⟨0,0,none⟩),accV c n A B] (mRows ws bs wc bc) (.tuple #[.int .u64 ((wT c n A ws).toNat:Int),.bool (wAt ws n).isSome]) (mRows (wS c n A B ws) bs wc bc):=by
  by_cases hn:n<0
  · simp only [wT,wS,wAt_neg hn]
    match c,h1,h4 with
    | 1,_,_=>exact do1_neg ws bs wc bc n A B hn
    | 2,_,_=>exact do2_neg ws bs wc bc n A B hn
    | 3,_,_=>exact do3_neg ws bs wc bc n A B hn
    | 4,_,_=>exact do4_neg ws bs wc bc n A B hn
  · by_cases hf:(ws.length:Int)≤n
    · simp only [wT,wS,wAt_far hf]
      match c,h1,h4 with
      | 1,_,_=>exact do1_far ws bs wc bc n A B hf
      | 2,_,_=>exact do2_far ws bs wc bc n A B hf
      | 3,_,_=>exact do3_far ws bs wc bc n A B hf
      | 4,_,_=>exact do4_far ws bs wc bc n A B hf
    · obtain⟨k,rfl⟩:∃ k:Nat,n=k:=⟨n.toNat,by omega⟩
      have hk:k<ws.length:=by omega
      simp only [wT,wS,wAt_in hk,Int.toNat_natCast]
      match c,h1,h4 with
      | 1,_,_=>exact do1_in ws bs wc bc k A B hk
      | 2,_,_=>exact do2_in ws bs wc bc k A B hk
      | 3,_,_=>exact do3_in ws bs wc bc k A B hk
      | 4,_,_=>exact do4_in ws bs wc bc k A B hk
theorem dget_x (ws:List UInt64) (bs:List UInt8) (wc bc:Nat) (n:Int) (A B:UInt64):DoesI 39 #[.pointer (some ⟨0,0,none⟩),accV 5 n A B] (mRows ws bs wc bc) (.tuple #[.int .u64 ((bT n bs).toNat:Int),.bool (bAt bs n).isSome]) (mRows ws bs wc bc):=by
  by_cases hn:n<0
  · simp only [bT,bAt_neg hn]
    exact do5_neg ws bs wc bc n A B hn
  · by_cases hf:(bs.length:Int)≤n
    · simp only [bT,bAt_far hf]
      exact do5_far ws bs wc bc n A B hf
    · obtain⟨k,rfl⟩:∃ k:Nat,n=k:=⟨n.toNat,by omega⟩
      have hk:k<bs.length:=by omega
      simp only [bT,bAt_in hk]
      exact do5_in ws bs wc bc k A B hk
theorem dput_x (ws:List UInt64) (bs:List UInt8) (wc bc:Nat) (n:Int) (A B:UInt64):DoesI 39 #[.pointer (some ⟨0,0,none⟩),accV 6 n A B] (mRows ws bs wc bc) (.tuple #[.int .u64 0,.bool (bAt bs n).isSome]) (mRows ws (bS n A.toUInt8 bs) wc bc):=by
  by_cases hn:n<0
  · simp only [bS,bAt_neg hn]
    exact do6_neg ws bs wc bc n A B hn
  · by_cases hf:(bs.length:Int)≤n
    · simp only [bS,bAt_far hf]
      exact do6_far ws bs wc bc n A B hf
    · obtain⟨k,rfl⟩:∃ k:Nat,n=k:=⟨n.toNat,by omega⟩
      have hk:k<bs.length:=by omega
      simp only [bS,bAt_in hk,Int.toNat_natCast]
      exact do6_in ws bs wc bc k A B hk
theorem do_x' (ws:List UInt64) (bs:List UInt8) (wc bc c:Nat) (n:Int) (A B:UInt64) (h1:1≤c) (h4:c≤4):DoesI 39 #[.pointer (some ⟨0,0,none⟩),.agg #[.int .u8 (c:Int),.int .i64 n,.int .u64 (A.toNat:Int),.int .u64 (B.toNat:Int)]] (mRows ws bs wc bc) (.tuple #[.int .u64 ((wT c n A ws).toNat:Int),.bool (wAt ws n).isSome]) [mB ws.length wc bs.length bc,wB (wS c n A B ws),bB bs]:=by
  have h:=do_x ws bs wc bc c n A B h1 h4
  simp only [mRows,wS_length] at h
  exact h
theorem dget_x' (ws:List UInt64) (bs:List UInt8) (wc bc:Nat) (n:Int) (A B:UInt64):DoesI 39 #[.pointer (some ⟨0,0,none⟩),.agg #[.int .u8 ((5:Nat):Int),.int .i64 n,.int .u64 (A.toNat:Int),.int .u64 (B.toNat:Int)]] (mRows ws bs wc bc) (.tuple #[.int .u64 ((bT n bs).toNat:Int),.bool (bAt bs n).isSome]) [mB ws.length wc bs.length bc,wB ws,bB bs]:=dget_x ws bs wc bc n A B
theorem dput_x' (ws:List UInt64) (bs:List UInt8) (wc bc:Nat) (n:Int) (A B:UInt64):DoesI 39 #[.pointer (some ⟨0,0,none⟩),.agg #[.int .u8 ((6:Nat):Int),.int .i64 n,.int .u64 (A.toNat:Int),.int .u64 (B.toNat:Int)]] (mRows ws bs wc bc) (.tuple #[.int .u64 0,.bool (bAt bs n).isSome]) [mB ws.length wc bs.length bc,wB ws,bB (bS n A.toUInt8 bs)]:=by
  have h:=dput_x ws bs wc bc n A B
  simp only [mRows,bS_length] at h
  exact h
theorem p2_clo {n:Nat} {u0:Value} (h:0<n) (h0:plainB u0=true):∀ u∈(#[.pointer (some ⟨0,0,none⟩),u0]:Array Value).toList,Clo (Kn n 0) u:=fun u hu=>by
  simp only [List.mem_cons,List.not_mem_nil,or_false] at hu
  rcases hu with rfl|rfl
  · exact clo_p h
  · exact Clo.plain h0
theorem z64:(((0:UInt64).toNat:Nat):Int)=0:=rfl
theorem map_row {E:Emb} {k:IntKind} {ns:List Int}:List.map (ren E) (numRow k ns)=numRow k ns:=(plain_map numRow_plain).symm
theorem word_x (ws:List UInt64) (bs:List UInt8) (wc bc:Nat) (n:Int):DoesI 57 #[.pointer (some ⟨0,0,none⟩),.int .i64 n] (mRows ws bs wc bc) (.int .u64 ((wT 1 n 0 ws).toNat:Int)) (mRows ws bs wc bc):=by
  refine DoesI.mk Try.func57 rfl rfl ?clo ?rows ?_
  case clo=>exact p2_clo (by simp) rfl
  case rows=>exact mRows_clo ws bs wc bc
  rw [Try.ntmps57];simp only [List.size_toArray,List.length_cons,List.length_nil,List.replicate,List.cons_append,List.nil_append]
  simp only [mRows,List.map_cons,List.map_nil]
  refine via ?_
  have hdo:=do_x' ws bs wc bc 1 n 0 0 (by omega) (by omega)
  simp only [wS_load,z64] at hdo
  ((first|refine At.callX [0,1,2] rfl rfl rfl (by decide) rfl (fun K hK=>?_)|refine RG.callX [0,1,2] rfl rfl rfl rfl (by decide) (fun K hK=>?_));simp (disch:=(first|omega|(simp only [heapL_next,List.length_cons,List.length_nil,List.size_toArray,geo_len]<;>omega)|fail)) only [go_sem];refine⟨_,_,_,_,_,_,hdo.x,by first|rfl|simp (disch:=(first|omega|(simp only [heapL_next,List.length_cons,List.length_nil,List.size_toArray,geo_len]<;>omega)|fail)) only [go_sem],by ((repeat (refine⟨⟨_,rfl,rfl,?_,(by first|exact .inr rfl|exact .inl rfl),(by first|exact fun h=>h|exact fun _=>rfl|(intro h;cases h))⟩,?_⟩;· first|exact plain_map numRow_plain|(simp [up_0,up_1,up_2,up_3,up_4,up_base,up_slack,adr];done)|(simp [up_prt];done)|exact plain_map (by simp [plainB];done)|simp [up_0,up_1,up_2,up_00,up_base,up_slack,adr]));exact trivial),by first|exact⟨rfl,rfl⟩|rfl,?_⟩;(try simp only [go_sem]);(first|refine hK _ _ _ ?_|refine hK _ _ _ _ ?_);clear hK K)
  simp only [map_row,Bool.true_eq_false,if_false]
  refine via ?_
  refine Goes.finI rfl (by simp (disch:=(first|omega|(simp only [heapL_next,List.length_cons,List.length_nil,List.size_toArray,geo_len]<;>omega)|fail)) only [go_sem,resA,res1A,Try.results57]<;>rfl) rfl rfl ?_ ?_
  · exact Clo.plain rfl
  · exact turn_m
abbrev yB (s:Nat):Blk:=⟨[.pointer (some ⟨0,0,none⟩),.int .i64 (s:Int)],126,false,none⟩
abbrev yRows (ws:List UInt64) (bs:List UInt8) (wc bc s:Nat):List Blk:=[mB ws.length wc bs.length bc,wB ws,bB bs,yB s]
theorem yRows_clo (ws:List UInt64) (bs:List UInt8) (wc bc s:Nat):∀ b∈yRows ws bs wc bc s,∀ u∈b.cells,Clo (Kn (yRows ws bs wc bc s).length 0) u:=by
  intro b hb u hu
  simp only [List.mem_cons,List.not_mem_nil,or_false] at hb
  rcases hb with rfl|rfl|rfl|rfl
  · simp only [List.mem_cons,List.not_mem_nil,or_false] at hu
    rcases hu with rfl|rfl
    · exact clo_s (by simp)
    · exact clo_s (by simp)
  · exact Clo.plain (numRow_plain u hu)
  · exact Clo.plain (numRow_plain u hu)
  · simp only [List.mem_cons,List.not_mem_nil,or_false] at hu
    rcases hu with rfl|rfl
    · exact clo_p (by simp)
    · exact Clo.plain rfl
theorem y_clo {n c s:Nat} (h:0<n):∀ u∈(yB s).cells,Clo (Kn n c) u:=fun u hu=>by
  simp only [List.mem_cons,List.not_mem_nil,or_false] at hu
  rcases hu with rfl|rfl
  · exact clo_p h
  · exact Clo.plain rfl
theorem turn_y {ws ws':List UInt64} {bs bs':List UInt8} {wn wc bn bc m c s s':Nat} {l:List (Option Blk)} (hm:0<m):∀ (i:Nat) b,[mB wn wc bn bc,wB ws,bB bs,yB s][i]?=some b→b.ro=false→∃ b1,(heapL (some (mB wn wc bn bc)::some (wB ws')::some (bB bs')::some (yB s')::l)).get i=some b1∧[mB wn wc bn bc,wB ws',bB bs',yB s'][i]?=some b1∧b1.ro=false∧∀ u∈b1.cells,Clo (Kn m c) u
  | 0,b,hb,hro=>by simp at hb;subst hb;cases hro
  | 1,b,_,_=>⟨wB ws',rfl,rfl,rfl,fun u hu=>Clo.plain (wL_plain ws' u hu)⟩
  | 2,b,_,_=>⟨bB bs',rfl,rfl,rfl,fun u hu=>Clo.plain (bL_plain bs' u hu)⟩
  | 3,b,_,_=>⟨yB s',rfl,rfl,rfl,y_clo hm⟩
  | i+4,b,hb,_=>by simp at hb
theorem y5_clo {c:Nat} {n:Int} {A B:UInt64} {m:Nat} (h:3<m):∀ u∈(#[.pointer (some ⟨3,0,none⟩),.int .u8 (c:Int),.int .i64 n,.int .u64 (A.toNat:Int),.int .u64 (B.toNat:Int)]:Array Value).toList,Clo (Kn m 0) u:=fun u hu=>by
  simp only [List.mem_cons,List.not_mem_nil,or_false] at hu
  rcases hu with rfl|rfl|rfl|rfl|rfl
  · exact clo_p h
  all_goals exact Clo.plain rfl
theorem step1 {s:Nat} (h:s≤1000000000000):IntKind.i64.wrap ((s:Int)+1)=((s+1:Nat):Int):=by rw [IntKind.wrap_i64];omega
theorem ydo_x (ws:List UInt64) (bs:List UInt8) (wc bc s c:Nat) (n:Int) (A B:UInt64) (h1:1≤c) (h4:c≤4) (hs:s≤1000000000000):DoesI 127 #[.pointer (some ⟨3,0,none⟩),.int .u8 (c:Int),.int .i64 n,.int .u64 (A.toNat:Int),.int .u64 (B.toNat:Int)] (yRows ws bs wc bc s) (.int .u64 ((wT c n A ws).toNat:Int)) [mB ws.length wc bs.length bc,wB (wS c n A B ws),bB bs,yB (s+1)]:=by
  refine DoesI.mk Try.func127 rfl rfl ?clo ?rows ?_
  case clo=>exact y5_clo (by simp)
  case rows=>exact yRows_clo ws bs wc bc s
  rw [Try.ntmps127];simp only [List.size_toArray,List.length_cons,List.length_nil,List.replicate,List.cons_append,List.nil_append]
  simp only [yRows,List.map_cons,List.map_nil]
  have hs1:=step1 hs
  refine viaF hs1 ?_
  have hdo:=do_x' ws bs wc bc c n A B h1 h4
  ((first|refine At.callX [0,1,2] rfl rfl rfl (by decide) rfl (fun K hK=>?_)|refine RG.callX [0,1,2] rfl rfl rfl rfl (by decide) (fun K hK=>?_));simp (disch:=(first|omega|(simp only [heapL_next,List.length_cons,List.length_nil,List.size_toArray,geo_len]<;>omega)|fail)) only [go_sem];refine⟨_,_,_,_,_,_,hdo.x,by first|rfl|simp (disch:=(first|omega|(simp only [heapL_next,List.length_cons,List.length_nil,List.size_toArray,geo_len]<;>omega)|fail)) only [go_sem],by ((repeat (refine⟨⟨_,rfl,rfl,?_,(by first|exact .inr rfl|exact .inl rfl),(by first|exact fun h=>h|exact fun _=>rfl|(intro h;cases h))⟩,?_⟩;· first|exact plain_map numRow_plain|(simp [up_0,up_1,up_2,up_3,up_4,up_base,up_slack,adr];done)|(simp [up_prt];done)|exact plain_map (by simp [plainB];done)|simp [up_0,up_1,up_2,up_00,up_base,up_slack,adr]));exact trivial),by first|exact⟨rfl,rfl⟩|rfl,?_⟩;(try simp only [go_sem]);(first|refine hK _ _ _ ?_|refine hK _ _ _ _ ?_);clear hK K)
  simp only [map_row,Bool.true_eq_false,if_false]
  refine via ?_
  refine Goes.finI rfl (by simp (disch:=(first|omega|(simp only [heapL_next,List.length_cons,List.length_nil,List.size_toArray,geo_len]<;>omega)|fail)) only [go_sem,resA,res1A,Try.results127]<;>rfl) rfl rfl ?_ ?_
  · exact Clo.plain rfl
  · exact turn_y (by simp)
abbrev yBr (s:Nat):Blk:=⟨[.pointer (some ⟨0,0,none⟩),.int .i64 (s:Int)],126,true,none⟩
abbrev dB (me:Int):Blk:=⟨[.pointer (some ⟨3,0,none⟩),.int .i64 me],128,true,none⟩
abbrev dRo (ws:List UInt64) (bs:List UInt8) (wc bc s:Nat) (me:Int):List Blk:=[mB ws.length wc bs.length bc,wBr ws,bBr bs,yBr s,dB me]
abbrev dRows (ws:List UInt64) (bs:List UInt8) (wc bc s:Nat) (me:Int):List Blk:=[mB ws.length wc bs.length bc,wB ws,bB bs,yB s,dB me]
theorem dcl (ws:List UInt64) (bs:List UInt8) (wc bc s:Nat) (me:Int) (r1 r2 r3:Bool):∀ b∈[mB ws.length wc bs.length bc,⟨wL ws,26,r1,none⟩,⟨bL bs,5,r2,none⟩,⟨[.pointer (some ⟨0,0,none⟩),.int .i64 (s:Int)],126,r3,none⟩,dB me],∀ u∈b.cells,Clo (Kn 5 0) u:=by
  intro b hb u hu
  simp only [List.mem_cons,List.not_mem_nil,or_false] at hb
  rcases hb with rfl|rfl|rfl|rfl|rfl
  · simp only [List.mem_cons,List.not_mem_nil,or_false] at hu
    rcases hu with rfl|rfl
    · exact clo_s (by simp)
    · exact clo_s (by simp)
  · exact Clo.plain (numRow_plain u hu)
  · exact Clo.plain (numRow_plain u hu)
  · simp only [List.mem_cons,List.not_mem_nil,or_false] at hu
    rcases hu with rfl|rfl
    · exact clo_p (by simp)
    · exact Clo.plain rfl
  · simp only [List.mem_cons,List.not_mem_nil,or_false] at hu
    rcases hu with rfl|rfl
    · exact clo_p (by simp)
    · exact Clo.plain rfl
theorem turn_d {ws ws':List UInt64} {bs bs':List UInt8} {wn wc bn bc m c s s':Nat} {me:Int} {l:List (Option Blk)} (hm:0<m):∀ (i:Nat) b,[mB wn wc bn bc,wB ws,bB bs,yB s,dB me][i]?=some b→b.ro=false→∃ b1,(heapL (some (mB wn wc bn bc)::some (wB ws')::some (bB bs')::some (yB s')::some (dB me)::l)).get i=some b1∧[mB wn wc bn bc,wB ws',bB bs',yB s',dB me][i]?=some b1∧b1.ro=false∧∀ u∈b1.cells,Clo (Kn m c) u
  | 0,b,hb,hro=>by simp at hb;subst hb;cases hro
  | 1,b,_,_=>⟨wB ws',rfl,rfl,rfl,fun u hu=>Clo.plain (wL_plain ws' u hu)⟩
  | 2,b,_,_=>⟨bB bs',rfl,rfl,rfl,fun u hu=>Clo.plain (bL_plain bs' u hu)⟩
  | 3,b,_,_=>⟨yB s',rfl,rfl,rfl,y_clo hm⟩
  | 4,b,hb,hro=>by simp at hb;subst hb;cases hro
  | i+5,b,hb,_=>by simp at hb
theorem d_clo {zs:List Value} (h:∀ u∈zs,plainB u=true):∀ u∈(Value.pointer (some ⟨4,0,none⟩)::zs),Clo (Kn 5 0) u:=fun u hu=>by
  rcases List.mem_cons.1 hu with rfl|hu
  · exact clo_p (by simp)
  · exact Clo.plain (h u hu)
theorem way_x (ws:List UInt64) (bs:List UInt8) (wc bc s:Nat) (me:Int):DoesX BT 82 #[.pointer (some ⟨4,0,none⟩)] (dRo ws bs wc bc s me) () (.pointer (some ⟨3,0,none⟩)) (dRo ws bs wc bc s me) [] ():=by
  refine DoesX.mk Try.func82 rfl rfl ?clo ?rows ?_
  case clo=>exact d_clo (zs:=[]) (by simp)
  case rows=>exact dcl ws bs wc bc s me true true true
  rw [Try.ntmps82];simp only [List.size_toArray,List.length_cons,List.length_nil,List.replicate,List.cons_append,List.nil_append]
  simp only [dRo,List.map_cons,List.map_nil]
  refine via ?_
  refine Goes.finS rfl (by simp (disch:=(first|omega|(simp only [heapL_next,List.length_cons,List.length_nil,List.size_toArray,geo_len]<;>omega)|fail)) only [go_sem,resA,res1A,Try.results82]<;>rfl) ?_ rfl ?_
  · rfl
  · exact clo_p (by simp)
theorem yget_x (ws:List UInt64) (bs:List UInt8) (wc bc s:Nat) (n:Int) (A B:UInt64) (hs:s≤1000000000000):DoesI 127 #[.pointer (some ⟨3,0,none⟩),.int .u8 ((5:Nat):Int),.int .i64 n,.int .u64 (A.toNat:Int),.int .u64 (B.toNat:Int)] (yRows ws bs wc bc s) (.int .u64 ((bT n bs).toNat:Int)) [mB ws.length wc bs.length bc,wB ws,bB bs,yB (s+1)]:=by
  refine DoesI.mk Try.func127 rfl rfl ?clo ?rows ?_
  case clo=>exact y5_clo (by simp)
  case rows=>exact yRows_clo ws bs wc bc s
  rw [Try.ntmps127];simp only [List.size_toArray,List.length_cons,List.length_nil,List.replicate,List.cons_append,List.nil_append]
  simp only [yRows,List.map_cons,List.map_nil]
  have hs1:=step1 hs
  refine viaF hs1 ?_
  have hdo:=dget_x' ws bs wc bc n A B
  ((first|refine At.callX [0,1,2] rfl rfl rfl (by decide) rfl (fun K hK=>?_)|refine RG.callX [0,1,2] rfl rfl rfl rfl (by decide) (fun K hK=>?_));simp (disch:=(first|omega|(simp only [heapL_next,List.length_cons,List.length_nil,List.size_toArray,geo_len]<;>omega)|fail)) only [go_sem];refine⟨_,_,_,_,_,_,hdo.x,by first|rfl|simp (disch:=(first|omega|(simp only [heapL_next,List.length_cons,List.length_nil,List.size_toArray,geo_len]<;>omega)|fail)) only [go_sem],by ((repeat (refine⟨⟨_,rfl,rfl,?_,(by first|exact .inr rfl|exact .inl rfl),(by first|exact fun h=>h|exact fun _=>rfl|(intro h;cases h))⟩,?_⟩;· first|exact plain_map numRow_plain|(simp [up_0,up_1,up_2,up_3,up_4,up_base,up_slack,adr];done)|(simp [up_prt];done)|exact plain_map (by simp [plainB];done)|simp [up_0,up_1,up_2,up_00,up_base,up_slack,adr]));exact trivial),by first|exact⟨rfl,rfl⟩|rfl,?_⟩;(try simp only [go_sem]);(first|refine hK _ _ _ ?_|refine hK _ _ _ _ ?_);clear hK K)
  simp only [map_row,up_3,Bool.true_eq_false,if_false]
  refine via ?_
  refine Goes.finI rfl (by simp (disch:=(first|omega|(simp only [heapL_next,List.length_cons,List.length_nil,List.size_toArray,geo_len]<;>omega)|fail)) only [go_sem,resA,res1A,Try.results127]<;>rfl) rfl rfl ?_ ?_
  · exact Clo.plain rfl
  · exact turn_y (by simp)
theorem yput_x (ws:List UInt64) (bs:List UInt8) (wc bc s:Nat) (n:Int) (A B:UInt64) (hs:s≤1000000000000):DoesI 127 #[.pointer (some ⟨3,0,none⟩),.int .u8 ((6:Nat):Int),.int .i64 n,.int .u64 (A.toNat:Int),.int .u64 (B.toNat:Int)] (yRows ws bs wc bc s) (.int .u64 0) [mB ws.length wc bs.length bc,wB ws,bB (bS n A.toUInt8 bs),yB (s+1)]:=by
  refine DoesI.mk Try.func127 rfl rfl ?clo ?rows ?_
  case clo=>exact y5_clo (by simp)
  case rows=>exact yRows_clo ws bs wc bc s
  rw [Try.ntmps127];simp only [List.size_toArray,List.length_cons,List.length_nil,List.replicate,List.cons_append,List.nil_append]
  simp only [yRows,List.map_cons,List.map_nil]
  have hs1:=step1 hs
  refine viaF hs1 ?_
  have hdo:=dput_x' ws bs wc bc n A B
  ((first|refine At.callX [0,1,2] rfl rfl rfl (by decide) rfl (fun K hK=>?_)|refine RG.callX [0,1,2] rfl rfl rfl rfl (by decide) (fun K hK=>?_));simp (disch:=(first|omega|(simp only [heapL_next,List.length_cons,List.length_nil,List.size_toArray,geo_len]<;>omega)|fail)) only [go_sem];refine⟨_,_,_,_,_,_,hdo.x,by first|rfl|simp (disch:=(first|omega|(simp only [heapL_next,List.length_cons,List.length_nil,List.size_toArray,geo_len]<;>omega)|fail)) only [go_sem],by ((repeat (refine⟨⟨_,rfl,rfl,?_,(by first|exact .inr rfl|exact .inl rfl),(by first|exact fun h=>h|exact fun _=>rfl|(intro h;cases h))⟩,?_⟩;· first|exact plain_map numRow_plain|(simp [up_0,up_1,up_2,up_3,up_4,up_base,up_slack,adr];done)|(simp [up_prt];done)|exact plain_map (by simp [plainB];done)|simp [up_0,up_1,up_2,up_00,up_base,up_slack,adr]));exact trivial),by first|exact⟨rfl,rfl⟩|rfl,?_⟩;(try simp only [go_sem]);(first|refine hK _ _ _ ?_|refine hK _ _ _ _ ?_);clear hK K)
  simp only [map_row,up_3,Bool.true_eq_false,if_false]
  refine via ?_
  refine Goes.finI rfl (by simp (disch:=(first|omega|(simp only [heapL_next,List.length_cons,List.length_nil,List.size_toArray,geo_len]<;>omega)|fail)) only [go_sem,resA,res1A,Try.results127]<;>rfl) rfl rfl ?_ ?_
  · exact Clo.plain rfl
  · exact turn_y (by simp)
theorem eq_one (x:UInt64):((x.toNat:Int)==1)=(x==1):=by
  by_cases h:x=1
  · subst h;rfl
  · have h2:(x==1)=false:=by simpa using h
    rw [h2]
    simp only [beq_eq_false_iff_ne,ne_eq]
    intro z
    exact h (UInt64.toNat_inj.1 (by have:(1:UInt64).toNat=1:=rfl;omega))
theorem u8_of_u8 (b:UInt8):IntKind.u8.wrap (b.toNat:Int)=(b.toNat:Int):=by
  have:=b.toNat_lt
  rw [IntKind.wrap_u8];omega
theorem u64_of_b (b:UInt8):IntKind.u64.wrap (b.toNat:Int)=((b.toUInt64).toNat:Int):=u64_u8 b
theorem pload_x (ws:List UInt64) (bs:List UInt8) (wc bc s:Nat) (me:Int) (n:Int) (hs:s≤1000000000000):DoesI 122 #[.pointer (some ⟨4,0,none⟩),.int .i64 n] (dRows ws bs wc bc s me) (.int .u64 ((wT 1 n 0 ws).toNat:Int)) [mB ws.length wc bs.length bc,wB ws,bB bs,yB (s+1),dB me]:=by
  refine DoesI.mk Try.func122 rfl rfl ?clo ?rows ?_
  case clo=>exact d_clo (zs:=[.int .i64 n]) (by simp [plainB])
  case rows=>exact dcl ws bs wc bc s me false false false
  rw [Try.ntmps122];simp only [List.size_toArray,List.length_cons,List.length_nil,List.replicate,List.cons_append,List.nil_append]
  simp only [dRows,List.map_cons,List.map_nil]
  refine via ?_
  ((first|refine At.callX [0,1,2,3,4] rfl rfl rfl (by decide) rfl (fun K hK=>?_)|refine RG.callX [0,1,2,3,4] rfl rfl rfl rfl (by decide) (fun K hK=>?_));simp (disch:=(first|omega|(simp only [heapL_next,List.length_cons,List.length_nil,List.size_toArray,geo_len]<;>omega)|fail)) only [go_sem,up_3,up_4];refine⟨_,_,_,_,_,_,way_x ws bs wc bc s me,by first|rfl|simp (disch:=(first|omega|(simp only [heapL_next,List.length_cons,List.length_nil,List.size_toArray,geo_len]<;>omega)|fail)) only [go_sem,up_3,up_4],by ((repeat (refine⟨⟨_,rfl,rfl,?_,(by first|exact .inr rfl|exact .inl rfl),(by first|exact fun h=>h|exact fun _=>rfl|(intro h;cases h))⟩,?_⟩;· first|exact plain_map numRow_plain|(simp [up_0,up_1,up_2,up_3,up_4,up_base,up_slack,adr];done)|(simp [up_prt];done)|exact plain_map (by simp [plainB];done)|simp [up_0,up_1,up_2,up_00,up_base,up_slack,adr]));exact trivial),by first|exact⟨rfl,rfl⟩|rfl,?_⟩;(try simp only [go_sem]);(first|refine hK _ _ _ ?_|refine hK _ _ _ _ ?_);clear hK K)
  simp only [map_row,up_3,Bool.true_eq_false,if_false]
  refine via ?_
  have hy:=ydo_x ws bs wc bc s 1 n 0 0 (by omega) (by omega) hs
  simp only [yRows,wS_load,z64] at hy
  ((first|refine At.callX [0,1,2,3] rfl rfl rfl (by decide) rfl (fun K hK=>?_)|refine RG.callX [0,1,2,3] rfl rfl rfl rfl (by decide) (fun K hK=>?_));simp (disch:=(first|omega|(simp only [heapL_next,List.length_cons,List.length_nil,List.size_toArray,geo_len]<;>omega)|fail)) only [go_sem,up_3,up_4];refine⟨_,_,_,_,_,_,hy.x,by first|rfl|simp (disch:=(first|omega|(simp only [heapL_next,List.length_cons,List.length_nil,List.size_toArray,geo_len]<;>omega)|fail)) only [go_sem,up_3,up_4],by ((repeat (refine⟨⟨_,rfl,rfl,?_,(by first|exact .inr rfl|exact .inl rfl),(by first|exact fun h=>h|exact fun _=>rfl|(intro h;cases h))⟩,?_⟩;· first|exact plain_map numRow_plain|(simp [up_0,up_1,up_2,up_3,up_4,up_base,up_slack,adr];done)|(simp [up_prt];done)|exact plain_map (by simp [plainB];done)|simp [up_0,up_1,up_2,up_00,up_base,up_slack,adr]));exact trivial),by first|exact⟨rfl,rfl⟩|rfl,?_⟩;(try simp only [go_sem]);(first|refine hK _ _ _ ?_|refine hK _ _ _ _ ?_);clear hK K)
  simp only [map_row,up_3,Bool.true_eq_false,if_false]
  refine via ?_
  refine Goes.finI rfl (by simp (disch:=(first|omega|(simp only [heapL_next,List.length_cons,List.length_nil,List.size_toArray,geo_len]<;>omega)|fail)) only [go_sem,resA,res1A,Try.results122]<;>rfl) rfl rfl ?_ ?_
  · exact Clo.plain rfl
  · exact turn_d (by simp)
theorem pstore_x (ws:List UInt64) (bs:List UInt8) (wc bc s:Nat) (me:Int) (n:Int) (A:UInt64) (hs:s≤1000000000000):DoesI 125 #[.pointer (some ⟨4,0,none⟩),.int .i64 n,.int .u64 (A.toNat:Int)] (dRows ws bs wc bc s me) (.tuple #[]) [mB ws.length wc bs.length bc,wB (wS 2 n A 0 ws),bB bs,yB (s+1),dB me]:=by
  refine DoesI.mk Try.func125 rfl rfl ?clo ?rows ?_
  case clo=>exact d_clo (zs:=[.int .i64 n,.int .u64 (A.toNat:Int)]) (by simp [plainB])
  case rows=>exact dcl ws bs wc bc s me false false false
  rw [Try.ntmps125];simp only [List.size_toArray,List.length_cons,List.length_nil,List.replicate,List.cons_append,List.nil_append]
  simp only [dRows,List.map_cons,List.map_nil]
  refine via ?_
  ((first|refine At.callX [0,1,2,3,4] rfl rfl rfl (by decide) rfl (fun K hK=>?_)|refine RG.callX [0,1,2,3,4] rfl rfl rfl rfl (by decide) (fun K hK=>?_));simp (disch:=(first|omega|(simp only [heapL_next,List.length_cons,List.length_nil,List.size_toArray,geo_len]<;>omega)|fail)) only [go_sem,up_3,up_4];refine⟨_,_,_,_,_,_,way_x ws bs wc bc s me,by first|rfl|simp (disch:=(first|omega|(simp only [heapL_next,List.length_cons,List.length_nil,List.size_toArray,geo_len]<;>omega)|fail)) only [go_sem,up_3,up_4],by ((repeat (refine⟨⟨_,rfl,rfl,?_,(by first|exact .inr rfl|exact .inl rfl),(by first|exact fun h=>h|exact fun _=>rfl|(intro h;cases h))⟩,?_⟩;· first|exact plain_map numRow_plain|(simp [up_0,up_1,up_2,up_3,up_4,up_base,up_slack,adr];done)|(simp [up_prt];done)|exact plain_map (by simp [plainB];done)|simp [up_0,up_1,up_2,up_00,up_base,up_slack,adr]));exact trivial),by first|exact⟨rfl,rfl⟩|rfl,?_⟩;(try simp only [go_sem]);(first|refine hK _ _ _ ?_|refine hK _ _ _ _ ?_);clear hK K)
  simp only [map_row,up_3,Bool.true_eq_false,if_false]
  refine via ?_
  have hy:=ydo_x ws bs wc bc s 2 n A 0 (by omega) (by omega) hs
  simp only [yRows,wS_load,z64] at hy
  ((first|refine At.callX [0,1,2,3] rfl rfl rfl (by decide) rfl (fun K hK=>?_)|refine RG.callX [0,1,2,3] rfl rfl rfl rfl (by decide) (fun K hK=>?_));simp (disch:=(first|omega|(simp only [heapL_next,List.length_cons,List.length_nil,List.size_toArray,geo_len]<;>omega)|fail)) only [go_sem,up_3,up_4];refine⟨_,_,_,_,_,_,hy.x,by first|rfl|simp (disch:=(first|omega|(simp only [heapL_next,List.length_cons,List.length_nil,List.size_toArray,geo_len]<;>omega)|fail)) only [go_sem,up_3,up_4],by ((repeat (refine⟨⟨_,rfl,rfl,?_,(by first|exact .inr rfl|exact .inl rfl),(by first|exact fun h=>h|exact fun _=>rfl|(intro h;cases h))⟩,?_⟩;· first|exact plain_map numRow_plain|(simp [up_0,up_1,up_2,up_3,up_4,up_base,up_slack,adr];done)|(simp [up_prt];done)|exact plain_map (by simp [plainB];done)|simp [up_0,up_1,up_2,up_00,up_base,up_slack,adr]));exact trivial),by first|exact⟨rfl,rfl⟩|rfl,?_⟩;(try simp only [go_sem]);(first|refine hK _ _ _ ?_|refine hK _ _ _ _ ?_);clear hK K)
  simp only [map_row,up_3,Bool.true_eq_false,if_false]
  refine via ?_
  refine Goes.finI rfl (by simp (disch:=(first|omega|(simp only [heapL_next,List.length_cons,List.length_nil,List.size_toArray,geo_len]<;>omega)|fail)) only [go_sem,resA,res1A,Try.results125]<;>rfl) rfl rfl ?_ ?_
  · exact Clo.plain (by simp [plainB])
  · exact turn_d (by simp)
theorem pcas_x (ws:List UInt64) (bs:List UInt8) (wc bc s:Nat) (me:Int) (n:Int) (A B:UInt64) (hs:s≤1000000000000):DoesI 119 #[.pointer (some ⟨4,0,none⟩),.int .i64 n,.int .u64 (A.toNat:Int),.int .u64 (B.toNat:Int)] (dRows ws bs wc bc s me) (.bool (wT 3 n A ws==1)) [mB ws.length wc bs.length bc,wB (wS 3 n A B ws),bB bs,yB (s+1),dB me]:=by
  refine DoesI.mk Try.func119 rfl rfl ?clo ?rows ?_
  case clo=>exact d_clo (zs:=[.int .i64 n,.int .u64 (A.toNat:Int),.int .u64 (B.toNat:Int)]) (by simp [plainB])
  case rows=>exact dcl ws bs wc bc s me false false false
  rw [Try.ntmps119];simp only [List.size_toArray,List.length_cons,List.length_nil,List.replicate,List.cons_append,List.nil_append]
  simp only [dRows,List.map_cons,List.map_nil]
  have he:(((wT 3 n A ws).toNat:Int)==1)=(wT 3 n A ws==1):=eq_one _
  refine viaF he ?_
  ((first|refine At.callX [0,1,2,3,4] rfl rfl rfl (by decide) rfl (fun K hK=>?_)|refine RG.callX [0,1,2,3,4] rfl rfl rfl rfl (by decide) (fun K hK=>?_));simp (disch:=(first|omega|(simp only [heapL_next,List.length_cons,List.length_nil,List.size_toArray,geo_len]<;>omega)|fail)) only [go_sem,up_3,up_4];refine⟨_,_,_,_,_,_,way_x ws bs wc bc s me,by first|rfl|simp (disch:=(first|omega|(simp only [heapL_next,List.length_cons,List.length_nil,List.size_toArray,geo_len]<;>omega)|fail)) only [go_sem,up_3,up_4],by ((repeat (refine⟨⟨_,rfl,rfl,?_,(by first|exact .inr rfl|exact .inl rfl),(by first|exact fun h=>h|exact fun _=>rfl|(intro h;cases h))⟩,?_⟩;· first|exact plain_map numRow_plain|(simp [up_0,up_1,up_2,up_3,up_4,up_base,up_slack,adr];done)|(simp [up_prt];done)|exact plain_map (by simp [plainB];done)|simp [up_0,up_1,up_2,up_00,up_base,up_slack,adr]));exact trivial),by first|exact⟨rfl,rfl⟩|rfl,?_⟩;(try simp only [go_sem]);(first|refine hK _ _ _ ?_|refine hK _ _ _ _ ?_);clear hK K)
  simp only [map_row,up_3,Bool.true_eq_false,if_false]
  refine viaF he ?_
  have hy:=ydo_x ws bs wc bc s 3 n A B (by omega) (by omega) hs
  simp only [yRows,wS_load,z64] at hy
  ((first|refine At.callX [0,1,2,3] rfl rfl rfl (by decide) rfl (fun K hK=>?_)|refine RG.callX [0,1,2,3] rfl rfl rfl rfl (by decide) (fun K hK=>?_));simp (disch:=(first|omega|(simp only [heapL_next,List.length_cons,List.length_nil,List.size_toArray,geo_len]<;>omega)|fail)) only [go_sem,up_3,up_4];refine⟨_,_,_,_,_,_,hy.x,by first|rfl|simp (disch:=(first|omega|(simp only [heapL_next,List.length_cons,List.length_nil,List.size_toArray,geo_len]<;>omega)|fail)) only [go_sem,up_3,up_4],by ((repeat (refine⟨⟨_,rfl,rfl,?_,(by first|exact .inr rfl|exact .inl rfl),(by first|exact fun h=>h|exact fun _=>rfl|(intro h;cases h))⟩,?_⟩;· first|exact plain_map numRow_plain|(simp [up_0,up_1,up_2,up_3,up_4,up_base,up_slack,adr];done)|(simp [up_prt];done)|exact plain_map (by simp [plainB];done)|simp [up_0,up_1,up_2,up_00,up_base,up_slack,adr]));exact trivial),by first|exact⟨rfl,rfl⟩|rfl,?_⟩;(try simp only [go_sem]);(first|refine hK _ _ _ ?_|refine hK _ _ _ _ ?_);clear hK K)
  simp only [map_row,up_3,Bool.true_eq_false,if_false]
  refine viaF he ?_
  refine Goes.finI rfl (by simp (disch:=(first|omega|(simp only [heapL_next,List.length_cons,List.length_nil,List.size_toArray,geo_len]<;>omega)|fail)) only [go_sem,resA,res1A,Try.results119]<;>rfl) rfl rfl ?_ ?_
  · exact Clo.plain rfl
  · exact turn_d (by simp)
theorem padd_x (ws:List UInt64) (bs:List UInt8) (wc bc s:Nat) (me:Int) (n:Int) (A:UInt64) (hs:s≤1000000000000):DoesI 118 #[.pointer (some ⟨4,0,none⟩),.int .i64 n,.int .u64 (A.toNat:Int)] (dRows ws bs wc bc s me) (.int .u64 ((wT 4 n A ws).toNat:Int)) [mB ws.length wc bs.length bc,wB (wS 4 n A 0 ws),bB bs,yB (s+1),dB me]:=by
  refine DoesI.mk Try.func118 rfl rfl ?clo ?rows ?_
  case clo=>exact d_clo (zs:=[.int .i64 n,.int .u64 (A.toNat:Int)]) (by simp [plainB])
  case rows=>exact dcl ws bs wc bc s me false false false
  rw [Try.ntmps118];simp only [List.size_toArray,List.length_cons,List.length_nil,List.replicate,List.cons_append,List.nil_append]
  simp only [dRows,List.map_cons,List.map_nil]
  refine via ?_
  ((first|refine At.callX [0,1,2,3,4] rfl rfl rfl (by decide) rfl (fun K hK=>?_)|refine RG.callX [0,1,2,3,4] rfl rfl rfl rfl (by decide) (fun K hK=>?_));simp (disch:=(first|omega|(simp only [heapL_next,List.length_cons,List.length_nil,List.size_toArray,geo_len]<;>omega)|fail)) only [go_sem,up_3,up_4];refine⟨_,_,_,_,_,_,way_x ws bs wc bc s me,by first|rfl|simp (disch:=(first|omega|(simp only [heapL_next,List.length_cons,List.length_nil,List.size_toArray,geo_len]<;>omega)|fail)) only [go_sem,up_3,up_4],by ((repeat (refine⟨⟨_,rfl,rfl,?_,(by first|exact .inr rfl|exact .inl rfl),(by first|exact fun h=>h|exact fun _=>rfl|(intro h;cases h))⟩,?_⟩;· first|exact plain_map numRow_plain|(simp [up_0,up_1,up_2,up_3,up_4,up_base,up_slack,adr];done)|(simp [up_prt];done)|exact plain_map (by simp [plainB];done)|simp [up_0,up_1,up_2,up_00,up_base,up_slack,adr]));exact trivial),by first|exact⟨rfl,rfl⟩|rfl,?_⟩;(try simp only [go_sem]);(first|refine hK _ _ _ ?_|refine hK _ _ _ _ ?_);clear hK K)
  simp only [map_row,up_3,Bool.true_eq_false,if_false]
  refine via ?_
  have hy:=ydo_x ws bs wc bc s 4 n A 0 (by omega) (by omega) hs
  simp only [yRows,wS_load,z64] at hy
  ((first|refine At.callX [0,1,2,3] rfl rfl rfl (by decide) rfl (fun K hK=>?_)|refine RG.callX [0,1,2,3] rfl rfl rfl rfl (by decide) (fun K hK=>?_));simp (disch:=(first|omega|(simp only [heapL_next,List.length_cons,List.length_nil,List.size_toArray,geo_len]<;>omega)|fail)) only [go_sem,up_3,up_4];refine⟨_,_,_,_,_,_,hy.x,by first|rfl|simp (disch:=(first|omega|(simp only [heapL_next,List.length_cons,List.length_nil,List.size_toArray,geo_len]<;>omega)|fail)) only [go_sem,up_3,up_4],by ((repeat (refine⟨⟨_,rfl,rfl,?_,(by first|exact .inr rfl|exact .inl rfl),(by first|exact fun h=>h|exact fun _=>rfl|(intro h;cases h))⟩,?_⟩;· first|exact plain_map numRow_plain|(simp [up_0,up_1,up_2,up_3,up_4,up_base,up_slack,adr];done)|(simp [up_prt];done)|exact plain_map (by simp [plainB];done)|simp [up_0,up_1,up_2,up_00,up_base,up_slack,adr]));exact trivial),by first|exact⟨rfl,rfl⟩|rfl,?_⟩;(try simp only [go_sem]);(first|refine hK _ _ _ ?_|refine hK _ _ _ _ ?_);clear hK K)
  simp only [map_row,up_3,Bool.true_eq_false,if_false]
  refine via ?_
  refine Goes.finI rfl (by simp (disch:=(first|omega|(simp only [heapL_next,List.length_cons,List.length_nil,List.size_toArray,geo_len]<;>omega)|fail)) only [go_sem,resA,res1A,Try.results118]<;>rfl) rfl rfl ?_ ?_
  · exact Clo.plain rfl
  · exact turn_d (by simp)
theorem pget_x (ws:List UInt64) (bs:List UInt8) (wc bc s:Nat) (me:Int) (n:Int) (hs:s≤1000000000000):DoesI 121 #[.pointer (some ⟨4,0,none⟩),.int .i64 n] (dRows ws bs wc bc s me) (.int .u8 ((bT n bs).toNat:Int)) [mB ws.length wc bs.length bc,wB ws,bB bs,yB (s+1),dB me]:=by
  refine DoesI.mk Try.func121 rfl rfl ?clo ?rows ?_
  case clo=>exact d_clo (zs:=[.int .i64 n]) (by simp [plainB])
  case rows=>exact dcl ws bs wc bc s me false false false
  rw [Try.ntmps121];simp only [List.size_toArray,List.length_cons,List.length_nil,List.replicate,List.cons_append,List.nil_append]
  simp only [dRows,List.map_cons,List.map_nil]
  have he:=u8_of_u8 (bT n bs)
  refine viaF he ?_
  ((first|refine At.callX [0,1,2,3,4] rfl rfl rfl (by decide) rfl (fun K hK=>?_)|refine RG.callX [0,1,2,3,4] rfl rfl rfl rfl (by decide) (fun K hK=>?_));simp (disch:=(first|omega|(simp only [heapL_next,List.length_cons,List.length_nil,List.size_toArray,geo_len]<;>omega)|fail)) only [go_sem,up_3,up_4];refine⟨_,_,_,_,_,_,way_x ws bs wc bc s me,by first|rfl|simp (disch:=(first|omega|(simp only [heapL_next,List.length_cons,List.length_nil,List.size_toArray,geo_len]<;>omega)|fail)) only [go_sem,up_3,up_4],by ((repeat (refine⟨⟨_,rfl,rfl,?_,(by first|exact .inr rfl|exact .inl rfl),(by first|exact fun h=>h|exact fun _=>rfl|(intro h;cases h))⟩,?_⟩;· first|exact plain_map numRow_plain|(simp [up_0,up_1,up_2,up_3,up_4,up_base,up_slack,adr];done)|(simp [up_prt];done)|exact plain_map (by simp [plainB];done)|simp [up_0,up_1,up_2,up_00,up_base,up_slack,adr]));exact trivial),by first|exact⟨rfl,rfl⟩|rfl,?_⟩;(try simp only [go_sem]);(first|refine hK _ _ _ ?_|refine hK _ _ _ _ ?_);clear hK K)
  simp only [map_row,up_3,Bool.true_eq_false,if_false]
  refine viaF he ?_
  have hy:=yget_x ws bs wc bc s n 0 0 hs
  simp only [yRows,wS_load,z64] at hy
  ((first|refine At.callX [0,1,2,3] rfl rfl rfl (by decide) rfl (fun K hK=>?_)|refine RG.callX [0,1,2,3] rfl rfl rfl rfl (by decide) (fun K hK=>?_));simp (disch:=(first|omega|(simp only [heapL_next,List.length_cons,List.length_nil,List.size_toArray,geo_len]<;>omega)|fail)) only [go_sem,up_3,up_4];refine⟨_,_,_,_,_,_,hy.x,by first|rfl|simp (disch:=(first|omega|(simp only [heapL_next,List.length_cons,List.length_nil,List.size_toArray,geo_len]<;>omega)|fail)) only [go_sem,up_3,up_4],by ((repeat (refine⟨⟨_,rfl,rfl,?_,(by first|exact .inr rfl|exact .inl rfl),(by first|exact fun h=>h|exact fun _=>rfl|(intro h;cases h))⟩,?_⟩;· first|exact plain_map numRow_plain|(simp [up_0,up_1,up_2,up_3,up_4,up_base,up_slack,adr];done)|(simp [up_prt];done)|exact plain_map (by simp [plainB];done)|simp [up_0,up_1,up_2,up_00,up_base,up_slack,adr]));exact trivial),by first|exact⟨rfl,rfl⟩|rfl,?_⟩;(try simp only [go_sem]);(first|refine hK _ _ _ ?_|refine hK _ _ _ _ ?_);clear hK K)
  simp only [map_row,up_3,Bool.true_eq_false,if_false]
  refine viaF he ?_
  refine Goes.finI rfl (by simp (disch:=(first|omega|(simp only [heapL_next,List.length_cons,List.length_nil,List.size_toArray,geo_len]<;>omega)|fail)) only [go_sem,resA,res1A,Try.results121]<;>rfl) rfl rfl ?_ ?_
  · exact Clo.plain rfl
  · exact turn_d (by simp)
theorem pput_x (ws:List UInt64) (bs:List UInt8) (wc bc s:Nat) (me:Int) (n:Int) (b:UInt8) (hs:s≤1000000000000):DoesI 123 #[.pointer (some ⟨4,0,none⟩),.int .i64 n,.int .u8 (b.toNat:Int)] (dRows ws bs wc bc s me) (.tuple #[]) [mB ws.length wc bs.length bc,wB ws,bB (bS n b bs),yB (s+1),dB me]:=by
  refine DoesI.mk Try.func123 rfl rfl ?clo ?rows ?_
  case clo=>exact d_clo (zs:=[.int .i64 n,.int .u8 (b.toNat:Int)]) (by simp [plainB])
  case rows=>exact dcl ws bs wc bc s me false false false
  rw [Try.ntmps123];simp only [List.size_toArray,List.length_cons,List.length_nil,List.replicate,List.cons_append,List.nil_append]
  simp only [dRows,List.map_cons,List.map_nil]
  have he:=u64_of_b b
  refine viaF he ?_
  ((first|refine At.callX [0,1,2,3,4] rfl rfl rfl (by decide) rfl (fun K hK=>?_)|refine RG.callX [0,1,2,3,4] rfl rfl rfl rfl (by decide) (fun K hK=>?_));simp (disch:=(first|omega|(simp only [heapL_next,List.length_cons,List.length_nil,List.size_toArray,geo_len]<;>omega)|fail)) only [go_sem,up_3,up_4];refine⟨_,_,_,_,_,_,way_x ws bs wc bc s me,by first|rfl|simp (disch:=(first|omega|(simp only [heapL_next,List.length_cons,List.length_nil,List.size_toArray,geo_len]<;>omega)|fail)) only [go_sem,up_3,up_4],by ((repeat (refine⟨⟨_,rfl,rfl,?_,(by first|exact .inr rfl|exact .inl rfl),(by first|exact fun h=>h|exact fun _=>rfl|(intro h;cases h))⟩,?_⟩;· first|exact plain_map numRow_plain|(simp [up_0,up_1,up_2,up_3,up_4,up_base,up_slack,adr];done)|(simp [up_prt];done)|exact plain_map (by simp [plainB];done)|simp [up_0,up_1,up_2,up_00,up_base,up_slack,adr]));exact trivial),by first|exact⟨rfl,rfl⟩|rfl,?_⟩;(try simp only [go_sem]);(first|refine hK _ _ _ ?_|refine hK _ _ _ _ ?_);clear hK K)
  simp only [map_row,up_3,Bool.true_eq_false,if_false]
  refine viaF he ?_
  have hy:=yput_x ws bs wc bc s n b.toUInt64 0 hs
  rw [show (b.toUInt64).toUInt8=b by simp] at hy
  simp only [yRows,wS_load,z64] at hy
  ((first|refine At.callX [0,1,2,3] rfl rfl rfl (by decide) rfl (fun K hK=>?_)|refine RG.callX [0,1,2,3] rfl rfl rfl rfl (by decide) (fun K hK=>?_));simp (disch:=(first|omega|(simp only [heapL_next,List.length_cons,List.length_nil,List.size_toArray,geo_len]<;>omega)|fail)) only [go_sem,up_3,up_4];refine⟨_,_,_,_,_,_,hy.x,by first|rfl|simp (disch:=(first|omega|(simp only [heapL_next,List.length_cons,List.length_nil,List.size_toArray,geo_len]<;>omega)|fail)) only [go_sem,up_3,up_4],by ((repeat (refine⟨⟨_,rfl,rfl,?_,(by first|exact .inr rfl|exact .inl rfl),(by first|exact fun h=>h|exact fun _=>rfl|(intro h;cases h))⟩,?_⟩;· first|exact plain_map numRow_plain|(simp [up_0,up_1,up_2,up_3,up_4,up_base,up_slack,adr];done)|(simp [up_prt];done)|exact plain_map (by simp [plainB];done)|simp [up_0,up_1,up_2,up_00,up_base,up_slack,adr]));exact trivial),by first|exact⟨rfl,rfl⟩|rfl,?_⟩;(try simp only [go_sem]);(first|refine hK _ _ _ ?_|refine hK _ _ _ _ ?_);clear hK K)
  simp only [map_row,up_3,Bool.true_eq_false,if_false]
  refine viaF he ?_
  refine Goes.finI rfl (by simp (disch:=(first|omega|(simp only [heapL_next,List.length_cons,List.length_nil,List.size_toArray,geo_len]<;>omega)|fail)) only [go_sem,resA,res1A,Try.results123]<;>rfl) rfl rfl ?_ ?_
  · exact Clo.plain (by simp [plainB])
  · exact turn_d (by simp)
theorem pself_x (ws:List UInt64) (bs:List UInt8) (wc bc s:Nat) (me:Int):DoesI 124 #[.pointer (some ⟨4,0,none⟩)] (dRo ws bs wc bc s me) (.int .i64 me) (dRo ws bs wc bc s me):=by
  refine DoesI.mk Try.func124 rfl rfl ?clo ?rows ?_
  case clo=>exact d_clo (zs:=[]) (by simp)
  case rows=>exact dcl ws bs wc bc s me true true true
  rw [Try.ntmps124];simp only [List.size_toArray,List.length_cons,List.length_nil,List.replicate,List.cons_append,List.nil_append]
  simp only [dRo,List.map_cons,List.map_nil]
  refine via ?_
  refine Goes.finI rfl (by simp (disch:=(first|omega|(simp only [heapL_next,List.length_cons,List.length_nil,List.size_toArray,geo_len]<;>omega)|fail)) only [go_sem,resA,res1A,Try.results124]<;>rfl) rfl rfl ?_ ?_
  · exact Clo.plain rfl
  · exact turn_ro rfl
theorem psteps_x (ws:List UInt64) (bs:List UInt8) (wc bc s:Nat) (me:Int):DoesI 44 #[.pointer (some ⟨4,0,none⟩)] (dRo ws bs wc bc s me) (.int .i64 (s:Int)) (dRo ws bs wc bc s me):=by
  refine DoesI.mk Try.func44 rfl rfl ?clo ?rows ?_
  case clo=>exact d_clo (zs:=[]) (by simp)
  case rows=>exact dcl ws bs wc bc s me true true true
  rw [Try.ntmps44];simp only [List.size_toArray,List.length_cons,List.length_nil,List.replicate,List.cons_append,List.nil_append]
  simp only [dRo,List.map_cons,List.map_nil]
  refine via ?_
  ((first|refine At.callX [0,1,2,3,4] rfl rfl rfl (by decide) rfl (fun K hK=>?_)|refine RG.callX [0,1,2,3,4] rfl rfl rfl rfl (by decide) (fun K hK=>?_));simp (disch:=(first|omega|(simp only [heapL_next,List.length_cons,List.length_nil,List.size_toArray,geo_len]<;>omega)|fail)) only [go_sem,up_3,up_4];refine⟨_,_,_,_,_,_,way_x ws bs wc bc s me,by first|rfl|simp (disch:=(first|omega|(simp only [heapL_next,List.length_cons,List.length_nil,List.size_toArray,geo_len]<;>omega)|fail)) only [go_sem,up_3,up_4],by ((repeat (refine⟨⟨_,rfl,rfl,?_,(by first|exact .inr rfl|exact .inl rfl),(by first|exact fun h=>h|exact fun _=>rfl|(intro h;cases h))⟩,?_⟩;· first|exact plain_map numRow_plain|(simp [up_0,up_1,up_2,up_3,up_4,up_base,up_slack,adr];done)|(simp [up_prt];done)|exact plain_map (by simp [plainB];done)|simp [up_0,up_1,up_2,up_00,up_base,up_slack,adr]));exact trivial),by first|exact⟨rfl,rfl⟩|rfl,?_⟩;(try simp only [go_sem]);(first|refine hK _ _ _ ?_|refine hK _ _ _ _ ?_);clear hK K)
  simp only [map_row,up_3,Bool.true_eq_false,if_false]
  refine via ?_
  refine Goes.finI rfl (by simp (disch:=(first|omega|(simp only [heapL_next,List.length_cons,List.length_nil,List.size_toArray,geo_len]<;>omega)|fail)) only [go_sem,resA,res1A,Try.results44]<;>rfl) rfl rfl ?_ ?_
  · exact Clo.plain rfl
  · exact turn_ro rfl
def ReadsI (f:FuncId) (args:Array Value) (l:List (Option Blk)) (v:Value):Prop:=∃ g c,Try.prog.funcs[f]?=some g∧g.body=some c∧Goes BT g (fun x=>∃ h1,x=.done v h1 ()) (.run (enterL g c args).1 (enterL g c args).2 (heapL l) ())
theorem ReadsI.mk {f:FuncId} {g:Func} {c:Code} {args:Array Value} {l:List (Option Blk)} {v:Value} (hf:Try.prog.funcs[f]?=some g) (hb:g.body=some c) (hrun:Goes BT g (fun x=>∃ h1,x=.done v h1 ()) (.run [.code c] (args.toList++List.replicate (g.ntmps - args.size) undef) (heapL l) ())):ReadsI f args l v:=⟨g,c,hf,hb,hrun⟩
abbrev wpR (self:Int) (s:Nat):Blk:=⟨[.int .i64 self,.int .i64 (wr s)],108,true,none⟩
abbrev thB (self:Int) (W:Value) (c:Option Nat) (Pd:Value) (busy:Bool):Blk:=⟨[.int .i64 self,W,.chan c,Pd,.bool busy],103,true,none⟩
abbrev aR (c:Nat) (n:Int) (A B:UInt64):Blk:=⟨[.int .u8 (c:Int),.int .i64 n,.int .u64 (A.toNat:Int),.int .u64 (B.toNat:Int)],36,true,none⟩
theorem wself_r (self:Int) (s:Nat):ReadsI 133 #[.pointer (some ⟨0,0,none⟩)] [some (wpR self s)] (.int .i64 self):=by
  refine ReadsI.mk Try.func133 rfl ?_
  rw [Try.ntmps133];simp only [List.size_toArray,List.length_cons,List.length_nil,List.replicate,List.cons_append,List.nil_append]
  refine via ?_
  refine Goes.fin rfl (by simp (disch:=(first|omega|(simp only [heapL_next,List.length_cons,List.length_nil,List.size_toArray,geo_len]<;>omega)|fail)) only [go_sem,resA,res1A,Try.results133]<;>rfl) ?_
  rfl
theorem wsteps_r (self:Int) (s:Nat):ReadsI 134 #[.pointer (some ⟨0,0,none⟩)] [some (wpR self s)] (.int .i64 (wr s)):=by
  refine ReadsI.mk Try.func134 rfl ?_
  rw [Try.ntmps134];simp only [List.size_toArray,List.length_cons,List.length_nil,List.replicate,List.cons_append,List.nil_append]
  refine via ?_
  refine Goes.fin rfl (by simp (disch:=(first|omega|(simp only [heapL_next,List.length_cons,List.length_nil,List.size_toArray,geo_len]<;>omega)|fail)) only [go_sem,resA,res1A,Try.results134]<;>rfl) ?_
  rfl
theorem busy_r (self:Int) (W:Value) (c:Option Nat) (Pd:Value) (busy:Bool):ReadsI 20 #[.pointer (some ⟨0,0,none⟩)] [some (thB self W c Pd busy),none,none] (.bool busy):=by
  refine ReadsI.mk Try.func20 rfl ?_
  rw [Try.ntmps20];simp only [List.size_toArray,List.length_cons,List.length_nil,List.replicate,List.cons_append,List.nil_append]
  refine via ?_
  refine Goes.fin rfl (by simp (disch:=(first|omega|(simp only [heapL_next,List.length_cons,List.length_nil,List.size_toArray,geo_len]<;>omega)|fail)) only [go_sem,resA,res1A,Try.results20]<;>rfl) ?_
  rfl
theorem idle_r (self:Int) (W:Value) (c:Option Nat) (busy:Bool):ReadsI 29 #[.pointer (some ⟨0,0,none⟩)] [some (thB self W c (.pointer none) busy),none,none] (.tuple #[accZ,.bool false]):=by
  refine ReadsI.mk Try.func29 rfl ?_
  rw [Try.ntmps29];simp only [List.size_toArray,List.length_cons,List.length_nil,List.replicate,List.cons_append,List.nil_append]
  refine via ?_
  refine Goes.fin rfl (by simp (disch:=(first|omega|(simp only [heapL_next,List.length_cons,List.length_nil,List.size_toArray,geo_len]<;>omega)|fail)) only [go_sem,resA,res1A,Try.results29]<;>rfl) ?_
  rfl
theorem pend_r (self:Int) (W:Value) (c:Option Nat) (busy:Bool) (k:Nat) (n:Int) (A B:UInt64):ReadsI 29 #[.pointer (some ⟨0,0,none⟩)] [some (thB self W c (.pointer (some ⟨2,0,none⟩)) busy),none,some (aR k n A B)] (.tuple #[accV k n A B,.bool true]):=by
  refine ReadsI.mk Try.func29 rfl ?_
  rw [Try.ntmps29];simp only [List.size_toArray,List.length_cons,List.length_nil,List.replicate,List.cons_append,List.nil_append]
  refine via ?_
  refine Goes.fin rfl (by simp (disch:=(first|omega|(simp only [heapL_next,List.length_cons,List.length_nil,List.size_toArray,geo_len]<;>omega)|fail)) only [go_sem,resA,res1A,Try.results29]<;>rfl) ?_
  rfl
theorem tsteps_r (self wself:Int) (c:Option Nat) (Pd:Value) (busy:Bool) (s:Nat):ReadsI 27 #[.pointer (some ⟨0,0,none⟩)] [some (thB self (.pointer (some ⟨1,0,none⟩)) c Pd busy),some (wpR wself s),none] (.int .i64 (wr s)):=by
  refine ReadsI.mk Try.func27 rfl ?_
  rw [Try.ntmps27];simp only [List.size_toArray,List.length_cons,List.length_nil,List.replicate,List.cons_append,List.nil_append]
  refine via ?_
  refine Goes.fin rfl (by simp (disch:=(first|omega|(simp only [heapL_next,List.length_cons,List.length_nil,List.size_toArray,geo_len]<;>omega)|fail)) only [go_sem,resA,res1A,Try.results27]<;>rfl) ?_
  rfl
def MakesI (f:FuncId) (args:Array Value) (l:List (Option Blk)) (v:Value) (l1:List (Option Blk)):Prop:=∃ g c,Try.prog.funcs[f]?=some g∧g.body=some c∧Goes BT g (fun x=>x=.done v (heapL l1) ()) (.run (enterL g c args).1 (enterL g c args).2 (heapL l) ())
theorem MakesI.mk {f:FuncId} {g:Func} {c:Code} {args:Array Value} {l l1:List (Option Blk)} {v:Value} (hf:Try.prog.funcs[f]?=some g) (hb:g.body=some c) (hrun:Goes BT g (fun x=>x=.done v (heapL l1) ()) (.run [.code c] (args.toList++List.replicate (g.ntmps - args.size) undef) (heapL l) ())):MakesI f args l v l1:=⟨g,c,hf,hb,hrun⟩
theorem Goes.finM {fn:Func} {todo:List Item} {tmps:List Value} {h:AHeap} {v:Value} (ht:retB todo=true) (hv:resA Try.prog fn tmps h=some v):Goes BT fn (fun x=>x=.done v h ()) (.run todo tmps h ()):=.ret ht hv (.here rfl)
theorem pnew_m (me:Int):MakesI 40 #[.pointer (some ⟨0,0,none⟩),.int .i64 me] [none] (.pointer (some ⟨2,0,none⟩)) [none,some ⟨[.pointer (some ⟨0,0,none⟩),.int .i64 0],126,false,some 0⟩,some ⟨[.pointer (some ⟨1,0,none⟩),.int .i64 me,.pointer none],128,false,some 0⟩]:=by
  refine MakesI.mk Try.func40 rfl ?_
  rw [Try.ntmps40];simp only [List.size_toArray,List.length_cons,List.length_nil,List.replicate,List.cons_append,List.nil_append]
  refine via ?_
  exact Goes.finM rfl (by simp (disch:=(first|omega|(simp only [heapL_next,List.length_cons,List.length_nil,List.size_toArray,geo_len]<;>omega)|fail)) only [go_sem,resA,res1A,Try.results40]<;>rfl)
theorem mnew_m (a b:Nat) (ha:a≤2097152) (hb:b≤1048576):MakesI 76 #[.int .i64 (a:Int),.int .i64 (b:Int)] [] (.tuple #[.pointer (some ⟨2,0,none⟩),.int .i64 0]) [some ⟨zerosL [.int .u64 0] a,26,false,some 0⟩,some ⟨zerosL [.int .u8 0] b,5,false,some 0⟩,some ⟨[.slice (some ⟨0,0,none⟩) a a,.slice (some ⟨1,0,none⟩) b b],123,false,some 0⟩]:=by
  refine MakesI.mk Try.func76 rfl ?_
  rw [Try.ntmps76];simp only [List.size_toArray,List.length_cons,List.length_nil,List.replicate,List.cons_append,List.nil_append]
  have h1:decide ((a:Int)<0)=false:=decide_eq_false (by omega)
  have h2:decide ((b:Int)<0)=false:=decide_eq_false (by omega)
  have h3:decide ((a:Int) > 2097152)=false:=decide_eq_false (by omega)
  have h4:decide ((b:Int) > 1048576)=false:=decide_eq_false (by omega)
  refine viaF (And.intro h1 (And.intro h2 (And.intro h3 h4))) ?_
  exact Goes.finM rfl (by simp (disch:=(first|omega|(simp only [heapL_next,List.length_cons,List.length_nil,List.size_toArray,geo_len]<;>omega)|fail)) only [go_sem,resA,res1A,Try.results76]<;>rfl)
theorem goes_calls {f:FuncId} {g:Func} {c:Code} {zs:Array Value} {l:List (Option Blk)} {A:Conf Unit→Prop} {Q:Value→AHeap→Prop} {Ft:Emb} {w:World} (hf:Try.prog.funcs[f]?=some g) (hb:g.body=some c) (G:Goes BT g A (.run (enterL g c zs).1 (enterL g c zs).2 (heapL l) ())) (hA:∀ x,A x→∃ v h1,x=.done v h1 ()∧Q v h1)
    (hH:Holds Ft (heapL l) w) (hst:∀ u∈zs,Stab (Kn l.length 0) Ft u) (hc:∀ n b,(heapL l).get n=some b→∀ u∈b.cells,Stab (Kn l.length 0) Ft u) (hl:l.length≤VB) :
    TCalls Try.prog f (zs.map (ren Ft)) w fun e w'=>∃ v h1 Ft',e=.returned (ren Ft' v)∧Q v h1∧Holds Ft' h1 w'∧Same (Kn l.length 0) Ft Ft'∧Kept w (fun b=>∃ n bb,(heapL l).get n=some bb∧bb.ro=false∧Ft.blk n=b) w'∧∀ n b,h1.get n=some b→b.ro=false→Ft'.blk n<w.heap.size→∃ n' bb,(heapL l).get n'=some bb∧bb.ro=false∧Ft.blk n'=Ft'.blk n:=by
  intro cs
  let b:Frame:={ (default:Frame) with fn:=f,kind:=.normal }
  have henter:Frame.enter Try.prog f (zs.map (ren Ft)) .normal=b.at (actF Ft (enterL g c zs).2) (enterL g c zs).1:=by
    simp [Frame.enter,Frame.at,hf,hb,b,actF,enterL,ren_undef]
  have hn:(heapL l).next=l.length:=heapL_next l
  have hlow:∀ n b,(heapL l).get n=some b→n<l.length:=fun n b hb=>by
    have:=heapL_low l n b hb
    rw [hn] at this;exact this
  have hI:InvC BT Ft w (fun b=>∃ n bb,(heapL l).get n=some bb∧bb.ro=false∧Ft.blk n=b) (.run (enterL g c zs).1 (enterL g c zs).2 (heapL l) ()) w:=by
    refine⟨⟨hH,trivial,fun u hu=>?_,fun n bb hb u hu=>?_,fun n bb hb=>⟨.inl ?_,?_⟩,fun n h1 h2=>?_,fun n hn'=>?_,Kept.refl _ _,fun n bb h1 h2 _=>⟨n,bb,h1,h2,rfl⟩,fun _ h=>h.elim,fun _ _ _ z=>z⟩,by show (heapL l).next≤VB;rw [hn];exact hl⟩
    · have hu:u∈(enterL g c zs).2:=hu
      simp only [enterL,List.mem_append] at hu
      show Stab (Kn (heapL l).next 0) Ft u
      rw [hn]
      rcases hu with hu|hu
      · exact hst u (by simpa using hu)
      · rw [List.eq_of_mem_replicate hu];exact Stab.undef
    · show Stab (Kn (heapL l).next 0) Ft u
      rw [hn];exact hc n bb hb u hu
    · show n<(heapL l).next
      rw [hn];exact hlow n bb hb
    · have:=hlow n bb hb;omega
    · have h2:n<VB+0:=h2
      omega
    · rcases hn' with hn'|⟨_,hn'⟩
      · have hn':n<(heapL l).next:=hn'
        show n<VB+0
        omega
      · exact hn'
  obtain⟨c',F',w',m',hAc,hst',hS,hI',hs,_,_⟩:=G.simul b cs Ft w w _ _ hf rfl rfl hI
  obtain⟨v,h1,rfl,hQ⟩:=hA c' hAc
  obtain⟨fr,rfl,hfn,hleave⟩:=hS
  refine⟨.returned (ren F' v),w',fr,⟨v,h1,F',rfl,hQ,hI'.1.holds,?_,hI'.1.kept,hI'.1.own⟩,by rw [henter];exact hst',hfn,hleave⟩
  have hs:Same (Kn (heapL l).next 0) Ft F':=hs
  rw [hn] at hs;exact hs
theorem doesI_calls {f:FuncId} {args:Array Value} {l l':List Blk} {v:Value} (D:DoesI f args l v l') {Ft:Emb} {w:World} (hH:Holds Ft (heapL (l.map some)) w) (hl:l.length≤VB) :
    TCalls Try.prog f (args.map (ren Ft)) w fun e w'=>∃ h1 Ft',e=.returned (ren Ft' v)∧TurnP l.length l l' h1∧Holds Ft' h1 w'∧Same (Kn l.length 0) Ft Ft'∧Kept w (fun b=>∃ (n:Nat) (bb:Blk),l[n]?=some bb∧bb.ro=false∧Ft.blk n=b) w':=by
  obtain⟨g,c,h1,a1,a2,a3,a4,a5,a6,a7,a8,G⟩:=D
  have hget:∀ n b,(heapL (l.map some)).get n=some b↔l[n]?=some b:=fun n b=>by
    rw [heapL_get,List.getElem?_map]
    cases l[n]?<;>simp
  have hlen:(l.map some).length=l.length:=List.length_map ..
  refine (goes_calls (Q:=fun v' h'=>v'=v∧h'=h1) a1 a3 G (fun x hx=>⟨v,h1,hx,rfl,rfl⟩) hH (fun u hu=>by rw [hlen];exact (a4 u (by simpa using hu)).stab Ft) (fun n b hb u hu=>by rw [hlen];exact (a5 b (List.mem_of_getElem? ((hget n b).1 hb)) u hu).stab Ft) (by rw [hlen];exact hl)).mono fun e w' ⟨v',h',Ft',e1,⟨e2,e3⟩,e4,e5,e6,_⟩=>?_
  subst e2 e3
  rw [hlen] at e5
  exact⟨h',Ft',e1,a8,e4,e5,⟨e6.os,e6.tape,e6.output,e6.size,fun b h1 h2=>e6.block b h1 fun⟨n,bb,z1,z2,z3⟩=>h2 ⟨n,bb,(hget n bb).1 z1,z2,z3⟩⟩⟩
def embB (bs:List Nat):Emb:=⟨fun n=>bs.getD n 0,fun _=>0,fun _=>0⟩
theorem rows_at {l:List (Option Blk)} {Ft:Emb} {w:World} (hb:∀ n,Ft.base n=0) (h:∀ n b,l[n]?=some (some b)→b.grow=none∧∃ (post:Array Value) (fr:Nat × Nat),w.heap[Ft.blk n]?=some (.cells ((b.cells.map (ren Ft)).toArray++post) b.elem fr)∧(b.ro=false→fr=(0,0)))
    (ha:∀ n m b c,l[n]?=some (some b)→l[m]?=some (some c)→n≠m→b.ro=false→Ft.blk n≠Ft.blk m):Holds Ft (heapL l) w:=by
  have hget:∀ n b,(heapL l).get n=some b→l[n]?=some (some b):=fun n b hb=>by
    rw [heapL_get] at hb
    cases hx:l[n]? with
    | none=>rw [hx] at hb;cases hb
    | some y=>rw [hx] at hb;exact congrArg some hb
  refine⟨fun n b hn=>?_,fun n m b c h1 h2=>ha n m b c (hget n b h1) (hget m c h2)⟩
  obtain⟨h0,post,fr,h1,h2⟩:=h n b (hget n b hn)
  exact⟨#[],post,fr,by simpa using h1,(hb n).symm,h2,(by rw [h0];intro z;cases z),(by rw [h0];intro s z;cases z)⟩
end Go.Proofs.Ytkjnamhgemidkaa
