/-
  What a memory's and a direct port's calls do, by the abstract machine over their rows alone.
  No condition: steps of the program.
-/
import Derived.Test.YtgndgbnhkoppmaaUCo23
set_option maxHeartbeats 40000000
set_option linter.unusedVariables false
set_option linter.unusedSimpArgs false
namespace Go.Proofs.Ytgndgbnhkoppmaa
open Go Go.RowKit
theorem zeO {n:Int} {A B:UInt64} {ws:List UInt64}:wS 1 n A B ws=ws:=by
  unfold wS wAt;split
  . rfl
  . rename_i x h;split at h
    . cases h
    . obtain⟨hi,rfl⟩:=List.getElem?_eq_some_iff.1 h;exact set_same hi
theorem do_x (ws:List UInt64) (bs:List UInt8) (wc bc c:Nat) (n:Int) (A B:UInt64) (h1:1<=c) (h4:c<=4):DoesI 24 #[.pointer (some ⟨0,0,none⟩),accV c n A B] (zaI ws bs wc bc) (.tuple #[.int .u64 ((wT c n A ws).toNat:Int),.bool (wAt ws n).isSome]) (zaI (wS c n A B ws) bs wc bc):=by
  by_cases hn:n<0
  . simp only [wT,wS,zrF hn]
    match c,h1,h4 with
    | 1,_,_=>exact zrb ws bs wc bc n A B hn
    | 2,_,_=>exact zrw ws bs wc bc n A B hn
    | 3,_,_=>exact zqM ws bs wc bc n A B hn
    | 4,_,_=>exact zqQ ws bs wc bc n A B hn
  . by_cases hf:(ws.length:Int)<=n
    . simp only [wT,wS,zqL hf]
      match c,h1,h4 with
      | 1,_,_=>exact zru ws bs wc bc n A B hf
      | 2,_,_=>exact zqV ws bs wc bc n A B hf
      | 3,_,_=>exact zqZ ws bs wc bc n A B hf
      | 4,_,_=>exact zqW ws bs wc bc n A B hf
    . obtain⟨k,rfl⟩:∃ k:Nat,n=k:=⟨n.toNat,by omega⟩
      have hk:k<ws.length:=by omega
      simp only [wT,wS,zsk hk,Int.toNat_natCast]
      match c,h1,h4 with
      | 1,_,_=>exact zsB ws bs wc bc k A B hk
      | 2,_,_=>exact zsb ws bs wc bc k A B hk
      | 3,_,_=>exact zr5 ws bs wc bc k A B hk
      | 4,_,_=>exact zr2 ws bs wc bc k A B hk
theorem zsO (ws:List UInt64) (bs:List UInt8) (wc bc:Nat) (n:Int) (A B:UInt64):DoesI 24 #[.pointer (some ⟨0,0,none⟩),accV 5 n A B] (zaI ws bs wc bc) (.tuple #[.int .u64 ((bT n bs).toNat:Int),.bool (bAt bs n).isSome]) (zaI ws bs wc bc):=by
  by_cases hn:n<0
  . simp only [bT,zou hn];exact zrJ ws bs wc bc n A B hn
  . by_cases hf:(bs.length:Int)<=n
    . simp only [bT,zoo hf];exact zrQ ws bs wc bc n A B hf
    . obtain⟨k,rfl⟩:∃ k:Nat,n=k:=⟨n.toNat,by omega⟩
      have hk:k<bs.length:=by omega
      simp only [bT,zqC hk];exact zsw ws bs wc bc k A B hk
theorem zsG (ws:List UInt64) (bs:List UInt8) (wc bc:Nat) (n:Int) (A B:UInt64):DoesI 24 #[.pointer (some ⟨0,0,none⟩),accV 6 n A B] (zaI ws bs wc bc) (.tuple #[.int .u64 0,.bool (bAt bs n).isSome]) (zaI ws (bS n A.toUInt8 bs) wc bc):=by
  by_cases hn:n<0
  . simp only [bS,zou hn];exact zrh ws bs wc bc n A B hn
  . by_cases hf:(bs.length:Int)<=n
    . simp only [bS,zoo hf];exact zqR ws bs wc bc n A B hf
    . obtain⟨k,rfl⟩:∃ k:Nat,n=k:=⟨n.toNat,by omega⟩
      have hk:k<bs.length:=by omega
      simp only [bS,zqC hk,Int.toNat_natCast];exact zsH ws bs wc bc k A B hk
theorem zsC (ws:List UInt64) (bs:List UInt8) (wc bc c:Nat) (n:Int) (A B:UInt64) (h1:1<=c) (h4:c<=4):DoesI 24 #[.pointer (some ⟨0,0,none⟩),.agg #[.int .u8 (c:Int),.int .i64 n,.int .u64 (A.toNat:Int),.int .u64 (B.toNat:Int)]] (zaI ws bs wc bc) (.tuple #[.int .u64 ((wT c n A ws).toNat:Int),.bool (wAt ws n).isSome]) [mB ws.length wc bs.length bc,wB (wS c n A B ws),bB bs]:=by
  have h:=do_x ws bs wc bc c n A B h1 h4;simp only [zaI,zee] at h;exact h
theorem zoK (ws:List UInt64) (bs:List UInt8) (wc bc:Nat) (n:Int) (A B:UInt64):DoesI 24 #[.pointer (some ⟨0,0,none⟩),.agg #[.int .u8 ((5:Nat):Int),.int .i64 n,.int .u64 (A.toNat:Int),.int .u64 (B.toNat:Int)]] (zaI ws bs wc bc) (.tuple #[.int .u64 ((bT n bs).toNat:Int),.bool (bAt bs n).isSome]) [mB ws.length wc bs.length bc,wB ws,bB bs]:=zsO ws bs wc bc n A B
theorem zmX (ws:List UInt64) (bs:List UInt8) (wc bc:Nat) (n:Int) (A B:UInt64):DoesI 24 #[.pointer (some ⟨0,0,none⟩),.agg #[.int .u8 ((6:Nat):Int),.int .i64 n,.int .u64 (A.toNat:Int),.int .u64 (B.toNat:Int)]] (zaI ws bs wc bc) (.tuple #[.int .u64 0,.bool (bAt bs n).isSome]) [mB ws.length wc bs.length bc,wB ws,bB (bS n A.toUInt8 bs)]:=by
  have h:=zsG ws bs wc bc n A B;simp only [zaI,zgx] at h;exact h
theorem ztA {n:Nat} {u0:Value} (h:0<n) (h0:zac u0=true):∀ u∈(#[.pointer (some ⟨0,0,none⟩),u0]:Array Value).toList,Clo (Kn n 0) u:=fun u hu=>by
  simp only [List.mem_cons,List.not_mem_nil,or_false] at hu;rcases hu with rfl|rfl
  . exact zeF h
  . exact Clo.plain h0
theorem z64:(((0:UInt64).toNat:Nat):Int)=0:=rfl
theorem zaX {E:Emb} {k:IntKind} {ns:List Int}:List.map (ren E) (zdr k ns)=zdr k ns:=(zai zah).symm
abbrev yB (s:Nat):Blk:=⟨[.pointer (some ⟨0,0,none⟩),.int .i64 (s:Int)],97,false,none⟩
abbrev zfd (ws:List UInt64) (bs:List UInt8) (wc bc s:Nat):List Blk:=[mB ws.length wc bs.length bc,wB ws,bB bs,yB s]
theorem zgv (ws:List UInt64) (bs:List UInt8) (wc bc s:Nat):∀ b∈zfd ws bs wc bc s,∀ u∈b.cells,Clo (Kn (zfd ws bs wc bc s).length 0) u:=by
  intro b hb u hu;simp only [List.mem_cons,List.not_mem_nil,or_false] at hb;rcases hb with rfl|rfl|rfl|rfl
  . simp only [List.mem_cons,List.not_mem_nil,or_false] at hu;rcases hu with rfl|rfl
    . exact zji (by simp)
    . exact zji (by simp)
  . exact Clo.plain (zah u hu)
  . exact Clo.plain (zah u hu)
  . simp only [List.mem_cons,List.not_mem_nil,or_false] at hu;rcases hu with rfl|rfl
    . exact zeF (by simp)
    . exact Clo.plain rfl
theorem zsA {n c s:Nat} (h:0<n):∀ u∈(yB s).cells,Clo (Kn n c) u:=fun u hu=>by
  simp only [List.mem_cons,List.not_mem_nil,or_false] at hu;rcases hu with rfl|rfl
  . exact zeF h
  . exact Clo.plain rfl
theorem zob {ws ws':List UInt64} {bs bs':List UInt8} {wn wc bn bc m c s s':Nat} {l:List (Option Blk)} (hm:0<m):∀ (i:Nat) b,[mB wn wc bn bc,wB ws,bB bs,yB s][i]?=some b->b.ro=false->∃ b1,(zar (some (mB wn wc bn bc)::some (wB ws')::some (bB bs')::some (yB s')::l)).get i=some b1/\[mB wn wc bn bc,wB ws',bB bs',yB s'][i]?=some b1/\b1.ro=false/\∀ u∈b1.cells,Clo (Kn m c) u
  | 0,b,hb,hro=>by simp at hb;subst hb;cases hro
  | 1,b,_,_=>⟨wB ws',rfl,rfl,rfl,fun u hu=>Clo.plain (zii ws' u hu)⟩
  | 2,b,_,_=>⟨bB bs',rfl,rfl,rfl,fun u hu=>Clo.plain (zix bs' u hu)⟩
  | 3,b,_,_=>⟨yB s',rfl,rfl,rfl,zsA hm⟩
  | i+4,b,hb,_=>by simp at hb
theorem zoG {c:Nat} {n:Int} {A B:UInt64} {m:Nat} (h:3<m):∀ u∈(#[.pointer (some ⟨3,0,none⟩),.int .u8 (c:Int),.int .i64 n,.int .u64 (A.toNat:Int),.int .u64 (B.toNat:Int)]:Array Value).toList,Clo (Kn m 0) u:=fun u hu=>by
  simp only [List.mem_cons,List.not_mem_nil,or_false] at hu;rcases hu with rfl|rfl|rfl|rfl|rfl
  . exact zeF h
  all_goals exact Clo.plain rfl
theorem zrl {s:Nat} (h:s<=1000000000000):IntKind.i64.wrap ((s:Int)+1)=((s+1:Nat):Int):=by rw [IntKind.wrap_i64];omega
theorem zpj (ws:List UInt64) (bs:List UInt8) (wc bc s c:Nat) (n:Int) (A B:UInt64) (h1:1<=c) (h4:c<=4) (hs:s<=1000000000000):DoesI 72 #[.pointer (some ⟨3,0,none⟩),.int .u8 (c:Int),.int .i64 n,.int .u64 (A.toNat:Int),.int .u64 (B.toNat:Int)] (zfd ws bs wc bc s) (.int .u64 ((wT c n A ws).toNat:Int)) [mB ws.length wc bs.length bc,wB (wS c n A B ws),bB bs,yB (s+1)]:=by
  refine DoesI.mk Try.func72 rfl rfl ?clo ?rows ?_
  case clo=>exact zoG (by simp)
  case rows=>exact zgv ws bs wc bc s
  rw [Try.ntmps72];simp only [List.size_toArray,List.length_cons,List.length_nil,List.replicate,List.cons_append,List.nil_append];simp only [zfd,List.map_cons,List.map_nil];have hs1:=zrl hs;refine viaF hs1 ?_;have hdo:=zsC ws bs wc bc c n A B h1 h4;((first|refine At.callX [0,1,2] rfl rfl rfl (by decide) rfl (fun K hK=>?_)|refine RG.callX [0,1,2] rfl rfl rfl rfl (by decide) (fun K hK=>?_));simp (disch:=(first|omega|(simp only [zaa,List.length_cons,List.length_nil,List.size_toArray,zad]<;>omega)|fail)) only [go_sem];refine⟨_,_,_,_,_,_,hdo.x,by first|rfl|simp (disch:=(first|omega|(simp only [zaa,List.length_cons,List.length_nil,List.size_toArray,zad]<;>omega)|fail)) only [go_sem],by ((repeat (refine⟨⟨_,rfl,rfl,?_,(by first|exact .inr rfl|exact .inl rfl),(by first|exact fun h=>h|exact fun _=>rfl|(intro h;cases h))⟩,?_⟩;· first|exact zai zah|(simp [up_0,up_1,up_2,up_3,up_4,zaq,zam,adr];done)|(simp [zbg];done)|exact zai (by simp [zac];done)|simp [up_0,up_1,up_2,zcc,zaq,zam,adr]));exact trivial),by first|exact⟨rfl,rfl⟩|rfl,?_⟩;(try simp only [go_sem]);(first|refine hK _ _ _ ?_|refine hK _ _ _ _ ?_);clear hK K)
  simp only [zaX,Bool.true_eq_false,if_false];refine via ?_;refine Goes.finI rfl (by simp (disch:=(first|omega|(simp only [zaa,List.length_cons,List.length_nil,List.size_toArray,zad]<;>omega)|fail)) only [go_sem,resA,zaF,Try.results72]<;>rfl) rfl rfl ?_ ?_
  . exact Clo.plain rfl
  . exact zob (by simp)
abbrev yBr (s:Nat):Blk:=⟨[.pointer (some ⟨0,0,none⟩),.int .i64 (s:Int)],97,true,none⟩
abbrev dB (me:Int):Blk:=⟨[.pointer (some ⟨3,0,none⟩),.int .i64 me],99,true,none⟩
abbrev dRo (ws:List UInt64) (bs:List UInt8) (wc bc s:Nat) (me:Int):List Blk:=[mB ws.length wc bs.length bc,wBr ws,bBr bs,yBr s,dB me]
abbrev zfH (ws:List UInt64) (bs:List UInt8) (wc bc s:Nat) (me:Int):List Blk:=[mB ws.length wc bs.length bc,wB ws,bB bs,yB s,dB me]
theorem dcl (ws:List UInt64) (bs:List UInt8) (wc bc s:Nat) (me:Int) (r1 r2 r3:Bool):∀ b∈[mB ws.length wc bs.length bc,⟨wL ws,29,r1,none⟩,⟨bL bs,5,r2,none⟩,⟨[.pointer (some ⟨0,0,none⟩),.int .i64 (s:Int)],97,r3,none⟩,dB me],∀ u∈b.cells,Clo (Kn 5 0) u:=by
  intro b hb u hu;simp only [List.mem_cons,List.not_mem_nil,or_false] at hb;rcases hb with rfl|rfl|rfl|rfl|rfl
  . simp only [List.mem_cons,List.not_mem_nil,or_false] at hu;rcases hu with rfl|rfl
    . exact zji (by simp)
    . exact zji (by simp)
  . exact Clo.plain (zah u hu)
  . exact Clo.plain (zah u hu)
  . simp only [List.mem_cons,List.not_mem_nil,or_false] at hu;rcases hu with rfl|rfl
    . exact zeF (by simp)
    . exact Clo.plain rfl
  . simp only [List.mem_cons,List.not_mem_nil,or_false] at hu;rcases hu with rfl|rfl
    . exact zeF (by simp)
    . exact Clo.plain rfl
theorem zhM {ws ws':List UInt64} {bs bs':List UInt8} {wn wc bn bc m c s s':Nat} {me:Int} {l:List (Option Blk)} (hm:0<m):∀ (i:Nat) b,[mB wn wc bn bc,wB ws,bB bs,yB s,dB me][i]?=some b->b.ro=false->∃ b1,(zar (some (mB wn wc bn bc)::some (wB ws')::some (bB bs')::some (yB s')::some (dB me)::l)).get i=some b1/\[mB wn wc bn bc,wB ws',bB bs',yB s',dB me][i]?=some b1/\b1.ro=false/\∀ u∈b1.cells,Clo (Kn m c) u
  | 0,b,hb,hro=>by simp at hb;subst hb;cases hro
  | 1,b,_,_=>⟨wB ws',rfl,rfl,rfl,fun u hu=>Clo.plain (zii ws' u hu)⟩
  | 2,b,_,_=>⟨bB bs',rfl,rfl,rfl,fun u hu=>Clo.plain (zix bs' u hu)⟩
  | 3,b,_,_=>⟨yB s',rfl,rfl,rfl,zsA hm⟩
  | 4,b,hb,hro=>by simp at hb;subst hb;cases hro
  | i+5,b,hb,_=>by simp at hb
theorem zh6 {zs:List Value} (h:∀ u∈zs,zac u=true):∀ u∈(Value.pointer (some ⟨4,0,none⟩)::zs),Clo (Kn 5 0) u:=fun u hu=>by
  rcases List.mem_cons.1 hu with rfl|hu
  . exact zeF (by simp)
  . exact Clo.plain (h u hu)
theorem zkm (ws:List UInt64) (bs:List UInt8) (wc bc s:Nat) (me:Int):DoesX BT 42 #[.pointer (some ⟨4,0,none⟩)] (dRo ws bs wc bc s me) () (.pointer (some ⟨3,0,none⟩)) (dRo ws bs wc bc s me) [] ():=by
  refine DoesX.mk Try.func42 rfl rfl ?clo ?rows ?_
  case clo=>exact zh6 (zs:=[]) (by simp)
  case rows=>exact dcl ws bs wc bc s me true true true
  rw [Try.ntmps42];simp only [List.size_toArray,List.length_cons,List.length_nil,List.replicate,List.cons_append,List.nil_append];simp only [dRo,List.map_cons,List.map_nil];refine via ?_;refine Goes.finS rfl (by simp (disch:=(first|omega|(simp only [zaa,List.length_cons,List.length_nil,List.size_toArray,zad]<;>omega)|fail)) only [go_sem,resA,zaF,Try.results42]<;>rfl) ?_ rfl ?_
  . rfl
  . exact zeF (by simp)
theorem zr3 (ws:List UInt64) (bs:List UInt8) (wc bc s:Nat) (n:Int) (A B:UInt64) (hs:s<=1000000000000):DoesI 72 #[.pointer (some ⟨3,0,none⟩),.int .u8 ((5:Nat):Int),.int .i64 n,.int .u64 (A.toNat:Int),.int .u64 (B.toNat:Int)] (zfd ws bs wc bc s) (.int .u64 ((bT n bs).toNat:Int)) [mB ws.length wc bs.length bc,wB ws,bB bs,yB (s+1)]:=by
  refine DoesI.mk Try.func72 rfl rfl ?clo ?rows ?_
  case clo=>exact zoG (by simp)
  case rows=>exact zgv ws bs wc bc s
  rw [Try.ntmps72];simp only [List.size_toArray,List.length_cons,List.length_nil,List.replicate,List.cons_append,List.nil_append];simp only [zfd,List.map_cons,List.map_nil];have hs1:=zrl hs;refine viaF hs1 ?_;have hdo:=zoK ws bs wc bc n A B;((first|refine At.callX [0,1,2] rfl rfl rfl (by decide) rfl (fun K hK=>?_)|refine RG.callX [0,1,2] rfl rfl rfl rfl (by decide) (fun K hK=>?_));simp (disch:=(first|omega|(simp only [zaa,List.length_cons,List.length_nil,List.size_toArray,zad]<;>omega)|fail)) only [go_sem];refine⟨_,_,_,_,_,_,hdo.x,by first|rfl|simp (disch:=(first|omega|(simp only [zaa,List.length_cons,List.length_nil,List.size_toArray,zad]<;>omega)|fail)) only [go_sem],by ((repeat (refine⟨⟨_,rfl,rfl,?_,(by first|exact .inr rfl|exact .inl rfl),(by first|exact fun h=>h|exact fun _=>rfl|(intro h;cases h))⟩,?_⟩;· first|exact zai zah|(simp [up_0,up_1,up_2,up_3,up_4,zaq,zam,adr];done)|(simp [zbg];done)|exact zai (by simp [zac];done)|simp [up_0,up_1,up_2,zcc,zaq,zam,adr]));exact trivial),by first|exact⟨rfl,rfl⟩|rfl,?_⟩;(try simp only [go_sem]);(first|refine hK _ _ _ ?_|refine hK _ _ _ _ ?_);clear hK K)
  simp only [zaX,up_3,Bool.true_eq_false,if_false];refine via ?_;refine Goes.finI rfl (by simp (disch:=(first|omega|(simp only [zaa,List.length_cons,List.length_nil,List.size_toArray,zad]<;>omega)|fail)) only [go_sem,resA,zaF,Try.results72]<;>rfl) rfl rfl ?_ ?_
  . exact Clo.plain rfl
  . exact zob (by simp)
theorem zsy (ws:List UInt64) (bs:List UInt8) (wc bc s:Nat) (n:Int) (A B:UInt64) (hs:s<=1000000000000):DoesI 72 #[.pointer (some ⟨3,0,none⟩),.int .u8 ((6:Nat):Int),.int .i64 n,.int .u64 (A.toNat:Int),.int .u64 (B.toNat:Int)] (zfd ws bs wc bc s) (.int .u64 0) [mB ws.length wc bs.length bc,wB ws,bB (bS n A.toUInt8 bs),yB (s+1)]:=by
  refine DoesI.mk Try.func72 rfl rfl ?clo ?rows ?_
  case clo=>exact zoG (by simp)
  case rows=>exact zgv ws bs wc bc s
  rw [Try.ntmps72];simp only [List.size_toArray,List.length_cons,List.length_nil,List.replicate,List.cons_append,List.nil_append];simp only [zfd,List.map_cons,List.map_nil];have hs1:=zrl hs;refine viaF hs1 ?_;have hdo:=zmX ws bs wc bc n A B;((first|refine At.callX [0,1,2] rfl rfl rfl (by decide) rfl (fun K hK=>?_)|refine RG.callX [0,1,2] rfl rfl rfl rfl (by decide) (fun K hK=>?_));simp (disch:=(first|omega|(simp only [zaa,List.length_cons,List.length_nil,List.size_toArray,zad]<;>omega)|fail)) only [go_sem];refine⟨_,_,_,_,_,_,hdo.x,by first|rfl|simp (disch:=(first|omega|(simp only [zaa,List.length_cons,List.length_nil,List.size_toArray,zad]<;>omega)|fail)) only [go_sem],by ((repeat (refine⟨⟨_,rfl,rfl,?_,(by first|exact .inr rfl|exact .inl rfl),(by first|exact fun h=>h|exact fun _=>rfl|(intro h;cases h))⟩,?_⟩;· first|exact zai zah|(simp [up_0,up_1,up_2,up_3,up_4,zaq,zam,adr];done)|(simp [zbg];done)|exact zai (by simp [zac];done)|simp [up_0,up_1,up_2,zcc,zaq,zam,adr]));exact trivial),by first|exact⟨rfl,rfl⟩|rfl,?_⟩;(try simp only [go_sem]);(first|refine hK _ _ _ ?_|refine hK _ _ _ _ ?_);clear hK K)
  simp only [zaX,up_3,Bool.true_eq_false,if_false];refine via ?_;refine Goes.finI rfl (by simp (disch:=(first|omega|(simp only [zaa,List.length_cons,List.length_nil,List.size_toArray,zad]<;>omega)|fail)) only [go_sem,resA,zaF,Try.results72]<;>rfl) rfl rfl ?_ ?_
  . exact Clo.plain rfl
  . exact zob (by simp)
theorem zsT (x:UInt64):((x.toNat:Int)==1)=(x==1):=by
  by_cases h:x=1
  . subst h;rfl
  . have h2:(x==1)=false:=by simpa using h
    rw [h2];simp only [beq_eq_false_iff_ne,ne_eq];intro z;exact h (UInt64.toNat_inj.1 (by have:(1:UInt64).toNat=1:=rfl;omega))
theorem zpN (b:UInt8):IntKind.u8.wrap (b.toNat:Int)=(b.toNat:Int):=by
  have:=b.toNat_lt;rw [IntKind.wrap_u8];omega
theorem zps (b:UInt8):IntKind.u64.wrap (b.toNat:Int)=((b.toUInt64).toNat:Int):=zsD b
theorem zrj (ws:List UInt64) (bs:List UInt8) (wc bc s:Nat) (me:Int) (n:Int) (hs:s<=1000000000000):DoesI 67 #[.pointer (some ⟨4,0,none⟩),.int .i64 n] (zfH ws bs wc bc s me) (.int .u64 ((wT 1 n 0 ws).toNat:Int)) [mB ws.length wc bs.length bc,wB ws,bB bs,yB (s+1),dB me]:=by
  refine DoesI.mk Try.func67 rfl rfl ?clo ?rows ?_
  case clo=>exact zh6 (zs:=[.int .i64 n]) (by simp [zac])
  case rows=>exact dcl ws bs wc bc s me false false false
  rw [Try.ntmps67];simp only [List.size_toArray,List.length_cons,List.length_nil,List.replicate,List.cons_append,List.nil_append];simp only [zfH,List.map_cons,List.map_nil];refine via ?_;((first|refine At.callX [0,1,2,3,4] rfl rfl rfl (by decide) rfl (fun K hK=>?_)|refine RG.callX [0,1,2,3,4] rfl rfl rfl rfl (by decide) (fun K hK=>?_));simp (disch:=(first|omega|(simp only [zaa,List.length_cons,List.length_nil,List.size_toArray,zad]<;>omega)|fail)) only [go_sem,up_3,up_4];refine⟨_,_,_,_,_,_,zkm ws bs wc bc s me,by first|rfl|simp (disch:=(first|omega|(simp only [zaa,List.length_cons,List.length_nil,List.size_toArray,zad]<;>omega)|fail)) only [go_sem,up_3,up_4],by ((repeat (refine⟨⟨_,rfl,rfl,?_,(by first|exact .inr rfl|exact .inl rfl),(by first|exact fun h=>h|exact fun _=>rfl|(intro h;cases h))⟩,?_⟩;· first|exact zai zah|(simp [up_0,up_1,up_2,up_3,up_4,zaq,zam,adr];done)|(simp [zbg];done)|exact zai (by simp [zac];done)|simp [up_0,up_1,up_2,zcc,zaq,zam,adr]));exact trivial),by first|exact⟨rfl,rfl⟩|rfl,?_⟩;(try simp only [go_sem]);(first|refine hK _ _ _ ?_|refine hK _ _ _ _ ?_);clear hK K)
  simp only [zaX,up_3,Bool.true_eq_false,if_false];refine via ?_;have hy:=zpj ws bs wc bc s 1 n 0 0 (by omega) (by omega) hs
  simp only [zfd,zeO,z64] at hy;((first|refine At.callX [0,1,2,3] rfl rfl rfl (by decide) rfl (fun K hK=>?_)|refine RG.callX [0,1,2,3] rfl rfl rfl rfl (by decide) (fun K hK=>?_));simp (disch:=(first|omega|(simp only [zaa,List.length_cons,List.length_nil,List.size_toArray,zad]<;>omega)|fail)) only [go_sem,up_3,up_4];refine⟨_,_,_,_,_,_,hy.x,by first|rfl|simp (disch:=(first|omega|(simp only [zaa,List.length_cons,List.length_nil,List.size_toArray,zad]<;>omega)|fail)) only [go_sem,up_3,up_4],by ((repeat (refine⟨⟨_,rfl,rfl,?_,(by first|exact .inr rfl|exact .inl rfl),(by first|exact fun h=>h|exact fun _=>rfl|(intro h;cases h))⟩,?_⟩;· first|exact zai zah|(simp [up_0,up_1,up_2,up_3,up_4,zaq,zam,adr];done)|(simp [zbg];done)|exact zai (by simp [zac];done)|simp [up_0,up_1,up_2,zcc,zaq,zam,adr]));exact trivial),by first|exact⟨rfl,rfl⟩|rfl,?_⟩;(try simp only [go_sem]);(first|refine hK _ _ _ ?_|refine hK _ _ _ _ ?_);clear hK K)
  simp only [zaX,up_3,Bool.true_eq_false,if_false];refine via ?_;refine Goes.finI rfl (by simp (disch:=(first|omega|(simp only [zaa,List.length_cons,List.length_nil,List.size_toArray,zad]<;>omega)|fail)) only [go_sem,resA,zaF,Try.results67]<;>rfl) rfl rfl ?_ ?_
  . exact Clo.plain rfl
  . exact zhM (by simp)
theorem zo9 (ws:List UInt64) (bs:List UInt8) (wc bc s:Nat) (me:Int) (n:Int) (A:UInt64) (hs:s<=1000000000000):DoesI 70 #[.pointer (some ⟨4,0,none⟩),.int .i64 n,.int .u64 (A.toNat:Int)] (zfH ws bs wc bc s me) (.tuple #[]) [mB ws.length wc bs.length bc,wB (wS 2 n A 0 ws),bB bs,yB (s+1),dB me]:=by
  refine DoesI.mk Try.func70 rfl rfl ?clo ?rows ?_
  case clo=>exact zh6 (zs:=[.int .i64 n,.int .u64 (A.toNat:Int)]) (by simp [zac])
  case rows=>exact dcl ws bs wc bc s me false false false
  rw [Try.ntmps70];simp only [List.size_toArray,List.length_cons,List.length_nil,List.replicate,List.cons_append,List.nil_append];simp only [zfH,List.map_cons,List.map_nil];refine via ?_;((first|refine At.callX [0,1,2,3,4] rfl rfl rfl (by decide) rfl (fun K hK=>?_)|refine RG.callX [0,1,2,3,4] rfl rfl rfl rfl (by decide) (fun K hK=>?_));simp (disch:=(first|omega|(simp only [zaa,List.length_cons,List.length_nil,List.size_toArray,zad]<;>omega)|fail)) only [go_sem,up_3,up_4];refine⟨_,_,_,_,_,_,zkm ws bs wc bc s me,by first|rfl|simp (disch:=(first|omega|(simp only [zaa,List.length_cons,List.length_nil,List.size_toArray,zad]<;>omega)|fail)) only [go_sem,up_3,up_4],by ((repeat (refine⟨⟨_,rfl,rfl,?_,(by first|exact .inr rfl|exact .inl rfl),(by first|exact fun h=>h|exact fun _=>rfl|(intro h;cases h))⟩,?_⟩;· first|exact zai zah|(simp [up_0,up_1,up_2,up_3,up_4,zaq,zam,adr];done)|(simp [zbg];done)|exact zai (by simp [zac];done)|simp [up_0,up_1,up_2,zcc,zaq,zam,adr]));exact trivial),by first|exact⟨rfl,rfl⟩|rfl,?_⟩;(try simp only [go_sem]);(first|refine hK _ _ _ ?_|refine hK _ _ _ _ ?_);clear hK K)
  simp only [zaX,up_3,Bool.true_eq_false,if_false];refine via ?_;have hy:=zpj ws bs wc bc s 2 n A 0 (by omega) (by omega) hs
  simp only [zfd,zeO,z64] at hy;((first|refine At.callX [0,1,2,3] rfl rfl rfl (by decide) rfl (fun K hK=>?_)|refine RG.callX [0,1,2,3] rfl rfl rfl rfl (by decide) (fun K hK=>?_));simp (disch:=(first|omega|(simp only [zaa,List.length_cons,List.length_nil,List.size_toArray,zad]<;>omega)|fail)) only [go_sem,up_3,up_4];refine⟨_,_,_,_,_,_,hy.x,by first|rfl|simp (disch:=(first|omega|(simp only [zaa,List.length_cons,List.length_nil,List.size_toArray,zad]<;>omega)|fail)) only [go_sem,up_3,up_4],by ((repeat (refine⟨⟨_,rfl,rfl,?_,(by first|exact .inr rfl|exact .inl rfl),(by first|exact fun h=>h|exact fun _=>rfl|(intro h;cases h))⟩,?_⟩;· first|exact zai zah|(simp [up_0,up_1,up_2,up_3,up_4,zaq,zam,adr];done)|(simp [zbg];done)|exact zai (by simp [zac];done)|simp [up_0,up_1,up_2,zcc,zaq,zam,adr]));exact trivial),by first|exact⟨rfl,rfl⟩|rfl,?_⟩;(try simp only [go_sem]);(first|refine hK _ _ _ ?_|refine hK _ _ _ _ ?_);clear hK K)
  simp only [zaX,up_3,Bool.true_eq_false,if_false];refine via ?_;refine Goes.finI rfl (by simp (disch:=(first|omega|(simp only [zaa,List.length_cons,List.length_nil,List.size_toArray,zad]<;>omega)|fail)) only [go_sem,resA,zaF,Try.results70]<;>rfl) rfl rfl ?_ ?_
  . exact Clo.plain (by simp [zac])
  . exact zhM (by simp)
theorem zsQ (ws:List UInt64) (bs:List UInt8) (wc bc s:Nat) (me:Int) (n:Int) (A B:UInt64) (hs:s<=1000000000000):DoesI 64 #[.pointer (some ⟨4,0,none⟩),.int .i64 n,.int .u64 (A.toNat:Int),.int .u64 (B.toNat:Int)] (zfH ws bs wc bc s me) (.bool (wT 3 n A ws==1)) [mB ws.length wc bs.length bc,wB (wS 3 n A B ws),bB bs,yB (s+1),dB me]:=by
  refine DoesI.mk Try.func64 rfl rfl ?clo ?rows ?_
  case clo=>exact zh6 (zs:=[.int .i64 n,.int .u64 (A.toNat:Int),.int .u64 (B.toNat:Int)]) (by simp [zac])
  case rows=>exact dcl ws bs wc bc s me false false false
  rw [Try.ntmps64];simp only [List.size_toArray,List.length_cons,List.length_nil,List.replicate,List.cons_append,List.nil_append];simp only [zfH,List.map_cons,List.map_nil];have he:(((wT 3 n A ws).toNat:Int)==1)=(wT 3 n A ws==1):=zsT _;refine viaF he ?_;((first|refine At.callX [0,1,2,3,4] rfl rfl rfl (by decide) rfl (fun K hK=>?_)|refine RG.callX [0,1,2,3,4] rfl rfl rfl rfl (by decide) (fun K hK=>?_));simp (disch:=(first|omega|(simp only [zaa,List.length_cons,List.length_nil,List.size_toArray,zad]<;>omega)|fail)) only [go_sem,up_3,up_4];refine⟨_,_,_,_,_,_,zkm ws bs wc bc s me,by first|rfl|simp (disch:=(first|omega|(simp only [zaa,List.length_cons,List.length_nil,List.size_toArray,zad]<;>omega)|fail)) only [go_sem,up_3,up_4],by ((repeat (refine⟨⟨_,rfl,rfl,?_,(by first|exact .inr rfl|exact .inl rfl),(by first|exact fun h=>h|exact fun _=>rfl|(intro h;cases h))⟩,?_⟩;· first|exact zai zah|(simp [up_0,up_1,up_2,up_3,up_4,zaq,zam,adr];done)|(simp [zbg];done)|exact zai (by simp [zac];done)|simp [up_0,up_1,up_2,zcc,zaq,zam,adr]));exact trivial),by first|exact⟨rfl,rfl⟩|rfl,?_⟩;(try simp only [go_sem]);(first|refine hK _ _ _ ?_|refine hK _ _ _ _ ?_);clear hK K)
  simp only [zaX,up_3,Bool.true_eq_false,if_false];refine viaF he ?_;have hy:=zpj ws bs wc bc s 3 n A B (by omega) (by omega) hs
  simp only [zfd,zeO,z64] at hy;((first|refine At.callX [0,1,2,3] rfl rfl rfl (by decide) rfl (fun K hK=>?_)|refine RG.callX [0,1,2,3] rfl rfl rfl rfl (by decide) (fun K hK=>?_));simp (disch:=(first|omega|(simp only [zaa,List.length_cons,List.length_nil,List.size_toArray,zad]<;>omega)|fail)) only [go_sem,up_3,up_4];refine⟨_,_,_,_,_,_,hy.x,by first|rfl|simp (disch:=(first|omega|(simp only [zaa,List.length_cons,List.length_nil,List.size_toArray,zad]<;>omega)|fail)) only [go_sem,up_3,up_4],by ((repeat (refine⟨⟨_,rfl,rfl,?_,(by first|exact .inr rfl|exact .inl rfl),(by first|exact fun h=>h|exact fun _=>rfl|(intro h;cases h))⟩,?_⟩;· first|exact zai zah|(simp [up_0,up_1,up_2,up_3,up_4,zaq,zam,adr];done)|(simp [zbg];done)|exact zai (by simp [zac];done)|simp [up_0,up_1,up_2,zcc,zaq,zam,adr]));exact trivial),by first|exact⟨rfl,rfl⟩|rfl,?_⟩;(try simp only [go_sem]);(first|refine hK _ _ _ ?_|refine hK _ _ _ _ ?_);clear hK K)
  simp only [zaX,up_3,Bool.true_eq_false,if_false];refine viaF he ?_;refine Goes.finI rfl (by simp (disch:=(first|omega|(simp only [zaa,List.length_cons,List.length_nil,List.size_toArray,zad]<;>omega)|fail)) only [go_sem,resA,zaF,Try.results64]<;>rfl) rfl rfl ?_ ?_
  . exact Clo.plain rfl
  . exact zhM (by simp)
theorem zsR (ws:List UInt64) (bs:List UInt8) (wc bc s:Nat) (me:Int) (n:Int) (A:UInt64) (hs:s<=1000000000000):DoesI 63 #[.pointer (some ⟨4,0,none⟩),.int .i64 n,.int .u64 (A.toNat:Int)] (zfH ws bs wc bc s me) (.int .u64 ((wT 4 n A ws).toNat:Int)) [mB ws.length wc bs.length bc,wB (wS 4 n A 0 ws),bB bs,yB (s+1),dB me]:=by
  refine DoesI.mk Try.func63 rfl rfl ?clo ?rows ?_
  case clo=>exact zh6 (zs:=[.int .i64 n,.int .u64 (A.toNat:Int)]) (by simp [zac])
  case rows=>exact dcl ws bs wc bc s me false false false
  rw [Try.ntmps63];simp only [List.size_toArray,List.length_cons,List.length_nil,List.replicate,List.cons_append,List.nil_append];simp only [zfH,List.map_cons,List.map_nil];refine via ?_;((first|refine At.callX [0,1,2,3,4] rfl rfl rfl (by decide) rfl (fun K hK=>?_)|refine RG.callX [0,1,2,3,4] rfl rfl rfl rfl (by decide) (fun K hK=>?_));simp (disch:=(first|omega|(simp only [zaa,List.length_cons,List.length_nil,List.size_toArray,zad]<;>omega)|fail)) only [go_sem,up_3,up_4];refine⟨_,_,_,_,_,_,zkm ws bs wc bc s me,by first|rfl|simp (disch:=(first|omega|(simp only [zaa,List.length_cons,List.length_nil,List.size_toArray,zad]<;>omega)|fail)) only [go_sem,up_3,up_4],by ((repeat (refine⟨⟨_,rfl,rfl,?_,(by first|exact .inr rfl|exact .inl rfl),(by first|exact fun h=>h|exact fun _=>rfl|(intro h;cases h))⟩,?_⟩;· first|exact zai zah|(simp [up_0,up_1,up_2,up_3,up_4,zaq,zam,adr];done)|(simp [zbg];done)|exact zai (by simp [zac];done)|simp [up_0,up_1,up_2,zcc,zaq,zam,adr]));exact trivial),by first|exact⟨rfl,rfl⟩|rfl,?_⟩;(try simp only [go_sem]);(first|refine hK _ _ _ ?_|refine hK _ _ _ _ ?_);clear hK K)
  simp only [zaX,up_3,Bool.true_eq_false,if_false];refine via ?_;have hy:=zpj ws bs wc bc s 4 n A 0 (by omega) (by omega) hs
  simp only [zfd,zeO,z64] at hy;((first|refine At.callX [0,1,2,3] rfl rfl rfl (by decide) rfl (fun K hK=>?_)|refine RG.callX [0,1,2,3] rfl rfl rfl rfl (by decide) (fun K hK=>?_));simp (disch:=(first|omega|(simp only [zaa,List.length_cons,List.length_nil,List.size_toArray,zad]<;>omega)|fail)) only [go_sem,up_3,up_4];refine⟨_,_,_,_,_,_,hy.x,by first|rfl|simp (disch:=(first|omega|(simp only [zaa,List.length_cons,List.length_nil,List.size_toArray,zad]<;>omega)|fail)) only [go_sem,up_3,up_4],by ((repeat (refine⟨⟨_,rfl,rfl,?_,(by first|exact .inr rfl|exact .inl rfl),(by first|exact fun h=>h|exact fun _=>rfl|(intro h;cases h))⟩,?_⟩;· first|exact zai zah|(simp [up_0,up_1,up_2,up_3,up_4,zaq,zam,adr];done)|(simp [zbg];done)|exact zai (by simp [zac];done)|simp [up_0,up_1,up_2,zcc,zaq,zam,adr]));exact trivial),by first|exact⟨rfl,rfl⟩|rfl,?_⟩;(try simp only [go_sem]);(first|refine hK _ _ _ ?_|refine hK _ _ _ _ ?_);clear hK K)
  simp only [zaX,up_3,Bool.true_eq_false,if_false];refine via ?_;refine Goes.finI rfl (by simp (disch:=(first|omega|(simp only [zaa,List.length_cons,List.length_nil,List.size_toArray,zad]<;>omega)|fail)) only [go_sem,resA,zaF,Try.results63]<;>rfl) rfl rfl ?_ ?_
  . exact Clo.plain rfl
  . exact zhM (by simp)
theorem zso (ws:List UInt64) (bs:List UInt8) (wc bc s:Nat) (me:Int) (n:Int) (hs:s<=1000000000000):DoesI 66 #[.pointer (some ⟨4,0,none⟩),.int .i64 n] (zfH ws bs wc bc s me) (.int .u8 ((bT n bs).toNat:Int)) [mB ws.length wc bs.length bc,wB ws,bB bs,yB (s+1),dB me]:=by
  refine DoesI.mk Try.func66 rfl rfl ?clo ?rows ?_
  case clo=>exact zh6 (zs:=[.int .i64 n]) (by simp [zac])
  case rows=>exact dcl ws bs wc bc s me false false false
  rw [Try.ntmps66];simp only [List.size_toArray,List.length_cons,List.length_nil,List.replicate,List.cons_append,List.nil_append];simp only [zfH,List.map_cons,List.map_nil];have he:=zpN (bT n bs);refine viaF he ?_;((first|refine At.callX [0,1,2,3,4] rfl rfl rfl (by decide) rfl (fun K hK=>?_)|refine RG.callX [0,1,2,3,4] rfl rfl rfl rfl (by decide) (fun K hK=>?_));simp (disch:=(first|omega|(simp only [zaa,List.length_cons,List.length_nil,List.size_toArray,zad]<;>omega)|fail)) only [go_sem,up_3,up_4];refine⟨_,_,_,_,_,_,zkm ws bs wc bc s me,by first|rfl|simp (disch:=(first|omega|(simp only [zaa,List.length_cons,List.length_nil,List.size_toArray,zad]<;>omega)|fail)) only [go_sem,up_3,up_4],by ((repeat (refine⟨⟨_,rfl,rfl,?_,(by first|exact .inr rfl|exact .inl rfl),(by first|exact fun h=>h|exact fun _=>rfl|(intro h;cases h))⟩,?_⟩;· first|exact zai zah|(simp [up_0,up_1,up_2,up_3,up_4,zaq,zam,adr];done)|(simp [zbg];done)|exact zai (by simp [zac];done)|simp [up_0,up_1,up_2,zcc,zaq,zam,adr]));exact trivial),by first|exact⟨rfl,rfl⟩|rfl,?_⟩;(try simp only [go_sem]);(first|refine hK _ _ _ ?_|refine hK _ _ _ _ ?_);clear hK K)
  simp only [zaX,up_3,Bool.true_eq_false,if_false];refine viaF he ?_;have hy:=zr3 ws bs wc bc s n 0 0 hs;simp only [zfd,zeO,z64] at hy;((first|refine At.callX [0,1,2,3] rfl rfl rfl (by decide) rfl (fun K hK=>?_)|refine RG.callX [0,1,2,3] rfl rfl rfl rfl (by decide) (fun K hK=>?_));simp (disch:=(first|omega|(simp only [zaa,List.length_cons,List.length_nil,List.size_toArray,zad]<;>omega)|fail)) only [go_sem,up_3,up_4];refine⟨_,_,_,_,_,_,hy.x,by first|rfl|simp (disch:=(first|omega|(simp only [zaa,List.length_cons,List.length_nil,List.size_toArray,zad]<;>omega)|fail)) only [go_sem,up_3,up_4],by ((repeat (refine⟨⟨_,rfl,rfl,?_,(by first|exact .inr rfl|exact .inl rfl),(by first|exact fun h=>h|exact fun _=>rfl|(intro h;cases h))⟩,?_⟩;· first|exact zai zah|(simp [up_0,up_1,up_2,up_3,up_4,zaq,zam,adr];done)|(simp [zbg];done)|exact zai (by simp [zac];done)|simp [up_0,up_1,up_2,zcc,zaq,zam,adr]));exact trivial),by first|exact⟨rfl,rfl⟩|rfl,?_⟩;(try simp only [go_sem]);(first|refine hK _ _ _ ?_|refine hK _ _ _ _ ?_);clear hK K)
  simp only [zaX,up_3,Bool.true_eq_false,if_false];refine viaF he ?_;refine Goes.finI rfl (by simp (disch:=(first|omega|(simp only [zaa,List.length_cons,List.length_nil,List.size_toArray,zad]<;>omega)|fail)) only [go_sem,resA,zaF,Try.results66]<;>rfl) rfl rfl ?_ ?_
  . exact Clo.plain rfl
  . exact zhM (by simp)
theorem zsL (ws:List UInt64) (bs:List UInt8) (wc bc s:Nat) (me:Int) (n:Int) (b:UInt8) (hs:s<=1000000000000):DoesI 68 #[.pointer (some ⟨4,0,none⟩),.int .i64 n,.int .u8 (b.toNat:Int)] (zfH ws bs wc bc s me) (.tuple #[]) [mB ws.length wc bs.length bc,wB ws,bB (bS n b bs),yB (s+1),dB me]:=by
  refine DoesI.mk Try.func68 rfl rfl ?clo ?rows ?_
  case clo=>exact zh6 (zs:=[.int .i64 n,.int .u8 (b.toNat:Int)]) (by simp [zac])
  case rows=>exact dcl ws bs wc bc s me false false false
  rw [Try.ntmps68];simp only [List.size_toArray,List.length_cons,List.length_nil,List.replicate,List.cons_append,List.nil_append];simp only [zfH,List.map_cons,List.map_nil];have he:=zps b;refine viaF he ?_;((first|refine At.callX [0,1,2,3,4] rfl rfl rfl (by decide) rfl (fun K hK=>?_)|refine RG.callX [0,1,2,3,4] rfl rfl rfl rfl (by decide) (fun K hK=>?_));simp (disch:=(first|omega|(simp only [zaa,List.length_cons,List.length_nil,List.size_toArray,zad]<;>omega)|fail)) only [go_sem,up_3,up_4];refine⟨_,_,_,_,_,_,zkm ws bs wc bc s me,by first|rfl|simp (disch:=(first|omega|(simp only [zaa,List.length_cons,List.length_nil,List.size_toArray,zad]<;>omega)|fail)) only [go_sem,up_3,up_4],by ((repeat (refine⟨⟨_,rfl,rfl,?_,(by first|exact .inr rfl|exact .inl rfl),(by first|exact fun h=>h|exact fun _=>rfl|(intro h;cases h))⟩,?_⟩;· first|exact zai zah|(simp [up_0,up_1,up_2,up_3,up_4,zaq,zam,adr];done)|(simp [zbg];done)|exact zai (by simp [zac];done)|simp [up_0,up_1,up_2,zcc,zaq,zam,adr]));exact trivial),by first|exact⟨rfl,rfl⟩|rfl,?_⟩;(try simp only [go_sem]);(first|refine hK _ _ _ ?_|refine hK _ _ _ _ ?_);clear hK K)
  simp only [zaX,up_3,Bool.true_eq_false,if_false];refine viaF he ?_;have hy:=zsy ws bs wc bc s n b.toUInt64 0 hs;rw [show (b.toUInt64).toUInt8=b by simp] at hy
  simp only [zfd,zeO,z64] at hy;((first|refine At.callX [0,1,2,3] rfl rfl rfl (by decide) rfl (fun K hK=>?_)|refine RG.callX [0,1,2,3] rfl rfl rfl rfl (by decide) (fun K hK=>?_));simp (disch:=(first|omega|(simp only [zaa,List.length_cons,List.length_nil,List.size_toArray,zad]<;>omega)|fail)) only [go_sem,up_3,up_4];refine⟨_,_,_,_,_,_,hy.x,by first|rfl|simp (disch:=(first|omega|(simp only [zaa,List.length_cons,List.length_nil,List.size_toArray,zad]<;>omega)|fail)) only [go_sem,up_3,up_4],by ((repeat (refine⟨⟨_,rfl,rfl,?_,(by first|exact .inr rfl|exact .inl rfl),(by first|exact fun h=>h|exact fun _=>rfl|(intro h;cases h))⟩,?_⟩;· first|exact zai zah|(simp [up_0,up_1,up_2,up_3,up_4,zaq,zam,adr];done)|(simp [zbg];done)|exact zai (by simp [zac];done)|simp [up_0,up_1,up_2,zcc,zaq,zam,adr]));exact trivial),by first|exact⟨rfl,rfl⟩|rfl,?_⟩;(try simp only [go_sem]);(first|refine hK _ _ _ ?_|refine hK _ _ _ _ ?_);clear hK K)
  simp only [zaX,up_3,Bool.true_eq_false,if_false];refine viaF he ?_;refine Goes.finI rfl (by simp (disch:=(first|omega|(simp only [zaa,List.length_cons,List.length_nil,List.size_toArray,zad]<;>omega)|fail)) only [go_sem,resA,zaF,Try.results68]<;>rfl) rfl rfl ?_ ?_
  . exact Clo.plain (by simp [zac])
  . exact zhM (by simp)
theorem zrN (ws:List UInt64) (bs:List UInt8) (wc bc s:Nat) (me:Int):DoesI 69 #[.pointer (some ⟨4,0,none⟩)] (dRo ws bs wc bc s me) (.int .i64 me) (dRo ws bs wc bc s me):=by
  refine DoesI.mk Try.func69 rfl rfl ?clo ?rows ?_
  case clo=>exact zh6 (zs:=[]) (by simp)
  case rows=>exact dcl ws bs wc bc s me true true true
  rw [Try.ntmps69];simp only [List.size_toArray,List.length_cons,List.length_nil,List.replicate,List.cons_append,List.nil_append];simp only [dRo,List.map_cons,List.map_nil];refine via ?_;refine Goes.finI rfl (by simp (disch:=(first|omega|(simp only [zaa,List.length_cons,List.length_nil,List.size_toArray,zad]<;>omega)|fail)) only [go_sem,resA,zaF,Try.results69]<;>rfl) rfl rfl ?_ ?_
  . exact Clo.plain rfl
  . exact zos rfl
theorem zpu (ws:List UInt64) (bs:List UInt8) (wc bc s:Nat) (me:Int):DoesI 29 #[.pointer (some ⟨4,0,none⟩)] (dRo ws bs wc bc s me) (.int .i64 (s:Int)) (dRo ws bs wc bc s me):=by
  refine DoesI.mk Try.func29 rfl rfl ?clo ?rows ?_
  case clo=>exact zh6 (zs:=[]) (by simp)
  case rows=>exact dcl ws bs wc bc s me true true true
  rw [Try.ntmps29];simp only [List.size_toArray,List.length_cons,List.length_nil,List.replicate,List.cons_append,List.nil_append];simp only [dRo,List.map_cons,List.map_nil];refine via ?_;((first|refine At.callX [0,1,2,3,4] rfl rfl rfl (by decide) rfl (fun K hK=>?_)|refine RG.callX [0,1,2,3,4] rfl rfl rfl rfl (by decide) (fun K hK=>?_));simp (disch:=(first|omega|(simp only [zaa,List.length_cons,List.length_nil,List.size_toArray,zad]<;>omega)|fail)) only [go_sem,up_3,up_4];refine⟨_,_,_,_,_,_,zkm ws bs wc bc s me,by first|rfl|simp (disch:=(first|omega|(simp only [zaa,List.length_cons,List.length_nil,List.size_toArray,zad]<;>omega)|fail)) only [go_sem,up_3,up_4],by ((repeat (refine⟨⟨_,rfl,rfl,?_,(by first|exact .inr rfl|exact .inl rfl),(by first|exact fun h=>h|exact fun _=>rfl|(intro h;cases h))⟩,?_⟩;· first|exact zai zah|(simp [up_0,up_1,up_2,up_3,up_4,zaq,zam,adr];done)|(simp [zbg];done)|exact zai (by simp [zac];done)|simp [up_0,up_1,up_2,zcc,zaq,zam,adr]));exact trivial),by first|exact⟨rfl,rfl⟩|rfl,?_⟩;(try simp only [go_sem]);(first|refine hK _ _ _ ?_|refine hK _ _ _ _ ?_);clear hK K)
  simp only [zaX,up_3,Bool.true_eq_false,if_false];refine via ?_;refine Goes.finI rfl (by simp (disch:=(first|omega|(simp only [zaa,List.length_cons,List.length_nil,List.size_toArray,zad]<;>omega)|fail)) only [go_sem,resA,zaF,Try.results29]<;>rfl) rfl rfl ?_ ?_
  . exact Clo.plain rfl
  . exact zos rfl
def ReadsI (f:FuncId) (args:Array Value) (l:List (Option Blk)) (v:Value):Prop:=∃ g c,Try.prog.funcs[f]?=some g/\g.body=some c/\Goes BT g (fun x=>∃ h1,x=.done v h1 ()) (.run (zag g c args).1 (zag g c args).2 (zar l) ())
theorem ReadsI.mk {f:FuncId} {g:Func} {c:Code} {args:Array Value} {l:List (Option Blk)} {v:Value} (hf:Try.prog.funcs[f]?=some g) (hb:g.body=some c) (hrun:Goes BT g (fun x=>∃ h1,x=.done v h1 ()) (.run [.code c] (args.toList++List.replicate (g.ntmps - args.size) undef) (zar l) ())):ReadsI f args l v:=⟨g,c,hf,hb,hrun⟩
abbrev wpR (self:Int) (s:Nat):Blk:=⟨[.int .i64 self,.int .i64 (wr s)],77,true,none⟩
abbrev thB (self:Int) (W:Value) (c:Option Nat) (Pd:Value) (busy closed:Bool):Blk:=⟨[.int .i64 self,W,.chan c,Pd,.bool busy,.bool closed],72,true,none⟩
abbrev aR (c:Nat) (n:Int) (A B:UInt64):Blk:=⟨[.int .u8 (c:Int),.int .i64 n,.int .u64 (A.toNat:Int),.int .u64 (B.toNat:Int)],31,true,none⟩
theorem zrf (self:Int) (s:Nat):ReadsI 78 #[.pointer (some ⟨0,0,none⟩)] [some (wpR self s)] (.int .i64 self):=by
  refine ReadsI.mk Try.func78 rfl ?_;rw [Try.ntmps78];simp only [List.size_toArray,List.length_cons,List.length_nil,List.replicate,List.cons_append,List.nil_append];refine via ?_;refine Goes.fin rfl (by simp (disch:=(first|omega|(simp only [zaa,List.length_cons,List.length_nil,List.size_toArray,zad]<;>omega)|fail)) only [go_sem,resA,zaF,Try.results78]<;>rfl) ?_
  rfl
theorem zpv (self:Int) (s:Nat):ReadsI 79 #[.pointer (some ⟨0,0,none⟩)] [some (wpR self s)] (.int .i64 (wr s)):=by
  refine ReadsI.mk Try.func79 rfl ?_;rw [Try.ntmps79];simp only [List.size_toArray,List.length_cons,List.length_nil,List.replicate,List.cons_append,List.nil_append];refine via ?_;refine Goes.fin rfl (by simp (disch:=(first|omega|(simp only [zaa,List.length_cons,List.length_nil,List.size_toArray,zad]<;>omega)|fail)) only [go_sem,resA,zaF,Try.results79]<;>rfl) ?_
  rfl
theorem zsm (self:Int) (W:Value) (c:Option Nat) (Pd:Value) (busy cl:Bool):ReadsI 9 #[.pointer (some ⟨0,0,none⟩)] [some (thB self W c Pd busy cl),none,none] (.bool busy):=by
  refine ReadsI.mk Try.func9 rfl ?_;rw [Try.ntmps9];simp only [List.size_toArray,List.length_cons,List.length_nil,List.replicate,List.cons_append,List.nil_append];refine via ?_;refine Goes.fin rfl (by simp (disch:=(first|omega|(simp only [zaa,List.length_cons,List.length_nil,List.size_toArray,zad]<;>omega)|fail)) only [go_sem,resA,zaF,Try.results9]<;>rfl) ?_
  rfl
theorem zsg (self:Int) (W:Value) (c:Option Nat) (busy cl:Bool):ReadsI 10 #[.pointer (some ⟨0,0,none⟩)] [some (thB self W c (.pointer none) busy cl),none,none] (.tuple #[accZ,.bool false]):=by
  refine ReadsI.mk Try.func10 rfl ?_;rw [Try.ntmps10];simp only [List.size_toArray,List.length_cons,List.length_nil,List.replicate,List.cons_append,List.nil_append];refine via ?_;refine Goes.fin rfl (by simp (disch:=(first|omega|(simp only [zaa,List.length_cons,List.length_nil,List.size_toArray,zad]<;>omega)|fail)) only [go_sem,resA,zaF,Try.results10]<;>rfl) ?_
  rfl
theorem zsI (self:Int) (W:Value) (c:Option Nat) (busy cl:Bool) (k:Nat) (n:Int) (A B:UInt64):ReadsI 10 #[.pointer (some ⟨0,0,none⟩)] [some (thB self W c (.pointer (some ⟨2,0,none⟩)) busy cl),none,some (aR k n A B)] (.tuple #[accV k n A B,.bool true]):=by
  refine ReadsI.mk Try.func10 rfl ?_;rw [Try.ntmps10];simp only [List.size_toArray,List.length_cons,List.length_nil,List.replicate,List.cons_append,List.nil_append];refine via ?_;refine Goes.fin rfl (by simp (disch:=(first|omega|(simp only [zaa,List.length_cons,List.length_nil,List.size_toArray,zad]<;>omega)|fail)) only [go_sem,resA,zaF,Try.results10]<;>rfl) ?_
  rfl
theorem zp9 (self wself:Int) (c:Option Nat) (Pd:Value) (busy cl:Bool) (s:Nat):ReadsI 18 #[.pointer (some ⟨0,0,none⟩)] [some (thB self (.pointer (some ⟨1,0,none⟩)) c Pd busy cl),some (wpR wself s),none] (.int .i64 (wr s)):=by
  refine ReadsI.mk Try.func18 rfl ?_;rw [Try.ntmps18];simp only [List.size_toArray,List.length_cons,List.length_nil,List.replicate,List.cons_append,List.nil_append];refine via ?_;refine Goes.fin rfl (by simp (disch:=(first|omega|(simp only [zaa,List.length_cons,List.length_nil,List.size_toArray,zad]<;>omega)|fail)) only [go_sem,resA,zaF,Try.results18]<;>rfl) ?_
  rfl
theorem zoZ (self:Int) (W:Value) (c:Option Nat) (busy cl:Bool) (v:Int):ReadsI 11 #[.pointer (some ⟨0,0,none⟩),.int .u64 v] [some (thB self W c (.pointer none) busy cl),none,none] (.bool false):=by
  refine ReadsI.mk Try.func11 rfl ?_;rw [Try.ntmps11];simp only [List.size_toArray,List.length_cons,List.length_nil,List.replicate,List.cons_append,List.nil_append];refine via ?_;refine Goes.fin rfl (by simp (disch:=(first|omega|(simp only [zaa,List.length_cons,List.length_nil,List.size_toArray,zad]<;>omega)|fail)) only [go_sem,resA,zaF,Try.results11]<;>rfl) ?_
  rfl
theorem zjM (self:Int) (W:Value) (c:Option Nat) (Pd:Value) (busy:Bool) (fv:Value):ReadsI 7 #[.pointer (some ⟨0,0,none⟩),fv] [some (thB self W c Pd busy true),none,none] (.bool false):=by
  refine ReadsI.mk Try.func7 rfl ?_;rw [Try.ntmps7];simp only [List.size_toArray,List.length_cons,List.length_nil,List.replicate,List.cons_append,List.nil_append];refine via ?_;refine Goes.fin rfl (by simp (disch:=(first|omega|(simp only [zaa,List.length_cons,List.length_nil,List.size_toArray,zad]<;>omega)|fail)) only [go_sem,resA,zaF,Try.results7]<;>rfl) ?_
  rfl
theorem zjP (self:Int) (W:Value) (c:Option Nat) (Pd:Value) (fv:Value):ReadsI 7 #[.pointer (some ⟨0,0,none⟩),fv] [some (thB self W c Pd true false),none,none] (.bool false):=by
  refine ReadsI.mk Try.func7 rfl ?_;rw [Try.ntmps7];simp only [List.size_toArray,List.length_cons,List.length_nil,List.replicate,List.cons_append,List.nil_append];refine via ?_;refine Goes.fin rfl (by simp (disch:=(first|omega|(simp only [zaa,List.length_cons,List.length_nil,List.size_toArray,zad]<;>omega)|fail)) only [go_sem,resA,zaF,Try.results7]<;>rfl) ?_
  rfl
def tyFn (P:Program) (t:TypeId):Bool:=match P.underlying t with|some (.func _ _ _)=>true|_=>false
theorem ztt {P:Program} {t:TypeId} {y:Operand}:zaR P .eql t y .nilFunc .nilFunc=cond (tyFn P t) (some (.bool true)) none:=by
  simp only [zaR,binA,zfU,zdT,tyFn];cases P.underlying t with
  | none=>rfl
  | some u=>cases u<;>rfl
theorem znZ:tyFn Try.prog 27=true:=by kernel_rfl
theorem zmx (self:Int) (W:Value) (c:Option Nat) (Pd:Value):ReadsI 7 #[.pointer (some ⟨0,0,none⟩),.nilFunc] [some (thB self W c Pd false false),none,none] (.bool false):=by
  refine ReadsI.mk Try.func7 rfl ?_;rw [Try.ntmps7];simp only [List.size_toArray,List.length_cons,List.length_nil,List.replicate,List.cons_append,List.nil_append]
  repeat (first|refine Goes.reg ?_|refine Goes.ctl2 rfl ?_|((first|refine qv1 rfl rfl rfl fun K hK=>?_|refine qv3 rfl rfl rfl fun K hK=>?_|refine qv2 rfl rfl rfl rfl rfl rfl fun K hK=>?_|refine qv4 rfl rfl rfl rfl rfl rfl fun K hK=>?_|refine qn1 rfl rfl rfl fun K hK=>?_|refine qn3 rfl rfl rfl fun K hK=>?_|refine qt1 rfl rfl rfl fun K hK=>?_|refine qt3 rfl rfl rfl fun K hK=>?_);simp (disch:=(first|omega|(simp only [sz]<;>omega)|fail)) only [go_sem,ztt,znZ];with_reducible refine hK _ _ ?_;clear hK K)|refine At.nil rfl ?_|refine RG.nil rfl ?_|((first|refine AtL.skipg rfl rfl rfl rfl rfl ?_|refine RGL.skipg rfl rfl rfl rfl rfl ?_|refine AtL.skipu rfl rfl rfl rfl ?_|refine RGL.skipu rfl rfl rfl rfl ?_);simp only [putL,List.set_cons_zero,List.set_cons_succ])|refine Goes.yes rfl ?_|refine Goes.no rfl ?_|refine Goes.drawR [] (by kernel_rfl) ?_)
  refine Goes.fin rfl (by simp (disch:=(first|omega|(simp only [zaa,List.length_cons,List.length_nil,List.size_toArray,zad]<;>omega)|fail)) only [go_sem,resA,zaF,Try.results7]<;>rfl) ?_
  rfl
theorem znA (self:Int) (W:Value) (c:Option Nat) (Pd:Value) (busy:Bool):ReadsI 14 #[.pointer (some ⟨0,0,none⟩)] [some (thB self W c Pd busy true),none,none] (.tuple #[]):=by
  refine ReadsI.mk Try.func14 rfl ?_;rw [Try.ntmps14];simp only [List.size_toArray,List.length_cons,List.length_nil,List.replicate,List.cons_append,List.nil_append];refine via ?_;refine Goes.fin rfl (by simp (disch:=(first|omega|(simp only [zaa,List.length_cons,List.length_nil,List.size_toArray,zad]<;>omega)|fail)) only [go_sem,resA,zaF,Try.results14]<;>rfl) ?_
  rfl
def MakesI (f:FuncId) (args:Array Value) (l:List (Option Blk)) (v:Value) (l1:List (Option Blk)):Prop:=∃ g c,Try.prog.funcs[f]?=some g/\g.body=some c/\Goes BT g (fun x=>x=.done v (zar l1) ()) (.run (zag g c args).1 (zag g c args).2 (zar l) ())
theorem MakesI.mk {f:FuncId} {g:Func} {c:Code} {args:Array Value} {l l1:List (Option Blk)} {v:Value} (hf:Try.prog.funcs[f]?=some g) (hb:g.body=some c) (hrun:Goes BT g (fun x=>x=.done v (zar l1) ()) (.run [.code c] (args.toList++List.replicate (g.ntmps - args.size) undef) (zar l) ())):MakesI f args l v l1:=⟨g,c,hf,hb,hrun⟩
theorem Goes.finM {fn:Func} {todo:List Item} {tmps:List Value} {h:AHeap} {v:Value} (ht:retB todo=true) (hv:resA Try.prog fn tmps h=some v):Goes BT fn (fun x=>x=.done v h ()) (.run todo tmps h ()):=.ret ht hv (.here rfl)
theorem zsF (me:Int):MakesI 25 #[.pointer (some ⟨0,0,none⟩),.int .i64 me] [none] (.pointer (some ⟨2,0,none⟩)) [none,some ⟨[.pointer (some ⟨0,0,none⟩),.int .i64 0],97,false,some 0⟩,some ⟨[.pointer (some ⟨1,0,none⟩),.int .i64 me,.pointer none],99,false,some 0⟩]:=by
  refine MakesI.mk Try.func25 rfl ?_;rw [Try.ntmps25];simp only [List.size_toArray,List.length_cons,List.length_nil,List.replicate,List.cons_append,List.nil_append];refine via ?_;exact Goes.finM rfl (by simp (disch:=(first|omega|(simp only [zaa,List.length_cons,List.length_nil,List.size_toArray,zad]<;>omega)|fail)) only [go_sem,resA,zaF,Try.results25]<;>rfl)
theorem zsf (a b:Nat) (ha:a<=2097152) (hb:b<=1048576):MakesI 36 #[.int .i64 (a:Int),.int .i64 (b:Int)] [] (.tuple #[.pointer (some ⟨2,0,none⟩),.int .i64 0]) [some ⟨zbr [.int .u64 0] a,29,false,some 0⟩,some ⟨zbr [.int .u8 0] b,5,false,some 0⟩,some ⟨[.slice (some ⟨0,0,none⟩) a a,.slice (some ⟨1,0,none⟩) b b],94,false,some 0⟩]:=by
  refine MakesI.mk Try.func36 rfl ?_;rw [Try.ntmps36];simp only [List.size_toArray,List.length_cons,List.length_nil,List.replicate,List.cons_append,List.nil_append];have h1:decide ((a:Int)<0)=false:=decide_eq_false (by omega)
  have h2:decide ((b:Int)<0)=false:=decide_eq_false (by omega)
  have h3:decide ((a:Int) > 2097152)=false:=decide_eq_false (by omega)
  have h4:decide ((b:Int) > 1048576)=false:=decide_eq_false (by omega)
  refine viaF (And.intro h1 (And.intro h2 (And.intro h3 h4))) ?_;exact Goes.finM rfl (by simp (disch:=(first|omega|(simp only [zaa,List.length_cons,List.length_nil,List.size_toArray,zad]<;>omega)|fail)) only [go_sem,resA,zaF,Try.results36]<;>rfl)
theorem zfx {f:FuncId} {g:Func} {c:Code} {zs:Array Value} {l:List (Option Blk)} {A:Conf Unit->Prop} {Q:Value->AHeap->Prop} {Ft:Emb} {w:World} (hf:Try.prog.funcs[f]?=some g) (hb:g.body=some c) (G:Goes BT g A (.run (zag g c zs).1 (zag g c zs).2 (zar l) ())) (hA:∀ x,A x->∃ v h1,x=.done v h1 ()/\Q v h1)
    (hH:Holds Ft (zar l) w) (hst:∀ u∈zs,Stab (Kn l.length 0) Ft u) (hc:∀ n b,(zar l).get n=some b->∀ u∈b.cells,Stab (Kn l.length 0) Ft u) (hl:l.length<=VB) :
    TCalls Try.prog f (zs.map (ren Ft)) w fun e w'=>∃ v h1 Ft',e=.returned (ren Ft' v)/\Q v h1/\Holds Ft' h1 w'/\Same (Kn l.length 0) Ft Ft'/\Kept w (fun b=>∃ n bb,(zar l).get n=some bb/\bb.ro=false/\Ft.blk n=b) w'/\∀ n b,h1.get n=some b->b.ro=false->Ft'.blk n<w.heap.size->∃ n' bb,(zar l).get n'=some bb/\bb.ro=false/\Ft.blk n'=Ft'.blk n:=by
  intro cs
  let b:Frame:={ (default:Frame) with fn:=f,kind:=.normal }
  have henter:Frame.enter Try.prog f (zs.map (ren Ft)) .normal=b.at (actF Ft (zag g c zs).2) (zag g c zs).1:=by
    simp [Frame.enter,Frame.at,hf,hb,b,actF,zag,zaS]
  have hn:(zar l).next=l.length:=zaa l;have hlow:∀ n b,(zar l).get n=some b->n<l.length:=fun n b hb=>by
    have:=zbu l n b hb;rw [hn] at this;exact this
  have hI:InvC BT Ft w (fun b=>∃ n bb,(zar l).get n=some bb/\bb.ro=false/\Ft.blk n=b) (.run (zag g c zs).1 (zag g c zs).2 (zar l) ()) w:=by
    refine⟨⟨hH,trivial,fun u hu=>?_,fun n bb hb u hu=>?_,fun n bb hb=>⟨.inl ?_,?_⟩,fun n h1 h2=>?_,fun n hn'=>?_,Kept.refl _ _,fun n bb h1 h2 _=>⟨n,bb,h1,h2,rfl⟩,fun _ h=>h.elim,fun _ _ _ z=>z⟩,by show (zar l).next<=VB;rw [hn];exact hl⟩
    . have hu:u∈(zag g c zs).2:=hu;simp only [zag,List.mem_append] at hu;show Stab (Kn (zar l).next 0) Ft u;rw [hn];rcases hu with hu|hu
      . exact hst u (by simpa using hu)
      . rw [List.eq_of_mem_replicate hu];exact Stab.undef
    . show Stab (Kn (zar l).next 0) Ft u;rw [hn];exact hc n bb hb u hu
    . show n<(zar l).next;rw [hn];exact hlow n bb hb
    . have:=hlow n bb hb;omega
    . have h2:n<VB+0:=h2;omega
    . rcases hn' with hn'|⟨_,hn'⟩
      . have hn':n<(zar l).next:=hn';show n<VB+0;omega
      . exact hn'
  obtain⟨c',F',w',m',hAc,hst',hS,hI',hs,_,_⟩:=G.simul b cs Ft w w _ _ hf rfl rfl hI;obtain⟨v,h1,rfl,hQ⟩:=hA c' hAc;obtain⟨fr,rfl,hfn,hleave⟩:=hS;refine⟨.returned (ren F' v),w',fr,⟨v,h1,F',rfl,hQ,hI'.1.holds,?_,hI'.1.kept,hI'.1.own⟩,by rw [henter];exact hst',hfn,hleave⟩
  have hs:Same (Kn (zar l).next 0) Ft F':=hs;rw [hn] at hs;exact hs
theorem zeK {f:FuncId} {args:Array Value} {l l':List Blk} {v:Value} (D:DoesI f args l v l') {Ft:Emb} {w:World} (hH:Holds Ft (zar (l.map some)) w) (hl:l.length<=VB) :
    TCalls Try.prog f (args.map (ren Ft)) w fun e w'=>∃ h1 Ft',e=.returned (ren Ft' v)/\zlx l.length l l' h1/\Holds Ft' h1 w'/\Same (Kn l.length 0) Ft Ft'/\Kept w (fun b=>∃ (n:Nat) (bb:Blk),l[n]?=some bb/\bb.ro=false/\Ft.blk n=b) w':=by
  obtain⟨g,c,h1,a1,a2,a3,a4,a5,a6,a7,a8,G⟩:=D;have hget:∀ n b,(zar (l.map some)).get n=some b↔l[n]?=some b:=fun n b=>by
    rw [zaJ,List.getElem?_map];cases l[n]?<;>simp
  have hlen:(l.map some).length=l.length:=List.length_map ..;refine (zfx (Q:=fun v' h'=>v'=v/\h'=h1) a1 a3 G (fun x hx=>⟨v,h1,hx,rfl,rfl⟩) hH (fun u hu=>by rw [hlen];exact (a4 u (by simpa using hu)).stab Ft) (fun n b hb u hu=>by rw [hlen];exact (a5 b (List.mem_of_getElem? ((hget n b).1 hb)) u hu).stab Ft) (by rw [hlen];exact hl)).mono fun e w' ⟨v',h',Ft',e1,⟨e2,e3⟩,e4,e5,e6,_⟩=>?_
  subst e2 e3;rw [hlen] at e5;exact⟨h',Ft',e1,a8,e4,e5,⟨e6.os,e6.tape,e6.output,e6.size,fun b h1 h2=>e6.block b h1 fun⟨n,bb,z1,z2,z3⟩=>h2 ⟨n,bb,(hget n bb).1 z1,z2,z3⟩⟩⟩
def embB (bs:List Nat):Emb:=⟨fun n=>bs.getD n 0,fun _=>0,fun _=>0⟩
theorem znk {l:List (Option Blk)} {Ft:Emb} {w:World} (hb:∀ n,Ft.base n=0) (h:∀ n b,l[n]?=some (some b)->b.grow=none/\∃ (post:Array Value) (fr:Nat × Nat),w.heap[Ft.blk n]?=some (.cells ((b.cells.map (ren Ft)).toArray++post) b.elem fr)/\(b.ro=false->fr=(0,0)))
    (ha:∀ n m b c,l[n]?=some (some b)->l[m]?=some (some c)->n≠m->b.ro=false->Ft.blk n≠Ft.blk m):Holds Ft (zar l) w:=by
  have hget:∀ n b,(zar l).get n=some b->l[n]?=some (some b):=fun n b hb=>by
    rw [zaJ] at hb;cases hx:l[n]? with
    | none=>rw [hx] at hb;cases hb
    | some y=>rw [hx] at hb;exact congrArg some hb
  refine⟨fun n b hn=>?_,fun n m b c h1 h2=>ha n m b c (hget n b h1) (hget m c h2)⟩;obtain⟨h0,post,fr,h1,h2⟩:=h n b (hget n b hn);exact⟨#[],post,fr,by simpa using h1,(hb n).symm,h2,(by rw [h0];intro z;cases z),(by rw [h0];intro s z;cases z)⟩
def zca (mn:Bool) (OB WB:Nat->Prop) (F:Emb) (S:St) (w:World) (S':St) (v:Value) (e:Ending) (w':World):Prop :=
  ∃ F',Same (fun n=>n<VB+S.length) F F'/\e=.returned (ren F' v)/\Rep mn OB WB F' S' w'/\Kept w (fpS mn F S) w'/\∀ b,fpS mn F' S' b->fpS mn F S b\/w.heap.size<=b
theorem zfc (ws:List UInt64):(wL ws).toArray=zkQ ws:=by simp [zdr,zkQ]
theorem zfl (bs:List UInt8):(bL bs).toArray=zkT bs:=by simp [zdr,zkT]
def embC (bs:List (Nat × Nat)):Emb:=⟨fun n=>(bs.getD n (0,0)).1,fun n=>(bs.getD n (0,0)).2,fun _=>0⟩
theorem zoW {l:List (Option Blk)} {Ft:Emb} {w:World} (h:∀ n b,l[n]?=some (some b)->b.grow=none/\∃ (pre post:Array Value) (fr:Nat × Nat),w.heap[Ft.blk n]?=some (.cells (pre++(b.cells.map (ren Ft)).toArray++post) b.elem fr)/\pre.size=Ft.base n/\(b.ro=false->fr=(0,0)))
    (ha:∀ n m b c,l[n]?=some (some b)->l[m]?=some (some c)->n≠m->b.ro=false->Ft.blk n≠Ft.blk m):Holds Ft (zar l) w:=by
  have hget:∀ n b,(zar l).get n=some b->l[n]?=some (some b):=fun n b hb=>by
    rw [zaJ] at hb;cases hx:l[n]? with
    | none=>rw [hx] at hb;cases hb
    | some y=>rw [hx] at hb;exact congrArg some hb
  refine⟨fun n b hn=>?_,fun n m b c h1 h2=>ha n m b c (hget n b h1) (hget m c h2)⟩;obtain⟨h0,pre,post,fr,h1,h2,h3⟩:=h n b (hget n b hn);exact⟨pre,post,fr,h1,h2,h3,(by rw [h0];intro z;cases z),(by rw [h0];intro s z;cases z)⟩
section
variable {w w':World} {m bw bb d v km kd:Nat} {X:MemP km} {Y:DirP kd} {ws ws':List UInt64} {bs bs':List UInt8} {me:Int} {s:Nat}
theorem MemO.ne1 (h:MemO w m bw bb X ws bs):m≠bw:=za6 h.hm h.hw (by decide)
theorem MemO.ne2 (h:MemO w m bw bb X ws bs):m≠bb:=za6 h.hm h.hb (by decide)
theorem MemO.ne3 (h:MemO w m bw bb X ws bs):bw≠bb:=za6 h.hw h.hb (by decide)
abbrev embM (m km bw:Nat) (X:MemP km) (bb:Nat) (t:List (Nat × Nat)):Emb:=embC ((m,km)::(bw,X.wpre.size)::(bb,X.bpre.size)::t)
theorem znd (h:MemO w m bw bb X ws bs):Holds (embM m km bw X bb []) (zar ((zaI ws bs X.wcap X.bcap).map some)) w:=by
  refine zoW (fun n b hn=>?_) (fun n n' b c h1 h2 hne _=>?_)
  . match n,hn with
    | 0,hn =>
      obtain rfl:b=mB ws.length X.wcap bs.length X.bcap:=by simpa using hn.symm
      exact⟨rfl,X.pre,X.post,(0,0),by show w.heap[m]?=_;rw [h.hm];simp [adr,embC],X.hn,fun _=>rfl⟩
    | 1,hn =>
      obtain rfl:b=wB ws:=by simpa using hn.symm
      exact⟨rfl,X.wpre,X.wpost,(0,0),by show w.heap[bw]?=_;rw [h.hw,zaX,zfc],rfl,fun _=>rfl⟩
    | 2,hn =>
      obtain rfl:b=bB bs:=by simpa using hn.symm
      exact⟨rfl,X.bpre,X.bpost,(0,0),by show w.heap[bb]?=_;rw [h.hb,zaX,zfl],rfl,fun _=>rfl⟩
    | n+3,hn=>simp at hn
  . have l1:n<3:=by have:=(List.getElem?_eq_some_iff.1 h1).1;simpa using this
    have l2:n'<3:=by have:=(List.getElem?_eq_some_iff.1 h2).1;simpa using this
    have e1:=h.ne1;have e2:=h.ne2;have e3:=h.ne3
    match n,n',l1,l2,hne with
    | 0,1,_,_,_=>exact e1
    | 0,2,_,_,_=>exact e2
    | 1,0,_,_,_=>exact e1.symm
    | 1,2,_,_,_=>exact e3
    | 2,0,_,_,_=>exact e2.symm
    | 2,1,_,_,_=>exact e3.symm
    | 0,0,_,_,h=>exact absurd rfl h
    | 1,1,_,_,h=>exact absurd rfl h
    | 2,2,_,_,h=>exact absurd rfl h
theorem zhW (h:MemO w m bw bb X ws bs) (hd:DirO w ⟨d,v⟩ m km me Y s) {r1 r2 r3:Bool}:Holds (embM m km bw X bb [(v,Y.vpre.size),(d,kd)]) (zar ([mB ws.length X.wcap bs.length X.bcap,⟨wL ws,29,r1,none⟩,⟨bL bs,5,r2,none⟩,⟨[.pointer (some ⟨0,0,none⟩),.int .i64 (s:Int)],97,r3,none⟩,dB me].map some)) w:=by
  have e1:=h.ne1;have e2:=h.ne2;have e3:=h.ne3;have f0:m≠v:=za6 h.hm hd.hv (by decide)
  have f1:m≠d:=za6 h.hm hd.hd (by decide)
  have f2:bw≠v:=za6 h.hw hd.hv (by decide)
  have f3:bw≠d:=za6 h.hw hd.hd (by decide)
  have f4:bb≠v:=za6 h.hb hd.hv (by decide)
  have f5:bb≠d:=za6 h.hb hd.hd (by decide)
  have f6:v≠d:=za6 hd.hv hd.hd (by decide)
  refine zoW (fun n b hn=>?_) (fun n n' b c h1 h2 hne _=>?_)
  . match n,hn with
    | 0,hn =>
      obtain rfl:b=mB ws.length X.wcap bs.length X.bcap:=by simpa using hn.symm
      exact⟨rfl,X.pre,X.post,(0,0),by show w.heap[m]?=_;rw [h.hm];simp [adr,embC],X.hn,fun _=>rfl⟩
    | 1,hn =>
      obtain rfl:b=⟨wL ws,29,r1,none⟩:=by simpa using hn.symm
      exact⟨rfl,X.wpre,X.wpost,(0,0),by show w.heap[bw]?=_;rw [h.hw];simp only [zaX];rw [zfc],rfl,fun _=>rfl⟩
    | 2,hn =>
      obtain rfl:b=⟨bL bs,5,r2,none⟩:=by simpa using hn.symm
      exact⟨rfl,X.bpre,X.bpost,(0,0),by show w.heap[bb]?=_;rw [h.hb];simp only [zaX];rw [zfl],rfl,fun _=>rfl⟩
    | 3,hn =>
      obtain rfl:b=⟨[.pointer (some ⟨0,0,none⟩),.int .i64 (s:Int)],97,r3,none⟩:=by simpa using hn.symm
      exact⟨rfl,Y.vpre,Y.vpost,(0,0),by show w.heap[v]?=_;rw [hd.hv];simp [adr,embC],rfl,fun _=>rfl⟩
    | 4,hn =>
      obtain rfl:b=dB me:=by simpa using hn.symm
      exact⟨rfl,Y.pre,Y.post,(0,0),by show w.heap[d]?=_;rw [hd.hd];simp [adr,embC],Y.hn,fun _=>rfl⟩
    | n+5,hn=>simp at hn
  . have l1:n<5:=by have:=(List.getElem?_eq_some_iff.1 h1).1;simpa using this
    have l2:n'<5:=by have:=(List.getElem?_eq_some_iff.1 h2).1;simpa using this
    match n,n',l1,l2,hne with
    | 0,0,_,_,h=>exact absurd rfl h
    | 1,1,_,_,h=>exact absurd rfl h
    | 2,2,_,_,h=>exact absurd rfl h
    | 3,3,_,_,h=>exact absurd rfl h
    | 4,4,_,_,h=>exact absurd rfl h
    | 0,1,_,_,_=>exact e1
    | 0,2,_,_,_=>exact e2
    | 0,3,_,_,_=>exact f0
    | 0,4,_,_,_=>exact f1
    | 1,0,_,_,_=>exact e1.symm
    | 1,2,_,_,_=>exact e3
    | 1,3,_,_,_=>exact f2
    | 1,4,_,_,_=>exact f3
    | 2,0,_,_,_=>exact e2.symm
    | 2,1,_,_,_=>exact e3.symm
    | 2,3,_,_,_=>exact f4
    | 2,4,_,_,_=>exact f5
    | 3,0,_,_,_=>exact f0.symm
    | 3,1,_,_,_=>exact f2.symm
    | 3,2,_,_,_=>exact f4.symm
    | 3,4,_,_,_=>exact f6
    | 4,0,_,_,_=>exact f1.symm
    | 4,1,_,_,_=>exact f3.symm
    | 4,2,_,_,_=>exact f5.symm
    | 4,3,_,_,_=>exact f6.symm
end
theorem zec {l l':List Blk} {h1:AHeap} {Ft Ft':Emb} {w':World} (T:zlx l.length l l' h1) (H:Holds Ft' h1 w') (hs:Same (Kn l.length 0) Ft Ft') {i:Nat} {b b':Blk} (hi:l[i]?=some b) (hro:b.ro=false) (hi':l'[i]?=some b') :
    ∃ pre post:Array Value,w'.heap[Ft.blk i]?=some (.cells (pre++(b'.cells.map (ren Ft')).toArray++post) b'.elem (0,0))/\pre.size=Ft.base i:=by
  obtain⟨b1,e1,e2,e3,_⟩:=T i b hi hro;rw [hi'] at e2;cases e2;obtain⟨pre,post,fr,r1,r2,r3,_⟩:=H.row i b' e1;obtain⟨s1,s2,_⟩:=hs i (.inl (List.getElem?_eq_some_iff.1 hi).1);rw [<-s1] at r1;rw [<-s2] at r2;rw [r3 e3] at r1;exact⟨pre,post,r1,r2⟩
section
variable {mn:Bool} {OB WB:Nat->Prop} {F:Emb} {S:St} {w w':World}
theorem zkB {k:Nat} {o:Ob} (h:S[k]?=some o):S.set k o=S:=List.ext_getElem? fun j=>by
  by_cases z:k=j
  . subst z;rw [List.getElem?_set_self (zaL h),h]
  . rw [List.getElem?_set_ne z]
theorem zkO {k:Nat} {o0 o1:Ob} (R:Rep mn OB WB F S w) (hk:S[k]?=some o0) (hbl:zay mn F k o1=zay mn F k o0) (hnw:∀ a b c d e,o0≠Ob.wp a b c d e) (hmm:(∃ ws bs,o0=Ob.mem ws bs)->∃ ws bs,o1=Ob.mem ws bs) (hrb:rowB o1=true->rowB o0=true) (K:Kept w (fun b=>b∈zay mn F k o0) w') (hat:obAt mn OB WB F (S.set k o1) w' k o1) :
    Rep mn OB WB F (S.set k o1) w'/\Kept w (fpS mn F S) w'/\∀ b,fpS mn F (S.set k o1) b->fpS mn F S b:=by
  have hkl:=zaL hk;have hlen:(S.set k o1).length=S.length:=by simp
  have hself:(S.set k o1)[k]?=some o1:=List.getElem?_set_self hkl;have hne:∀ i,i≠k->(S.set k o1)[i]?=S[i]?:=fun i hi=>List.getElem?_set_ne (Ne.symm hi);have hblk:∀ (i:Nat) ob2,(S.set k o1)[i]?=some ob2->∃ ob,S[i]?=some ob/\zay mn F i ob2=zay mn F i ob:=fun i ob2 hi=>by
    by_cases z:i=k
    . subst z;rw [hself] at hi;cases hi;exact⟨_,hk,hbl⟩
    . rw [hne i z] at hi;exact⟨_,hi,rfl⟩
  have hkept:∀ (i:Nat) ob,i≠k->S[i]?=some ob->∀ b∈zay mn F i ob,w'.heap[b]?=w.heap[b]?:=fun i ob hi ho b hb=>by
    have hlt:b<w.heap.size:=by
      obtain⟨c,el,fr,h1⟩:=zfa (R.at' i ob ho) b hb;exact zab h1
    exact K.block b hlt fun z=>R.apart i k _ _ hi ho hk b hb z
  refine⟨⟨fun i ob2 hi hr=>?_,fun i ob2 hi=>?_,fun i i' ob ob' hne' hi hi' x hx hx'=>?_,fun i ob2 hi x hx hW=>?_,fun b hb=>Nat.lt_of_lt_of_le (R.wlow b hb) K.size⟩,⟨K.os,K.tape,K.output,K.size,fun b hl hb=>K.block b hl fun z=>hb ⟨k,_,hk,z⟩⟩,fun b ⟨i,ob2,hi,hb⟩=>?_⟩
  . by_cases z:i=k
    . subst z;rw [hself] at hi;cases hi;exact R.base i _ hk (hrb hr)
    . rw [hne i z] at hi;exact R.base i _ hi hr
  . by_cases z:i=k
    . subst z;rw [hself] at hi;cases hi;exact hat
    . rw [hne i z] at hi;have h1:=zdj (R.at' i _ hi) (hkept i _ z hi);cases ob2 with
      | port m me st =>
        obtain⟨z1,ws0,bs0,z2⟩:=h1;refine⟨z1,?_⟩;by_cases e:m=k
        . subst e;rw [hk] at z2;obtain⟨ws1,bs1,rfl⟩:=hmm ⟨_,_,Option.some.inj z2⟩;exact⟨_,_,hself⟩
        . exact⟨ws0,bs0,(hne m e).trans z2⟩
      | thr a b c d e f=>intro y;obtain⟨a1,a2,a3,a4⟩:=h1 y;exact⟨a1,fun c hc=>by rw [hlen];exact a2 c hc,fun p hp=>by rw [hlen];exact a3 p hp,a4⟩
      | mem=>exact h1
      | wp=>exact h1
      | acc=>exact h1
      | box=>exact h1
  . obtain⟨o1,g1,g2⟩:=hblk i ob hi;obtain⟨o2,g3,g4⟩:=hblk i' ob' hi';exact R.apart i i' o1 o2 hne' g1 g3 x (g2 ▸ hx) (g4 ▸ hx')
  . by_cases z:i=k
    . subst z;rw [hself] at hi;cases hi;obtain⟨_,_,_,_,_,h⟩:=R.waits i _ hk x (hbl ▸ hx) hW;exact absurd h (hnw _ _ _ _ _)
    . rw [hne i z] at hi;exact R.waits i _ hi x hx hW
  . obtain⟨ob,h1,h2⟩:=hblk i ob2 hi;exact⟨i,ob,h1,h2 ▸ hb⟩
theorem zkM {k:Nat} {ws ws':List UInt64} {bs bs':List UInt8} {X:MemP (F.base (VB+k))} (R:Rep mn OB WB F S w) (hk:S[k]?=some (.mem ws bs)) (K:Kept w (fun b=>b=aux (F.slack (VB+k)) 1\/b=aux (F.slack (VB+k)) 2) w') (hm:MemO w' (F.blk (VB+k)) (aux (F.slack (VB+k)) 1) (aux (F.slack (VB+k)) 2) X ws' bs') :
    Rep mn OB WB F (S.set k (.mem ws' bs')) w'/\Kept w (fpS mn F S) w'/\∀ b,fpS mn F (S.set k (.mem ws' bs')) b->fpS mn F S b :=
  zkO R hk rfl (fun _ _ _ _ _ z=>by cases z) (fun _=>⟨_,_,rfl⟩) id ⟨K.os,K.tape,K.output,K.size,fun b hl hb=>K.block b hl fun z=>hb (by rcases z with rfl|rfl<;>simp [zay])⟩ ⟨X,hm⟩
theorem zis {f:FuncId} {zs:Array Value} {v:Value} {k:Nat} {ws ws':List UInt64} {bs bs':List UInt8} (R:Rep mn OB WB F S w) (hk:S[k]?=some (.mem ws bs)) (D:∀ wc bc,DoesI f (#[.pointer (some ⟨0,0,none⟩)]++zs) (zaI ws bs wc bc) v [mB ws.length wc bs.length bc,wB ws',bB bs']) (hz:zs.all zac=true) (hv:zac v=true) (hw:ws'.length=ws.length) (hb:bs'.length=bs.length) :
    TCalls Try.prog f ((#[hndV k]++zs).map (ren F)) w (zca mn OB WB F S w (S.set k (.mem ws' bs')) v):=by
  obtain⟨X,hM⟩:=R.at' _ _ hk;have ha:(#[hndV k]++zs).map (ren F)=(#[Value.pointer (some ⟨0,0,none⟩)]++zs).map (ren (embM (F.blk (VB+k)) (F.base (VB+k)) (aux (F.slack (VB+k)) 1) X (aux (F.slack (VB+k)) 2) [])):=by
    rw [Array.map_append,Array.map_append,zcl F hz,zcl _ hz];simp [hndV,adr,embC]
  rw [ha];refine (zeK (D X.wcap X.bcap) (znd hM) (by simp [VB])).mono fun e w' ⟨h1,Ft',e1,T,H,hs,K⟩=>?_
  obtain⟨p1,q1,t1,u1⟩:=zec T H hs (i:=1) rfl rfl rfl;obtain⟨p2,q2,t2,u2⟩:=zec T H hs (i:=2) rfl rfl rfl;have K':Kept w (fun b=>b=aux (F.slack (VB+k)) 1\/b=aux (F.slack (VB+k)) 2) w':=⟨K.os,K.tape,K.output,K.size,fun b hl hb=>K.block b hl fun⟨n,bb,z1,z2,z3⟩=>by
    match n,z1 with
    | 0,z1=>simp at z1;subst z1;cases z2
    | 1,_=>exact hb (.inl z3.symm)
    | 2,_=>exact hb (.inr z3.symm)
    | n+3,z1=>simp at z1⟩
  have v1:p1.size=X.wpre.size:=u1;have v2:p2.size=X.bpre.size:=u2;have hmem:MemO w' (F.blk (VB+k)) (aux (F.slack (VB+k)) 1) (aux (F.slack (VB+k)) 2) (⟨X.pre,X.post,p1,q1,X.wcap,p2,q2,X.bcap,X.hn⟩:MemP (F.base (VB+k))) ws' bs':=by
    refine⟨?_,?_,?_,by rw [hw];exact hM.wl,by rw [hb];exact hM.bl⟩
    . rw [K'.block _ (zab hM.hm) (fun z=>z.elim hM.ne1 hM.ne2),hM.hm,hw,hb];simp only [v1,v2]
    . rw [zaX,zfc] at t1;exact t1
    . rw [zaX,zfl] at t2;exact t2
  obtain⟨r1,r2,r3⟩:=zkM R hk K' hmem;exact⟨F,Same.refl _ _,by rw [e1,zaC _ hv,zaC _ hv],r1,r2,fun b hb=>.inl (r3 b hb)⟩
theorem zp2 {p m:Nat} {me:Int} {s s':Nat} {ws ws':List UInt64} {bs bs':List UInt8} {X:MemP (F.base (VB+m))} {Y:DirP (F.base (VB+p))} {pre post:Array Value} (R:Rep mn OB WB F S w) (hp:S[p]?=some (.port m me s)) (hm:S[m]?=some (.mem ws bs)) (hd0:DirO w ⟨F.blk (VB+p),aux (F.slack (VB+p)) 1⟩ (F.blk (VB+m)) (F.base (VB+m)) me Y s)
    (K:Kept w (fun b=>b=aux (F.slack (VB+m)) 1\/b=aux (F.slack (VB+m)) 2\/b=aux (F.slack (VB+p)) 1) w') (hM:MemO w' (F.blk (VB+m)) (aux (F.slack (VB+m)) 1) (aux (F.slack (VB+m)) 2) X ws' bs') (hv:w'.heap[aux (F.slack (VB+p)) 1]?=some (.cells (pre++#[.pointer (some ⟨F.blk (VB+m),F.base (VB+m),none⟩),.int .i64 (s':Int)]++post) 97 (0,0))) (hpre:pre.size=Y.vpre.size) :
    Rep mn OB WB F (accS S p m me s' ws' bs') w'/\Kept w (fpS mn F S) w'/\∀ b,fpS mn F (accS S p m me s' ws' bs') b->fpS mn F S b:=by
  have hpm:m≠p:=fun e=>by rw [e,hp] at hm;cases hm
  have hv0:=hd0.hv;have hdv:F.blk (VB+p)≠aux (F.slack (VB+p)) 1:=za6 hd0.hd hd0.hv (by decide)
  let w1:World:={ w with heap:=w.heap.setIfInBounds (aux (F.slack (VB+p)) 1) (.cells (pre++#[.pointer (some ⟨F.blk (VB+m),F.base (VB+m),none⟩),.int .i64 (s':Int)]++post) 97 (0,0)) }
  have h1v:w1.heap[aux (F.slack (VB+p)) 1]?=some (.cells (pre++#[.pointer (some ⟨F.blk (VB+m),F.base (VB+m),none⟩),.int .i64 (s':Int)]++post) 97 (0,0)):=Array.getElem?_setIfInBounds_self_of_lt (zab hv0);have h1n:∀ x,x≠aux (F.slack (VB+p)) 1->w1.heap[x]?=w.heap[x]?:=fun x hx=>Array.getElem?_setIfInBounds_ne (Ne.symm hx);have hs1:w1.heap.size=w.heap.size:=by simp [w1]
  have K1:Kept w (fun b=>b∈zay mn F p (.port m me s)) w1:=⟨rfl,rfl,rfl,Nat.le_of_eq hs1.symm,fun b _ hb=>h1n b fun e=>hb (by rw [e];simp [zay])⟩
  have hself:(S.set p (Ob.port m me s'))[m]?=some (.mem ws bs):=by rw [List.getElem?_set_ne hpm.symm];exact hm
  obtain⟨r1,r2,r3⟩:=zkO (o1:=.port m me s') R hp rfl (fun _ _ _ _ _ z=>by cases z) (fun⟨_,_,z⟩=>by cases z) id K1 ⟨⟨(⟨Y.pre,Y.post,pre,post,Y.hn⟩:DirP (F.base (VB+p))),⟨by
    show w1.heap[F.blk (VB+p)]?=_;rw [h1n _ hdv,hd0.hd];simp only [hpre],h1v⟩⟩,_,_,hself⟩
  have K2:Kept w1 (fun b=>b=aux (F.slack (VB+m)) 1\/b=aux (F.slack (VB+m)) 2) w':=⟨K.os,K.tape,K.output,by rw [hs1];exact K.size,fun b hl hb=>by
    by_cases e:b=aux (F.slack (VB+p)) 1
    . rw [e,h1v,hv]
    . rw [h1n b e];exact K.block b (by rw [<-hs1];exact hl) fun z=>by
        rcases z with z|z|z
        . exact hb (.inl z)
        . exact hb (.inr z)
        . exact e z⟩
  obtain⟨q1,q2,q3⟩:=zkM r1 hself K2 hM;exact⟨q1,Kept.trans r2 q2 fun b _ hb=>r3 b hb,fun b hb=>r3 b (q3 b hb)⟩
theorem zdi {f:FuncId} {zs:Array Value} {v:Value} {p m:Nat} {me:Int} {s s':Nat} {ws ws':List UInt64} {bs bs':List UInt8} (R:Rep mn OB WB F S w) (hp:S[p]?=some (.port m me s)) (hm:S[m]?=some (.mem ws bs)) (D:∀ wc bc,DoesI f (#[.pointer (some ⟨4,0,none⟩)]++zs) (zfH ws bs wc bc s me) v [mB ws.length wc bs.length bc,wB ws',bB bs',yB s',dB me]) (hz:zs.all zac=true) (hv:zac v=true) (hw:ws'.length=ws.length) (hb:bs'.length=bs.length) :
    TCalls Try.prog f ((#[hndV p]++zs).map (ren F)) w (zca mn OB WB F S w (accS S p m me s' ws' bs') v):=by
  obtain⟨X,hM⟩:=R.at' _ _ hm;obtain⟨⟨Y,hd⟩,_⟩:=R.at' _ _ hp;have ha:(#[hndV p]++zs).map (ren F)=(#[Value.pointer (some ⟨4,0,none⟩)]++zs).map (ren (embM (F.blk (VB+m)) (F.base (VB+m)) (aux (F.slack (VB+m)) 1) X (aux (F.slack (VB+m)) 2) [(aux (F.slack (VB+p)) 1,Y.vpre.size),(F.blk (VB+p),F.base (VB+p))])):=by
    rw [Array.map_append,Array.map_append,zcl F hz,zcl _ hz];simp [hndV,adr,embC]
  rw [ha];refine (zeK (D X.wcap X.bcap) (zhW hM hd) (by simp [VB])).mono fun e w' ⟨h1,Ft',e1,T,H,hs,K⟩=>?_
  obtain⟨p1,q1,t1,u1⟩:=zec T H hs (i:=1) rfl rfl rfl;obtain⟨p2,q2,t2,u2⟩:=zec T H hs (i:=2) rfl rfl rfl;obtain⟨p3,q3,t3,u3⟩:=zec T H hs (i:=3) rfl rfl rfl;have K':Kept w (fun b=>b=aux (F.slack (VB+m)) 1\/b=aux (F.slack (VB+m)) 2\/b=aux (F.slack (VB+p)) 1) w':=⟨K.os,K.tape,K.output,K.size,fun b hl hb=>K.block b hl fun⟨n,bb,z1,z2,z3⟩=>by
    match n,z1 with
    | 0,z1=>simp at z1;subst z1;cases z2
    | 1,_=>exact hb (.inl z3.symm)
    | 2,_=>exact hb (.inr (.inl z3.symm))
    | 3,_=>exact hb (.inr (.inr z3.symm))
    | 4,z1=>simp at z1;subst z1;cases z2
    | n+5,z1=>simp at z1⟩
  have v1:p1.size=X.wpre.size:=u1;have v2:p2.size=X.bpre.size:=u2;have v3:p3.size=Y.vpre.size:=u3;have hmem:MemO w' (F.blk (VB+m)) (aux (F.slack (VB+m)) 1) (aux (F.slack (VB+m)) 2) (⟨X.pre,X.post,p1,q1,X.wcap,p2,q2,X.bcap,X.hn⟩:MemP (F.base (VB+m))) ws' bs':=by
    refine⟨?_,?_,?_,by rw [hw];exact hM.wl,by rw [hb];exact hM.bl⟩
    . rw [K'.block _ (zab hM.hm) (fun z=>z.elim hM.ne1 fun z=>z.elim hM.ne2 (za6 hM.hm hd.hv (by decide))),hM.hm,hw,hb]
      simp only [v1,v2]
    . rw [zaX,zfc] at t1;exact t1
    . rw [zaX,zfl] at t2;exact t2
  have h0:Ft'.blk 0=F.blk (VB+m)/\Ft'.base 0=F.base (VB+m):=by
    obtain⟨s1,s2,_⟩:=hs 0 (.inl (by simp))
    exact⟨s1.symm,s2.symm⟩
  have t3':w'.heap[aux (F.slack (VB+p)) 1]?=some (.cells (p3++#[.pointer (some ⟨F.blk (VB+m),F.base (VB+m),none⟩),.int .i64 (s':Int)]++q3) 97 (0,0)):=by
    simpa [adr,h0,embC] using t3
  obtain⟨r1,r2,r3⟩:=zp2 R hp hm hd K' hmem t3' v3;exact⟨F,Same.refl _ _,by rw [e1,zaC _ hv,zaC _ hv],r1,r2,fun b hb=>.inl (r3 b hb)⟩
end
section
variable {P:Program} {σ:Type} {X X':Face P σ}
theorem Op0.face (hp:∀ f a S v S',X.prim f a S v S'->X'.prim f a S v S') {o:Oper} {e:Operand->Value} {h h':AHeap} {S S':σ} {v:Value} (H:Op0 X o e h S v h' S'):Op0 X' o e h S v h' S':=by
  rcases H with H|H|H|⟨f,g,args,h1,h2,h3,h4,h5⟩
  . exact .inl H
  . exact .inr (.inl H)
  . exact .inr (.inr (.inl H))
  . exact .inr (.inr (.inr ⟨f,g,args,h1,h2,h3,hp _ _ _ _ _ h4,h5⟩))
theorem CallOK.face (hc:X'.cnt=X.cnt) {o:Oper} {e:Operand->Value} {h h':AHeap} {S S':σ} {v:Value} {f:FuncId} {g:Func} {c:Code} {zs:Array Value} {E Q:Emb} {hc' h1:AHeap} {ex:List Nat} {v0:Value} (H:CallOK X o e h S v h' S' f g c zs E Q hc' h1 ex v0):CallOK X' o e h S v h' S' f g c zs E Q hc' h1 ex v0 :=
  ⟨H.call,H.func,H.go,H.body,by rw [hc];exact H.lends,by rw [hc];exact H.clo,by rw [hc];exact H.back⟩
theorem GoodK.face (hp:∀ f a S v S',X.prim f a S v S'->X'.prim f a S v S') (hc:X'.cnt=X.cnt) {W:List Nat} {ops:Array Oper} {n0:Nat} {hf:AHeap} {i:Nat} {o:Oper} {p q:DRec σ} (H:GoodK X W ops n0 hf i o p q):GoodK X' W ops n0 hf i o p q:=by
  obtain⟨H1,H2⟩:=H;refine⟨H1,?_⟩;cases hk:p.kind with
  | skip=>rw [hk] at H2;exact H2
  | far=>rw [hk] at H2;exact H2
  | op wr =>
    rw [hk] at H2;obtain⟨a1,a2,a3,a4,a5,a6⟩:=H2;refine⟨a1,a2,a3,a4,a5,?_⟩;cases wr with
    | true=>exact⟨a6.1,a6.2.face hp⟩
    | false=>obtain⟨b1,hv,b2,b3⟩:=a6;exact⟨b1,hv,b2.face hp,b3⟩
  | call wr f g c zs E Q hc' h1 ex v0 =>
    rw [hk] at H2;obtain⟨a1,a2,a3,a4,a5,a6⟩:=H2;refine⟨a1,a2,a3,a4,a5,?_⟩;cases wr with
    | true=>exact⟨a6.1,a6.2.face hc⟩
    | false=>obtain⟨b1,hv,b2,b3⟩:=a6;exact⟨b1,hv,b2.face hc,b3⟩
  | callD f g c args=>rw [hk] at H2;exact H2
theorem Goes.face (hp:∀ f a S v S',X.prim f a S v S'->X'.prim f a S v S') (hc:X'.cnt=X.cnt) {fn:Func} {A:Conf σ->Prop} {c:Conf σ} (G:Goes X fn A c):Goes X' fn A c:=by
  induction G with
  | here h=>exact .here h
  | ctl h _ ih=>exact .ctl h ih
  | ret h1 h2 _ ih=>exact .ret h1 h2 ih
  | skip h1 h2 _ ih=>exact .skip h1 h2 ih
  | op h1 h2 h3 h4 h5 _ ih=>exact .op h1 h2 h3 (h4.face hp) h5 ih
  | call f g c zs E Q hc' h1 ex v0 a1 a2 a3 a4 a5 _ _ ih1 ih2=>exact .call f g c zs E Q hc' h1 ex v0 a1 a2 a3 (a4.face hc) a5 ih1 ih2
  | callD f g c args v h1 S1 a1 a2 a3 a4 a5 a6 a7 _ _ ih1 ih2=>exact .callD f g c args v h1 S1 a1 a2 a3 a4 a5 a6 a7 ih1 ih2
  | draw W rec a1 a2 hf a3 a4 _ _ _ ih1 ih2 ih3=>exact .draw W rec a1 a2 hf a3 (fun i o ho=>(a4 i o ho).face hp hc) ih1 ih2 ih3
  | raise a1 a2 a3 _ ih=>exact .raise a1 a2 a3 ih
  | weak a1 a2 _ ih=>exact .weak a1 a2 ih
end
inductive GE {P:Program} {σ Γ:Type} (X:Face P σ) (Sp:FuncId->Array Value->AHeap->σ->Γ->(Value->AHeap->σ->Γ->Prop)->Prop):Func->(Conf σ->Γ->Prop)->Conf σ->Γ->Prop
  | here {fn A c γ} (h:A c γ):GE X Sp fn A c γ
  | plain {fn A c γ} (A':Conf σ->Prop) (G:Goes X fn A' c) (hk:∀ c',A' c'->GE X Sp fn A c' γ):GE X Sp fn A c γ
  | call {fn A ops i rest k tmps h S o γ} (f:FuncId) (g:Func) (c:Code) (args:Array Value) (Q:Value->AHeap->σ->Γ->Prop) (ho:ops[i]?=some o) (hw:Region.wanted o (zaj ops tmps)=true) (hb:o.op.operands.all zaN=true) (hca:zaW P (evA tmps) o.op=some (f,args))
      (hf:P.funcs[f]?=some g) (hg:goB g=true) (hbd:g.body=some c) (hrun:GE X Sp g (fun x γ'=>∃ v h1 S1,x=.done v h1 S1/\Q v h1 S1 γ') (.run (zag g c args).1 (zag g c args).2 h S) γ)
      (hk:∀ v h1 S1 γ',Q v h1 S1 γ'->GE X Sp fn A (.run (.inRegion ops rest::k) (putL o.dst v tmps) h1 S1) γ'):GE X Sp fn A (.run (.inRegion ops (i::rest)::k) tmps h S) γ
  | spec {fn A ops i rest k tmps h S o γ} (f:FuncId) (args:Array Value) (Q:Value->AHeap->σ->Γ->Prop) (ho:ops[i]?=some o) (hw:Region.wanted o (zaj ops tmps)=true) (hb:o.op.operands.all zaN=true) (hca:zaW P (evA tmps) o.op=some (f,args))
      (hsp:Sp f args h S γ Q) (hk:∀ v h1 S1 γ',Q v h1 S1 γ'->GE X Sp fn A (.run (.inRegion ops rest::k) (putL o.dst v tmps) h1 S1) γ'):GE X Sp fn A (.run (.inRegion ops (i::rest)::k) tmps h S) γ
  | draws {fn A id ops k tmps h S γ} (hk:∀ t,GE X Sp fn A (.run (.inRegion ops (Region.schedule (P.follows .mixedOrders) ops t)::k) tmps h S) γ):GE X Sp fn A (.run (.code (.region id ops true)::k) tmps h S) γ
theorem GE.mono {P:Program} {σ Γ:Type} {X:Face P σ} {Sp:FuncId->Array Value->AHeap->σ->Γ->(Value->AHeap->σ->Γ->Prop)->Prop} {fn:Func} {A A1:Conf σ->Γ->Prop} {c:Conf σ} {γ:Γ} (G:GE X Sp fn A c γ) (h:∀ c γ,A c γ->A1 c γ):GE X Sp fn A1 c γ:=by
  induction G with
  | here a=>exact .here (h _ _ a)
  | plain A' G _ ih=>exact .plain A' G fun c' hc=>ih c' hc h
  | call f g c args Q a1 a2 a3 a4 a5 a6 a7 hr _ _ ih2=>exact .call f g c args Q a1 a2 a3 a4 a5 a6 a7 hr fun v h1 S1 γ' hq=>ih2 v h1 S1 γ' hq h
  | spec f args Q a1 a2 a3 a4 a5 _ ih=>exact .spec f args Q a1 a2 a3 a4 a5 fun v h1 S1 γ' hq=>ih v h1 S1 γ' hq h
  | draws _ ih=>exact .draws fun t=>ih t h
end Go.Proofs.Ytgndgbnhkoppmaa
namespace Go.Proofs.Ytgndgbnhkoppmaa
open Go Go.Conc
open Go.ConcN (sumTo upd sumTo_upd upd_ne upd_same)
def ChanO (w:World) (c cap:Nat):Prop:=∃ m,w.heap[c]?=some (.chan cap #[] false m m false)
def zbd (w:World) (c:Nat):Prop:=∃ cap buf cl a b tm,w.heap[c]?=some (.chan cap buf cl a b tm)
theorem ChanO.is {w:World} {c cap:Nat} (h:ChanO w c cap):zbd w c:=⟨_,_,_,_,_,_,h.choose_spec⟩
inductive ChS (S:St):Nat->Nat->Nat->Prop
  | quit {k self c cl bz cur pe} (h:S[k]?=some (Ob.thr self c cl bz cur pe)):ChS S k 0 c
  | done {k self q cl bz hp gid c pe} (h:S[k]?=some (Ob.thr self q cl bz (some (hp,gid,c)) pe)):ChS S k 3 c
  | ask {k a s c y z} (h:S[k]?=some (Ob.wp a s c y z)):ChS S k 1 c
  | grant {k a s x c z} (h:S[k]?=some (Ob.wp a s x c z)):ChS S k 2 c
structure Tab (OB WB:Nat->Prop) (S:St) (F:Emb) (n:Nat) (w:World):Prop where
  obs:∀ b,OB b↔∃ k self quit closed busy cur pend,S[k]?=some (Ob.thr self quit closed busy cur pend)/\b=F.blk (VB+k)
  wbs:∀ b,WB b↔∃ k a s x y z,S[k]?=some (Ob.wp a s x y z)/\b=F.blk (VB+k)
  dist:∀ k s c k' s',ChS S k s c->ChS S k' s' c->k=k'/\s=s'
  far:∀ k s c,ChS S k s c->zbd w c/\¬ OB c/\¬ WB c
  olow:∀ b,OB b->b<w.heap.size
  quit:∀ (k:Nat) self quit busy cur pend,S[k]?=some (Ob.thr self quit false busy cur pend)->ChanO w quit 0
  busy:∀ (k:Nat) self quit closed cur pend,S[k]?=some (Ob.thr self quit closed true cur pend)->closed=false/\∃ (hp gid dn:Nat) (wself:Int) (steps ask grant:Nat),cur=some (hp,gid,dn)/\S[hp]?=some (Ob.wp wself steps ask grant quit)/\ChanO w ask 0/\ChanO w grant 0/\ChanO w dn 1/\0<gid/\gid<n/\S[hp+1]?=some (Ob.box dn)
structure Par where
  h:Nat
  run:Option Nat
  OB:Nat->Prop
  WB:Nat->Prop
  Iv:Nat->World->Prop
  seat0:Option Seat
  PX:Nat->Prop
  wR:World
  FR:Emb
  NR:Nat
  CR:Nat
  n0:Nat
  w0:World
abbrev Par.mn (p:Par):Bool:=p.h==0
abbrev SuT:=Emb->Nat->Nat->Nat->Nat->Ob->Goroutine->Prop
structure Com (p:Par) (Su:SuT) (S0:St) (F:Emb) (N C:Nat) (Inb:Nat->Option Seat) (gs:Array Goroutine) (w:World) (T:Trace):Prop where
  ring:∃ B Mem q,RingO Try.prog p.OB p.WB B p.Iv Mem Inb p.h T gs w q/\Mem 0/\Mem p.h
  tab:Tab p.OB p.WB S0 F gs.size w
  main:Inb 0=p.seat0
  seats:∀ i s,Inb i=some s->i≠p.h/\i<gs.size/\(i≠0->∃ (k:Nat) (self:Int) (quit:Nat) (closed:Bool) (hp dn:Nat) (pend:Option Nat),p.run≠some k/\S0[k]?=some (Ob.thr self quit closed true (some (hp,i,dn)) pend))
  waits:∀ (k:Nat) self quit closed (hp gid:Nat) dn pend,S0[k]?=some (Ob.thr self quit closed true (some (hp,gid,dn)) pend)->(p.run=some k->gid=p.h) /\
    (p.run≠some k->∃ wself steps ask grant ab x y cs,S0[hp]?=some (Ob.wp wself steps ask grant quit)/\Inb gid=some (zcH (F.blk (VB+hp)) ab ask quit grant x y cs)/\Su F N C k hp (.wp wself steps ask grant quit) (doG (F.blk (VB+hp)) ab ask quit grant x y cs))
  n0:N<=VB
  c0:S0.length<=C
def zcu (Su:SuT):Prop:=∀ F N C F' N' C' k hp ob g,Su F N C k hp ob g->Same (Kn N C) F F'->N<=N'->C<=C'->Su F' N' C' k hp ob g
theorem Kn.mono {N C N' C' n:Nat} (h:Kn N C n) (hN:N<=N') (hC:C<=C'):Kn N' C' n:=by
  rcases h with h|h
  . exact .inl (by omega)
  . exact .inr ⟨h.1,by omega⟩
section
variable {p:Par} {Su:SuT} {S0:St} {F F':Emb} {c:Conf St} {N C N' C' n:Nat} {Inb:Nat->Option Seat} {gs gs':Array Goroutine} {w w':World} {T T':Trace}
theorem Tab.turn (h:Tab p.OB p.WB S0 F n w) (hC:S0.length<=C) (hF:Same (Kn N C) F F') (hs:w.heap.size<=w'.heap.size) (hk:∀ c,¬ p.OB c->(zbd w c->zbd w' c)/\∀ cap,ChanO w c cap->ChanO w' c cap):Tab p.OB p.WB S0 F' n w':=by
  have hb:∀ k ob,S0[k]?=some ob->F'.blk (VB+k)=F.blk (VB+k):=fun k ob hk=>((hF (VB+k) (.inr ⟨by omega,by have:=zaL hk;omega⟩)).1).symm
  have hch:∀ k s c cap,ChS S0 k s c->ChanO w c cap->ChanO w' c cap:=fun k s c cap hc hm=>(hk c (h.far _ _ _ hc).2.1).2 cap hm;refine⟨fun b=>?_,fun b=>?_,h.dist,fun k s c hc=>?_,fun b hO=>Nat.lt_of_lt_of_le (h.olow b hO) hs,fun k self quit busy cur pend hq=>hch _ _ _ _ (.quit hq) (h.quit _ _ _ _ _ _ hq),fun k self quit closed cur pend hq=>?_⟩
  . rw [h.obs b];constructor
    . rintro ⟨k,a1,a2,a3,a4,a5,a6,a7,a8⟩;exact⟨k,a1,a2,a3,a4,a5,a6,a7,by rw [hb k _ a7];exact a8⟩
    . rintro ⟨k,a1,a2,a3,a4,a5,a6,a7,a8⟩;exact⟨k,a1,a2,a3,a4,a5,a6,a7,by rw [<-hb k _ a7];exact a8⟩
  . rw [h.wbs b];constructor
    . rintro ⟨k,a1,a2,a3,a4,a5,a7,a8⟩;exact⟨k,a1,a2,a3,a4,a5,a7,by rw [hb k _ a7];exact a8⟩
    . rintro ⟨k,a1,a2,a3,a4,a5,a7,a8⟩;exact⟨k,a1,a2,a3,a4,a5,a7,by rw [<-hb k _ a7];exact a8⟩
  . obtain⟨h1,h2,h3⟩:=h.far k s c hc;exact⟨(hk c h2).1 h1,h2,h3⟩
  . obtain⟨h1,hp,gid,dn,wself,steps,ask,grant,h2,h3,h4,h5,h6,h7⟩:=h.busy k self quit closed cur pend hq;subst h2;exact⟨h1,hp,gid,dn,wself,steps,ask,grant,rfl,h3,hch _ _ _ _ (.ask h3) h4,hch _ _ _ _ (.grant h3) h5,hch _ _ _ _ (.done hq) h6,h7⟩
theorem zd9 {OB:Nat->Prop} (hk:∀ c,zbd w c->¬ OB c->w'.heap[c]?=w.heap[c]?):∀ c,¬ OB c->(zbd w c->zbd w' c)/\∀ cap,ChanO w c cap->ChanO w' c cap:=fun c hO =>
  ⟨fun h=>by have e:=hk c h hO;obtain⟨cap,buf,cl,a,b,tm,h1⟩:=h;exact⟨cap,buf,cl,a,b,tm,e.trans h1⟩,fun cap h=>by have e:=hk c h.is hO;obtain⟨m,h1⟩:=h;exact⟨m,e.trans h1⟩⟩
theorem Com.turn (h:Com p Su S0 F N C Inb gs w T) (hSu:zcu Su) (hF:Same (Kn N C) F F') (hN:N<=N') (hC:C<=C') (hV:N'<=VB) (hs:w.heap.size<=w'.heap.size) (hk:∀ c,¬ p.OB c->(zbd w c->zbd w' c)/\∀ cap,ChanO w c cap->ChanO w' c cap) (hsz:gs'.size=gs.size)
    (hr:∃ B Mem q,RingO Try.prog p.OB p.WB B p.Iv Mem Inb p.h T' gs' w' q/\Mem 0/\Mem p.h):Com p Su S0 F' N' C' Inb gs' w' T':=by
  refine⟨hr,by rw [hsz];exact h.tab.turn h.c0 hF hs hk,h.main,fun i s hi=>by rw [hsz];exact h.seats i s hi,fun k self quit closed hp gid dn pend hq=>?_,hV,Nat.le_trans h.c0 hC⟩
  obtain⟨h1,h2⟩:=h.waits k self quit closed hp gid dn pend hq;refine⟨h1,fun hne=>?_⟩;obtain⟨wself,steps,ask,grant,ab,x,y,cs,h3,h4,h5⟩:=h2 hne;have e:F'.blk (VB+hp)=F.blk (VB+hp):=((hF (VB+hp) (.inr ⟨by omega,by have:=zaL h3;have:=h.c0;omega⟩)).1).symm
  exact⟨wself,steps,ask,grant,ab,x,y,cs,h3,by rw [e];exact h4,by rw [e];exact hSu _ _ _ _ _ _ _ _ _ _ h5 hF hN hC⟩
variable (hok:∀ mn OB WB,zau mn OB WB)
def Par.X (p:Par) (hok:∀ mn OB WB,zau mn OB WB):Face Try.prog St:=XF p.mn p.OB p.WB (hok _ _ _)
structure BaseP (n0:Nat) (w0:World) (Tu OB:Nat->Prop) (S0:St) (w:World):Prop where
  low:∀ x,x<n0->x<w.heap.size/\¬ Tu x/\¬ OB x/\w.heap[x]?=w0.heap[x]?
  ch:∀ k s c,ChS S0 k s c->n0<=c
theorem BaseP.size {n0:Nat} {w0:World} {Tu OB:Nat->Prop} {S0:St} {w:World} (H:BaseP n0 w0 Tu OB S0 w):n0<=w.heap.size:=Nat.le_of_not_lt fun h=>by have:=(H.low _ h).1;omega
theorem BaseP.move {n0:Nat} {w0:World} {Tu Tu' OB OB':Nat->Prop} {S0 S':St} {w w':World} (H:BaseP n0 w0 Tu OB S0 w) (hs:w.heap.size<=w'.heap.size) (hT:∀ x,x<n0->Tu' x->Tu x) (hO:∀ x,x<n0->OB' x->OB x) (hw:∀ x,x<n0->¬ Tu x->¬ OB x->(∀ k s c,ChS S0 k s c->x≠c)->w'.heap[x]?=w.heap[x]?) (hc:∀ k s c,ChS S' k s c->ChS S0 k s c\/n0<=c):BaseP n0 w0 Tu' OB' S' w' :=
  ⟨fun x hx=>by
    obtain⟨h1,h2,h3,h4⟩:=H.low x hx;exact⟨Nat.lt_of_lt_of_le h1 hs,fun z=>h2 (hT x hx z),fun z=>h3 (hO x hx z),(hw x hx h2 h3 fun k s c h e=>by have:=H.ch k s c h;omega).trans h4⟩,fun k s c h=>(hc k s c h).elim (H.ch k s c) id⟩
structure Standing (p:Par) (hok:∀ mn OB WB,zau mn OB WB) (Su:SuT) (S0:St) (F:Emb) (c:Conf St) (Inb:Nat->Option Seat) (gs:Array Goroutine) (w:World) (T:Trace):Prop where
  com:Com p Su S0 F (heap c).next (st c).length Inb gs w T
  inv:RInv (p.X hok) F c w
  ov:p.h≠0->∀ x,p.OB x->¬ Vis (p.X hok) F c x
  prot:∀ x,p.PX x->x<w.heap.size/\¬ Vis (p.X hok) F c x/\¬ p.OB x/\w.heap[x]?=p.wR.heap[x]?
  wrow:∀ x,p.WB x->∃ cc el,w.heap[x]?=some (.cells cc el (0,0))/\cc.size≠0
  wro:∀ n r,(heap c).get n=some r->p.WB (F.blk n)->r.ro=true
  base:BaseP p.n0 p.w0 (zht (p.X hok) F c) p.OB S0 w
  same:Same (Kn p.NR p.CR) p.FR F/\p.NR<=(heap c).next/\p.CR<=(st c).length
theorem Standing.chan_out (H:Standing p hok Su S0 F c Inb gs w T) {x:Nat} (hx:zbd w x):¬ Vis (p.X hok) F c x:=fun hv=>by
  obtain⟨cc,el,fr,h1⟩:=zcX (XF.soft (hok _ _ _)) H.inv hv;obtain⟨_,_,_,_,_,_,h2⟩:=hx;rw [h1] at h2;cases h2
theorem zjz {X:Face Try.prog St} {x:Nat} (h:zht X F c x):Vis X F c x:=h.imp (fun⟨n,r,h1,_,h2⟩=>⟨n,r,h1,h2⟩) id
theorem zkx (hSu:zcu Su) {fn:Func} {A:Conf St->Prop} {todo:List Item} {tmps:List Value} {hh:AHeap} {S:St} {b:Frame} {cs:List Frame} {g:Goroutine} {sl:Option (Nat × Nat)} (G:Goes (p.X hok) fn A (.run todo tmps hh S)) (hb:Try.prog.funcs[b.fn]?=some fn) (hk:b.kind=.normal)
    (H:Standing p hok Su S0 F (.run todo tmps hh S) Inb gs w T) (hg:gs[p.h]?=some g) (hS:g=Go.Conc.G (b.at (actF F tmps) todo) cs) :
    Reach Try.prog (crowd gs w sl) T fun m' T'=>∃ gs' g' w' sl' c' F',m'=crowd gs' w' sl'/\gs'[p.h]?=some g'/\A c'/\zgp Try.prog p.OB p.WB p.h F' b cs c' w' g'/\Standing p hok Su S0 F' c' Inb gs' w' T'/\Same (Kn hh.next S.length) F F'/\hh.next<=(heap c').next/\S.length<=(st c').length:=by
  have hc:=H.com;obtain⟨B,Mem,q,R,hM0,hMh⟩:=hc.ring;refine (zhG (XF.soft (hok _ _ _)) G hb hk R hg hS H.inv (fun x hx h0=>H.ov h0 x hx) (fun x hx _=>by obtain⟨cc,el,h1,h2⟩:=H.wrow x hx;exact⟨cc,el,_,h1,h2⟩) H.wro hc.tab.olow (fun x hx=>by obtain⟨_,_,h1,_⟩:=H.wrow x hx;exact zab h1)).bind fun m' T'=>?_
  rintro ⟨gs',g',w',sl',q',B',c',F',rfl,k1,k2,k3,R'⟩;have hkeep:∀ x,zbd w x->¬ p.OB x->w'.heap[x]?=w.heap[x]?:=fun x hx hO=>by
    obtain⟨_,_,_,_,_,_,h2⟩:=id hx;exact k3.keep x (zab h2) (fun z=>H.chan_out hok hx (zjz z)) fun z=>hO z.1
  refine .here ⟨gs',g',w',sl',c',F',rfl,k2,k3.done,k3.stands,⟨hc.turn hSu k3.same k3.next k3.cnt k3.inv.2 k3.size (zd9 hkeep) k1 ⟨B',Mem,q',R',hM0,hMh⟩,k3.inv,fun h0 x hx hv=>H.ov h0 x hx (k3.vis x hv (hc.tab.olow x hx)),fun x hx=>?_,fun x hx=>?_,k3.wro,?_,⟨H.same.1.trans (k3.same.mono fun n hn=>hn.mono H.same.2.1 H.same.2.2),Nat.le_trans H.same.2.1 k3.next,Nat.le_trans H.same.2.2 k3.cnt⟩⟩,k3.same,k3.next,k3.cnt⟩
  . obtain⟨h1,h2,h3,h4⟩:=H.prot x hx;exact⟨Nat.lt_of_lt_of_le h1 k3.size,fun hv=>h2 (k3.vis x hv h1),h3,(k3.keep x h1 (fun z=>h2 (zjz z)) fun z=>h3 z.1).trans h4⟩
  . obtain⟨cc,el,h1,h2⟩:=H.wrow x hx;exact⟨cc,el,(k3.keepW x hx).trans h1,h2⟩
  . exact H.base.move k3.size (fun x hx hv=>k3.turns x hv (Nat.lt_of_lt_of_le hx H.base.size)) (fun _ _ h=>h) (fun x hx h1 h2 _=>k3.keep x (Nat.lt_of_lt_of_le hx H.base.size) h1 fun z=>h2 z.1) (fun _ _ _ h=>.inl h)
end
end Go.Proofs.Ytgndgbnhkoppmaa
