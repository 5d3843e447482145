/-
  Layer 8 over the abstract machine: contracts of package pool: hazards.
  Conditions: those of each contract.
-/
import Derived.Test.YtjdbknnacaacaaaULend
namespace Go.Proofs.Ytjdbknnacaacaaa
open Go Go.RowKit
set_option linter.unusedSimpArgs false
set_option linter.unusedVariables false
theorem gHz_no {N T : Nat} {a b : Int} (h : b < 0 ∨ 2 ≤ b) : gat N T 14 (gin a b 2) = -1 := by
  rw [gin_no (by omega), gat_neg N T 14 (by omega)]
theorem gHz_of {N T t s : Nat} (hN : 1 ≤ N) (ht : t < T) (hs : s < 2) : gat N T 14 ((t * 2 + s : Nat) : Int) = ((gb N T 14 + (t * 2 + s) : Nat) : Int) := gat_of hN (by show t * 2 + s < T * 2; omega)
theorem u64_i {i : Nat} (h : i < 18446744073709551616) : IntKind.u64.wrap (i : Int) = ((UInt64.ofNat i).toNat : Int) := by rw [w_id h]; simp; omega
theorem protect_none (S : St) (p m me : Nat) (steps : Nat) (N T : Nat) (slot at' : Int) (hp : S[p]? = some (.port m me steps)) (hN1 : 1 ≤ N) (hN : N ≤ 256) (hT : T ≤ 64) (hs : slot < 0 ∨ 2 ≤ slot) (hs2 : slot ≤ 9223372036854775807) :
    Does OF 119 #[prtV p, .agg (geoC N T), .int .i64 slot, .int .i64 at'] [] S (refV 0 false 0) S := by
  refine Does.mk Try.func119 rfl rfl ?clo ?hand ?_
  case clo => exact clo4 (pclo (hlt_of hp)) gclo iclo iclo
  case hand => exact Hand.plain (refV_plain _ _ _)
  rw [Try.ntmps119]; simp only [List.size_toArray, List.length_cons, List.length_nil, List.replicate, List.cons_append, List.nil_append]
  refine via ?_
  ((first | refine qp1 rfl rfl fun K hK => ?_ | refine qp3 rfl rfl fun K hK => ?_); simp (disch := (first | omega | (simp only [sz] <;> omega) | fail)) only [go_sem]; refine ⟨_, _, .self hp, ?_⟩; (try simp only [go_sem]); with_reducible refine hK _ _ ?_; clear hK K)
  refine via ?_
  ((first | refine qc1 rfl rfl fun K hK => ?_ | refine qc3 rfl rfl fun K hK => ?_); simp (disch := (first | omega | (simp only [sz] <;> omega) | fail)) only [go_sem]; refine ⟨_, _, gHazard_does S N T me slot hN hT hs2, ?_⟩; (try simp only [go_sem]); with_reducible refine hK _ _ ?_; clear hK K)
  rw [gHz_no hs]
  refine via ?_
  ((first | refine qn5 rfl rfl fun K hK => ?_ | refine qn6 rfl rfl fun K hK => ?_); simp (disch := (first | omega | (simp only [sz] <;> omega) | fail)) only [go_sem]; with_reducible refine hK _ _ ?_; clear hK K)
  refine via ?_
  ((first | refine At.callX [2] rfl rfl rfl (by decide) rfl (fun K hK => ?_) | refine RG.callX [2] rfl rfl rfl rfl (by decide) (fun K hK => ?_)); simp (disch := (first | omega | (simp only [heapL_next, List.length_cons, List.length_nil, List.size_toArray, geo_len] <;> omega) | fail)) only [go_sem]; refine ⟨_, _, _, _, _, _, pnone S p m me steps N T [-1] (by simp) hp hN1, by first | rfl | simp (disch := (first | omega | (simp only [heapL_next, List.length_cons, List.length_nil, List.size_toArray, geo_len] <;> omega) | fail)) only [go_sem], by ((repeat (refine ⟨⟨_, rfl, rfl, ?_, (by first | exact .inr rfl | exact .inl rfl), (by first | exact fun h => h | exact fun _ => rfl | (intro h; cases h))⟩, ?_⟩; · first | exact plain_map numRow_plain | (simp [up_prt]; done) | exact plain_map (by simp [plainB]; done) | simp [up_0, up_1, up_2, up_00, up_base, up_slack, adr])); exact trivial), by first | exact ⟨rfl, rfl⟩ | rfl, ?_⟩; (try simp only [go_sem]); (first | refine hK _ _ _ ?_ | refine hK _ _ _ _ ?_); clear hK K)
  rw [show decide ((-1 : Int) ∈ [(-1 : Int)]) = true by decide]
  refine via ?_
  refine Goes.fin rfl (by simp (disch := (first | omega | (simp only [heapL_next, List.length_cons, List.length_nil, List.size_toArray, geo_len] <;> omega) | fail)) only [go_sem, resA, res1A, Try.results119] <;> rfl) ?_
  rfl
set_option maxHeartbeats 1000000 in
theorem protect_at (S : St) (p m me : Nat) (steps : Nat) (ws : List UInt64) (bs : List UInt8) (N T s a i v : Nat) (b : Bool) (u : UInt64) (hp : S[p]? = some (.port m me steps)) (hm : S[m]? = some (.mem ws bs)) (hst : steps ≤ 10000000000) (hN1 : 1 ≤ N) (hN : N ≤ 256) (hT : T ≤ 64) (hme : me < T) (hs : s < 2) (ha : a < gb N T 19)
    (hi : i = u.toNat / 2 ^ 0 % 2 ^ 24) (hb : b = bB (u.toNat / 2 ^ 24 % 2 ^ 1)) (hv : v = u.toNat / 2 ^ 32 % 2 ^ 32) (h1 : wAt ws (a : Int) = some u) (h2 : wAt (wS 2 (gat N T 14 ((me * 2 + s : Nat) : Int)) (UInt64.ofNat i) 0 ws) (a : Int) = some u) :
    Does OF 119 #[prtV p, .agg (geoC N T), .int .i64 s, .int .i64 a] [] S (refV i b v) (accS S p m me (steps + 3) (wS 2 (gat N T 14 ((me * 2 + s : Nat) : Int)) (UInt64.ofNat i) 0 ws) bs) := by
  have hne := hne_of hp hm
  have hg := gb_le N T 19 hN hT (by omega)
  refine Does.mk Try.func119 rfl rfl ?clo ?hand ?_
  case clo => exact clo4 (pclo (hlt_of hp)) gclo iclo iclo
  case hand => exact Hand.plain (refV_plain _ _ _)
  rw [Try.ntmps119]; simp only [List.size_toArray, List.length_cons, List.length_nil, List.replicate, List.cons_append, List.nil_append]
  have e3 : decide ((-1 : Int) ∈ [gat N T 14 ((me * 2 + s : Nat) : Int)]) = false := by
    rw [gHz_of hN1 hme hs]; simp; omega
  have e4 : IntKind.u64.wrap (i : Int) = ((UInt64.ofNat i).toNat : Int) := u64_i (by rw [hi]; omega)
  have e5 : ((u.toNat : Int) == (u.toNat : Int)) = true := beq_self_eq_true _
  have hro := refOf_does (accS S p m me (steps + 1) ws bs) u
  rw [← hi, ← hb, ← hv] at hro
  refine via ?_
  ((first | refine qp1 rfl rfl fun K hK => ?_ | refine qp3 rfl rfl fun K hK => ?_); simp (disch := (first | omega | (simp only [sz] <;> omega) | fail)) only [go_sem]; refine ⟨_, _, .self hp, ?_⟩; (try simp only [go_sem]); with_reducible refine hK _ _ ?_; clear hK K)
  refine via ?_
  ((first | refine qc1 rfl rfl fun K hK => ?_ | refine qc3 rfl rfl fun K hK => ?_); simp (disch := (first | omega | (simp only [sz] <;> omega) | fail)) only [go_sem]; refine ⟨_, _, gHazardN S N T me s hN hT hme hs, ?_⟩; (try simp only [go_sem]); with_reducible refine hK _ _ ?_; clear hK K)
  refine via ?_
  ((first | refine qn5 rfl rfl fun K hK => ?_ | refine qn6 rfl rfl fun K hK => ?_); simp (disch := (first | omega | (simp only [sz] <;> omega) | fail)) only [go_sem]; with_reducible refine hK _ _ ?_; clear hK K)
  refine via ?_
  ((first | refine At.callX [2] rfl rfl rfl (by decide) rfl (fun K hK => ?_) | refine RG.callX [2] rfl rfl rfl rfl (by decide) (fun K hK => ?_)); simp (disch := (first | omega | (simp only [heapL_next, List.length_cons, List.length_nil, List.size_toArray, geo_len] <;> omega) | fail)) only [go_sem]; refine ⟨_, _, _, _, _, _, pnone S p m me steps N T [gat N T 14 ((me * 2 + s : Nat) : Int)] (by simp) hp hN1, by first | rfl | simp (disch := (first | omega | (simp only [heapL_next, List.length_cons, List.length_nil, List.size_toArray, geo_len] <;> omega) | fail)) only [go_sem], by ((repeat (refine ⟨⟨_, rfl, rfl, ?_, (by first | exact .inr rfl | exact .inl rfl), (by first | exact fun h => h | exact fun _ => rfl | (intro h; cases h))⟩, ?_⟩; · first | exact plain_map numRow_plain | (simp [up_prt]; done) | exact plain_map (by simp [plainB]; done) | simp [up_0, up_1, up_2, up_00, up_base, up_slack, adr])); exact trivial), by first | exact ⟨rfl, rfl⟩ | rfl, ?_⟩; (try simp only [go_sem]); (first | refine hK _ _ _ ?_ | refine hK _ _ _ _ ?_); clear hK K)
  rw [e3]
  refine via ?_
  ((first | refine qp1 rfl rfl fun K hK => ?_ | refine qp3 rfl rfl fun K hK => ?_); simp (disch := (first | omega | (simp only [sz] <;> omega) | fail)) only [go_sem]; refine ⟨_, _, qpu fun w => gWords_any N T w, ?_⟩; (try simp only [go_sem]); with_reducible refine hK _ _ ?_; clear hK K)
  refine viaL ?_
  ((first | refine qp1 rfl rfl fun K hK => ?_ | refine qp3 rfl rfl fun K hK => ?_); simp (disch := (first | omega | (simp only [sz] <;> omega) | fail)) only [go_sem]; refine ⟨_, _, .load _ hp hm (by omega), ?_⟩; (try simp only [go_sem]); with_reducible refine hK _ _ ?_; clear hK K)
  rw [load_same, ld_w h1]
  refine viaL ?_
  ((first | refine qc1 rfl rfl fun K hK => ?_ | refine qc3 rfl rfl fun K hK => ?_); simp (disch := (first | omega | (simp only [sz] <;> omega) | fail)) only [go_sem]; refine ⟨_, _, hro, ?_⟩; (try simp only [go_sem]); with_reducible refine hK _ _ ?_; clear hK K)
  unfold refV
  refine via ?_
  ((first | refine qp1 rfl rfl fun K hK => ?_ | refine qp3 rfl rfl fun K hK => ?_); simp (disch := (first | omega | (simp only [sz] <;> omega) | fail)) only [go_sem]; refine ⟨_, _, .self (acc_p hp hm), ?_⟩; (try simp only [go_sem]); with_reducible refine hK _ _ ?_; clear hK K)
  refine via ?_
  ((first | refine qc1 rfl rfl fun K hK => ?_ | refine qc3 rfl rfl fun K hK => ?_); simp (disch := (first | omega | (simp only [sz] <;> omega) | fail)) only [go_sem]; refine ⟨_, _, gHazardN _ N T me s hN hT hme hs, ?_⟩; (try simp only [go_sem]); with_reducible refine hK _ _ ?_; clear hK K)
  refine viaF e4 ?_
  ((first | refine qp1 rfl rfl fun K hK => ?_ | refine qp3 rfl rfl fun K hK => ?_); simp (disch := (first | omega | (simp only [sz] <;> omega) | fail)) only [go_sem]; refine ⟨_, _, .store _ (UInt64.ofNat i) (acc_p hp hm) (acc_m hp hm) (by omega), ?_⟩; (try simp only [go_sem]); with_reducible refine hK _ _ ?_; clear hK K)
  rw [acc_acc hne]
  refine via ?_
  ((first | refine qp1 rfl rfl fun K hK => ?_ | refine qp3 rfl rfl fun K hK => ?_); simp (disch := (first | omega | (simp only [sz] <;> omega) | fail)) only [go_sem]; refine ⟨_, _, .load _ (acc_p hp hm) (acc_m hp hm) (by omega), ?_⟩; (try simp only [go_sem]); with_reducible refine hK _ _ ?_; clear hK K)
  rw [load_same, ld_w h2, acc_acc hne]
  refine viaF e5 ?_
  refine Goes.fin rfl (by simp (disch := (first | omega | (simp only [heapL_next, List.length_cons, List.length_nil, List.size_toArray, geo_len] <;> omega) | fail)) only [go_sem, resA, res1A, Try.results119] <;> rfl) ?_
  rfl
set_option maxHeartbeats 1000000 in
theorem clear_does (S : St) (p m me : Nat) (steps : Nat) (ws : List UInt64) (bs : List UInt8) (N T s : Nat) (hp : S[p]? = some (.port m me steps)) (hm : S[m]? = some (.mem ws bs)) (hst : steps ≤ 10000000000) (hN1 : 1 ≤ N) (hN : N ≤ 256) (hT : T ≤ 64) (hme : me < T) (hs : s < 2) :
    Does OF 121 #[prtV p, .agg (geoC N T), .int .i64 s] [] S (.tuple #[]) (accS S p m me (steps + 1) (wS 2 (gat N T 14 ((me * 2 + s : Nat) : Int)) 0 0 ws) bs) := by
  have hne := hne_of hp hm
  refine Does.mk Try.func121 rfl rfl ?clo ?hand ?_
  case clo => exact clo3 (pclo (hlt_of hp)) gclo iclo
  case hand => exact Hand.plain (by simp [plainB])
  rw [Try.ntmps121]; simp only [List.size_toArray, List.length_cons, List.length_nil, List.replicate, List.cons_append, List.nil_append]
  have e3 : decide ((-1 : Int) ∈ [gat N T 14 ((me * 2 + s : Nat) : Int)]) = false := by
    rw [gHz_of hN1 hme hs]; simp; omega
  refine via ?_
  ((first | refine qp1 rfl rfl fun K hK => ?_ | refine qp3 rfl rfl fun K hK => ?_); simp (disch := (first | omega | (simp only [sz] <;> omega) | fail)) only [go_sem]; refine ⟨_, _, .self hp, ?_⟩; (try simp only [go_sem]); with_reducible refine hK _ _ ?_; clear hK K)
  refine via ?_
  ((first | refine qc1 rfl rfl fun K hK => ?_ | refine qc3 rfl rfl fun K hK => ?_); simp (disch := (first | omega | (simp only [sz] <;> omega) | fail)) only [go_sem]; refine ⟨_, _, gHazardN S N T me s hN hT hme hs, ?_⟩; (try simp only [go_sem]); with_reducible refine hK _ _ ?_; clear hK K)
  refine via ?_
  ((first | refine qn5 rfl rfl fun K hK => ?_ | refine qn6 rfl rfl fun K hK => ?_); simp (disch := (first | omega | (simp only [sz] <;> omega) | fail)) only [go_sem]; with_reducible refine hK _ _ ?_; clear hK K)
  refine via ?_
  ((first | refine At.callX [1] rfl rfl rfl (by decide) rfl (fun K hK => ?_) | refine RG.callX [1] rfl rfl rfl rfl (by decide) (fun K hK => ?_)); simp (disch := (first | omega | (simp only [heapL_next, List.length_cons, List.length_nil, List.size_toArray, geo_len] <;> omega) | fail)) only [go_sem]; refine ⟨_, _, _, _, _, _, pnone S p m me steps N T [gat N T 14 ((me * 2 + s : Nat) : Int)] (by simp) hp hN1, by first | rfl | simp (disch := (first | omega | (simp only [heapL_next, List.length_cons, List.length_nil, List.size_toArray, geo_len] <;> omega) | fail)) only [go_sem], by ((repeat (refine ⟨⟨_, rfl, rfl, ?_, (by first | exact .inr rfl | exact .inl rfl), (by first | exact fun h => h | exact fun _ => rfl | (intro h; cases h))⟩, ?_⟩; · first | exact plain_map numRow_plain | (simp [up_prt]; done) | exact plain_map (by simp [plainB]; done) | simp [up_0, up_1, up_2, up_00, up_base, up_slack, adr])); exact trivial), by first | exact ⟨rfl, rfl⟩ | rfl, ?_⟩; (try simp only [go_sem]); (first | refine hK _ _ _ ?_ | refine hK _ _ _ _ ?_); clear hK K)
  rw [e3]
  refine via ?_
  ((first | refine qp1 rfl rfl fun K hK => ?_ | refine qp3 rfl rfl fun K hK => ?_); simp (disch := (first | omega | (simp only [sz] <;> omega) | fail)) only [go_sem]; refine ⟨_, _, .self hp, ?_⟩; (try simp only [go_sem]); with_reducible refine hK _ _ ?_; clear hK K)
  refine via ?_
  ((first | refine qc1 rfl rfl fun K hK => ?_ | refine qc3 rfl rfl fun K hK => ?_); simp (disch := (first | omega | (simp only [sz] <;> omega) | fail)) only [go_sem]; refine ⟨_, _, gHazardN S N T me s hN hT hme hs, ?_⟩; (try simp only [go_sem]); with_reducible refine hK _ _ ?_; clear hK K)
  refine via ?_
  ((first | refine qp1 rfl rfl fun K hK => ?_ | refine qp3 rfl rfl fun K hK => ?_); simp (disch := (first | omega | (simp only [sz] <;> omega) | fail)) only [go_sem]; refine ⟨_, _, .store _ 0 hp hm (by omega), ?_⟩; (try simp only [go_sem]); with_reducible refine hK _ _ ?_; clear hK K)
  refine via ?_
  refine Goes.fin rfl (by simp (disch := (first | omega | (simp only [heapL_next, List.length_cons, List.length_nil, List.size_toArray, geo_len] <;> omega) | fail)) only [go_sem, resA, res1A, Try.results121] <;> rfl) ?_
  rfl
theorem appT_int : AppT Try.prog 62 3 0 := AppT.of (bs := 8) (z := .int .i64 0) (by simp only [go_sem]) (by simp only [go_sem]) (by simp only [go_sem]) (by simp only [go_sem]) (by simp [plainB, Value.cells])
theorem numRow_app {k : IntKind} {A B : List Int} : numRow k A ++ numRow k B = numRow k (A ++ B) := by simp [numRow]
def hzl (H : Nat → Nat → Nat) (t : Nat) : List Int := (List.range t).flatMap fun t => [(H t 0 : Int), (H t 1 : Int)]
theorem hzl_succ (H : Nat → Nat → Nat) (t : Nat) : hzl H (t + 1) = hzl H t ++ [(H t 0 : Int)] ++ [(H t 1 : Int)] := by
  unfold hzl; rw [List.range_succ, List.flatMap_append]; simp
theorem hzl_len (H : Nat → Nat → Nat) (t : Nat) : (hzl H t).length = 2 * t := by
  induction t with
  | zero => rfl
  | succ t ih => rw [hzl_succ]; simp [ih]; omega
def HzY (l : List Int) (q : Nat) (V : Value) (ys : List (Option Blk)) : Prop :=
  (l = [] ∧ V = .slice none 0 0 ∧ ys = []) ∨ (∃ n, l.length = n ∧ 1 ≤ n ∧ V = .slice (some ⟨q, 0, none⟩) n n ∧ ys = [some ⟨numRow .i64 l, 3, false, some 1⟩])
theorem nat_i64 {x : Nat} (h : x < 16777216) : IntKind.i64.wrap ((UInt64.ofNat x).toNat : Int) = (x : Int) := by
  rw [wrap_i64 (by simp; omega) (by simp; omega)]; simp; omega
def safeB (L : List Int) (x : Nat) : Bool := decide ((x : Int) ∈ L)
structure ScanIn (N T : Nat) (W : Nat → Nat → UInt64) (free : List Nat) (ver : Nat) (H : Nat → Nat → Nat) (G : Nat → List Nat) (me : Nat) (L : List Int) (k : Nat) (K F : List Nat) (vr : Nat) (wk : List UInt64) (Wk : Nat → Nat → UInt64) : Prop where
  wd : Wd N T wk Wk
  pl : Pl N T Wk F vr H (upG G me (K ++ (G me).drop k)) me
  kept : K = ((G me).take k).filter (safeB L)
  free : F = (((G me).take k).filter fun x => !safeB L x).reverse ++ free
  ver : vr = ver + (((G me).take k).filter fun x => !safeB L x).length
  low : ∀ j x : Nat, K[j]? = some x → Wk 16 (me * (2 * T + 2) + j) = UInt64.ofNat x
  high : ∀ j x : Nat, k ≤ j → (G me)[j]? = some x → Wk 16 (me * (2 * T + 2) + j) = UInt64.ofNat x
  rest : ∀ r n, r ≠ 4 → r ≠ 15 → r ≠ 16 → (r = 17 → n + 1 ∉ G me) → Wk r n = W r n
theorem ScanIn.start {N T : Nat} {W : Nat → Nat → UInt64} {free : List Nat} {ver me : Nat} {H : Nat → Nat → Nat} {G : Nat → List Nat} {L : List Int} {ws : List UInt64} (hW : Wd N T ws W) (hP : Pl N T W free ver H G T) (hme : me < T) : ScanIn N T W free ver H G me L 0 [] free ver ws W where
  wd := hW
  pl := by
    rw [List.nil_append, List.drop_zero, upG_same]
    exact hP.opened
  kept := by simp
  free := by simp
  ver := by simp
  low := by simp
  high := fun j x _ hx => hP.gk me j x hme (by omega) hx
  rest := fun _ _ _ _ _ _ => rfl
theorem ne_m1' {n : Int} (h : 0 ≤ n) : (n == -1) = false := by rw [beq_eq_false_iff_ne]; omega
theorem take_one {l : List Nat} {k x : Nat} (h : l[k]? = some x) : l.take (k + 1) = l.take k ++ [x] := by rw [List.take_add_one, h]; rfl
theorem drop_one {l : List Nat} {k x : Nat} (h : l[k]? = some x) : l.drop k = x :: l.drop (k + 1) := by
  obtain ⟨hk, rfl⟩ := List.getElem?_eq_some_iff.1 h
  exact List.drop_eq_getElem_cons hk
section
variable {N T : Nat} {W : Nat → Nat → UInt64} {free : List Nat} {ver me : Nat} {H : Nat → Nat → Nat} {G : Nat → List Nat} {L : List Int} {k x vr : Nat} {K F : List Nat} {wk : List UInt64} {Wk : Nat → Nat → UInt64}
theorem ScanIn.le (h : ScanIn N T W free ver H G me L k K F vr wk Wk) : K.length ≤ k := by
  rw [h.kept]
  exact Nat.le_trans (List.length_filter_le _ _) (by rw [List.length_take]; omega)
theorem ScanIn.keep (h : ScanIn N T W free ver H G me L k K F vr wk Wk) (hN : 1 ≤ N) (hme : me < T) (hlen : ∀ t, t < T → (G t).length ≤ 2 * T + 1) (hx : (G me)[k]? = some x) (hs : safeB L x = true) :
    ScanIn N T W free ver H G me L (k + 1) (K ++ [x]) F vr (wS 2 (gat N T 16 ((me * (2 * T + 2) + K.length : Nat) : Int)) (UInt64.ofNat x) 0 wk) (up2 Wk 16 (me * (2 * T + 2) + K.length) (UInt64.ofNat x)) := by
  have hle := h.le
  have hk := (List.getElem?_eq_some_iff.1 hx).1
  have hl := hlen me hme
  have hc : me * (2 * T + 2) + K.length < gsz N T 16 := by
    show me * (2 * T + 2) + K.length < T * (2 * T + 2)
    have : (me + 1) * (2 * T + 2) ≤ T * (2 * T + 2) := Nat.mul_le_mul_right _ hme
    rw [Nat.add_mul] at this; omega
  have e1 := take_one hx
  refine ⟨h.wd.store hN (by decide) hc _, ?_, ?_, ?_, ?_, fun j y hy => ?_, fun j y hj hy => ?_, fun r n h4 h15 h16 h17 => ?_⟩
  · have := h.pl.row (k := K.length) (v := UInt64.ofNat x) (by omega) (fun t' ht' he => by rw [upG_ne he]; exact hlen t' ht')
    rw [drop_one hx] at this
    rw [List.append_assoc]
    exact this
  · rw [e1, List.filter_append, ← h.kept]; simp [hs]
  · rw [e1, List.filter_append, h.free]; simp [hs]
  · rw [e1, List.filter_append, h.ver]; simp [hs]
  · by_cases e : j = K.length
    · subst e
      rw [List.getElem?_append_right (Nat.le_refl _), Nat.sub_self] at hy
      simp only [List.getElem?_cons_zero, Option.some.injEq] at hy
      rw [← hy, up2_eq]
    · have hj : j < K.length := by
        have := (List.getElem?_eq_some_iff.1 hy).1
        rw [List.length_append, List.length_singleton] at this; omega
      rw [List.getElem?_append_left hj] at hy
      rw [up2_n (by omega)]
      exact h.low j y hy
  · rw [up2_n (by omega)]
    exact h.high j y (by omega) hy
  · rw [up2_r h16]; exact h.rest r n h4 h15 h16 h17
theorem ScanIn.gives (h : ScanIn N T W free ver H G me L k K F vr wk Wk) (hN : 1 ≤ N) (hme : me < T) (hx : (G me)[k]? = some x) (hs : safeB L x = false) :
    (1 ≤ x ∧ x ≤ gM N T) ∧ ScanIn N T W free ver H G me L (k + 1) K (x :: F) (vr + 1) (wS 3 (gat N T 4 0) (rU (F.headD 0) false vr) (rU x false (vr + 1)) (wS 2 (gat N T 17 ((x - 1 : Nat) : Int)) (rU (F.headD 0) false 0) 0 wk)) (up2 (up2 Wk 17 (x - 1) (rU (F.headD 0) false 0)) 4 0 (rU x false (vr + 1))) := by
  have e1 := take_one hx
  have hP := h.pl
  rw [drop_one hx] at hP
  obtain ⟨hr, hnot, hP2⟩ := (hP.perm (l' := x :: (K ++ (G me).drop (k + 1))) hme List.perm_middle.symm).drop hme
  refine ⟨hr, ?_⟩
  have hc : x - 1 < gsz N T 17 := by show x - 1 < gM N T; omega
  have hW2 := h.wd.store hN (by decide) hc (rU (F.headD 0) false 0)
  refine ⟨hW2.cas4 hN (by rw [up2_r (by decide)]; exact hP.top) _, hP2.give hr.1 hr.2 hnot, ?_, ?_, ?_, fun j y hy => ?_, fun j y hj hy => ?_, fun r n h4 h15 h16 h17 => ?_⟩
  · rw [e1, List.filter_append, ← h.kept]; simp [hs]
  · rw [e1, List.filter_append, h.free]; simp [hs]
  · rw [e1, List.filter_append, h.ver]; simp [hs]; omega
  · rw [up2_r (by decide), up2_r (by decide)]; exact h.low j y hy
  · rw [up2_r (by decide), up2_r (by decide)]; exact h.high j y (by omega) hy
  · rw [up2_r h4]
    by_cases e : r = 17
    · subst e
      rw [up2_n (fun e => h17 rfl (by have := List.mem_of_getElem? hx; rwa [e, Nat.sub_add_cancel hr.1]))]
      exact h.rest _ n h4 h15 h16 h17
    · rw [up2_r e]; exact h.rest r n h4 h15 h16 h17
theorem ScanIn.ends (h : ScanIn N T W free ver H G me L k K F vr wk Wk) (hN : 1 ≤ N) (hme : me < T) (hk : (G me).length ≤ k) :
    K = (G me).filter (safeB L) ∧ F = ((G me).filter fun x => !safeB L x).reverse ++ free ∧ vr = ver + ((G me).filter fun x => !safeB L x).length ∧
    Wd N T (wS 2 (gat N T 15 (me : Int)) (UInt64.ofNat K.length) 0 wk) (up2 Wk 15 me (UInt64.ofNat K.length)) ∧ Pl N T (up2 Wk 15 me (UInt64.ofNat K.length)) F vr H (upG G me K) T ∧
    ∀ r n, r ≠ 4 → r ≠ 15 → r ≠ 16 → (r = 17 → n + 1 ∉ G me) → up2 Wk 15 me (UInt64.ofNat K.length) r n = W r n := by
  have e1 : (G me).take k = G me := List.take_of_length_le hk
  have h1 := h.kept
  have h2 := h.free
  have h3 := h.ver
  rw [e1] at h1 h2 h3
  refine ⟨h1, h2, h3, h.wd.store hN (by decide) (by show me < T; exact hme) _, ?_, fun r n h4 h15 h16 h17 => ?_⟩
  · have hP := h.pl
    rw [List.drop_eq_nil_of_le hk, List.append_nil] at hP
    exact hP.closed h.low
  · rw [up2_r h15]; exact h.rest r n h4 h15 h16 h17
end
def ScanEnd (N T : Nat) (W : Nat → Nat → UInt64) (free : List Nat) (ver : Nat) (H : Nat → Nat → Nat) (G : Nat → List Nat) (me : Nat) (ws' : List UInt64) (W' : Nat → Nat → UInt64) (K F : List Nat) (vr : Nat) : Prop :=
  K = (G me).filter (safeB (hzl H T)) ∧ F = ((G me).filter fun x => !safeB (hzl H T) x).reverse ++ free ∧ vr = ver + ((G me).filter fun x => !safeB (hzl H T) x).length ∧
    Wd N T ws' W' ∧ Pl N T W' F vr H (upG G me K) T ∧ ∀ r n, r ≠ 4 → r ≠ 15 → r ≠ 16 → (r = 17 → n + 1 ∉ G me) → W' r n = W r n
set_option maxHeartbeats 1000000 in
theorem scan_does (S : St) (p m me : Nat) (steps : Nat) (ws : List UInt64) (bs : List UInt8) (N T : Nat) {W : Nat → Nat → UInt64} {free : List Nat} {ver : Nat} {H : Nat → Nat → Nat} {G : Nat → List Nat} (hp : S[p]? = some (.port m me steps)) (hm : S[m]? = some (.mem ws bs)) (hst : steps ≤ 1000000000) (hN1 : 1 ≤ N) (hN : N ≤ 256) (hT : T ≤ 64) (hme : me < T) (hW : Wd N T ws W) (hP : Pl N T W free ver H G T) (hlen : ∀ t, t < T → (G t).length ≤ 2 * T + 1) (hv : ver + 1000 < 4294967296) :
    ∃ v S', (v = .tuple #[] ∧ ∃ st' ws' W' Kp F vr, st' ≤ steps + 1000 ∧ S' = accS S p m me st' ws' bs ∧ ScanEnd N T W free ver H G me ws' W' Kp F vr) ∧ Does OF 124 #[prtV p, .agg (geoC N T)] [] S v S' := by
  have hne := hne_of hp hm
  refine Does.ex Try.func124 rfl rfl ?clo ?hand ?_
  case clo => exact clo2 (pclo (hlt_of hp)) gclo
  case hand => rintro v S' ⟨rfl, _⟩; exact Hand.plain (by simp [plainB])
  rw [Try.ntmps124]; simp only [List.size_toArray, List.length_cons, List.length_nil, List.replicate, List.cons_append, List.nil_append]
  have hg15 : (gat N T 15 (me : Int)) = ((gb N T 15 + me : Nat) : Int) := gat_of hN1 (by show me < T; omega)
  have e3 : decide ((-1 : Int) ∈ [gat N T 15 (me : Int)]) = false := by
    rw [hg15]; simp; omega
  refine via ?_
  ((first | refine qp1 rfl rfl fun K hK => ?_ | refine qp3 rfl rfl fun K hK => ?_); simp (disch := (first | omega | (simp only [sz] <;> omega) | fail)) only [go_sem]; refine ⟨_, _, .self hp, ?_⟩; (try simp only [go_sem]); with_reducible refine hK _ _ ?_; clear hK K)
  refine via ?_
  ((first | refine qp1 rfl rfl fun K hK => ?_ | refine qp3 rfl rfl fun K hK => ?_); simp (disch := (first | omega | (simp only [sz] <;> omega) | fail)) only [go_sem]; refine ⟨_, _, qpu fun w => gGone_any N T me w hN hT, ?_⟩; (try simp only [go_sem]); with_reducible refine hK _ _ ?_; clear hK K)
  refine via ?_
  ((first | refine qn5 rfl rfl fun K hK => ?_ | refine qn6 rfl rfl fun K hK => ?_); simp (disch := (first | omega | (simp only [sz] <;> omega) | fail)) only [go_sem]; with_reducible refine hK _ _ ?_; clear hK K)
  refine via ?_
  ((first | refine At.callX [1] rfl rfl rfl (by decide) rfl (fun K hK => ?_) | refine RG.callX [1] rfl rfl rfl rfl (by decide) (fun K hK => ?_)); simp (disch := (first | omega | (simp only [heapL_next, List.length_cons, List.length_nil, List.size_toArray, geo_len] <;> omega) | fail)) only [go_sem]; refine ⟨_, _, _, _, _, _, pnone S p m me steps N T [gat N T 15 (me : Int)] (by simp) hp hN1, by first | rfl | simp (disch := (first | omega | (simp only [heapL_next, List.length_cons, List.length_nil, List.size_toArray, geo_len] <;> omega) | fail)) only [go_sem], by ((repeat (refine ⟨⟨_, rfl, rfl, ?_, (by first | exact .inr rfl | exact .inl rfl), (by first | exact fun h => h | exact fun _ => rfl | (intro h; cases h))⟩, ?_⟩; · first | exact plain_map numRow_plain | (simp [up_prt]; done) | exact plain_map (by simp [plainB]; done) | simp [up_0, up_1, up_2, up_00, up_base, up_slack, adr])); exact trivial), by first | exact ⟨rfl, rfl⟩ | rfl, ?_⟩; (try simp only [go_sem]); (first | refine hK _ _ _ ?_ | refine hK _ _ _ _ ?_); clear hK K)
  rw [e3]
  refine via ?_
  ((first | refine qp1 rfl rfl fun K hK => ?_ | refine qp3 rfl rfl fun K hK => ?_); simp (disch := (first | omega | (simp only [sz] <;> omega) | fail)) only [go_sem]; refine ⟨_, _, qpu fun w => gThreads_any N T w, ?_⟩; (try simp only [go_sem]); with_reducible refine hK _ _ ?_; clear hK K)
  refine via ?_
  refine Goes.wh (fun z tmps h S' => ∃ (t st q : Nat) (Vs : Value) (ys : List (Option Blk)), z = T - t ∧ t ≤ T ∧ st = steps + 2 * t ∧ 2 ≤ q ∧ q ≤ 2 + 10 * t ∧ S' = accS S p m me st ws bs ∧ HzY (hzl H t) q Vs ys ∧ h = heapJ [some { cells := (geoC N T).toList, elem := 24 }, some { cells := [.int .i64 (gat N T 15 (me : Int))], elem := 3 }] q ys ∧ tmps.length = 108 ∧
      tmps.getD 0 undef = prtV p ∧ tmps.getD 3 undef = .pointer (some ⟨0, 0, none⟩) ∧ tmps.getD 4 undef = Vs ∧ tmps.getD 23 undef = .int .i64 T ∧ tmps.getD 24 undef = .int .i64 t) (m := T)
      ⟨0, steps, 2, _, _, rfl, by omega, by omega, by omega, by omega, (acc_same hp hm).symm, .inl ⟨rfl, rfl, rfl⟩, gap_of _, rfl, rfl, rfl, rfl, rfl, rfl⟩ ?_
  rintro z tmps h S' ih ⟨t, st, q, Vs, ys, rfl, ht, rfl, hq1, hq2, rfl, hY, rfl, hl, f0, f3, f4, f23, f24⟩
  by_cases hlt : t < T
  · have e6 : IntKind.i64.wrap ((UInt64.ofNat (H t 0)).toNat : Int) = (H t 0 : Int) := nat_i64 (hP.hlt t 0)
    have e7 : IntKind.i64.wrap ((UInt64.ofNat (H t 1)).toNat : Int) = (H t 1 : Int) := nat_i64 (hP.hlt t 1)
    have w0 : wAt ws (gat N T 14 ((t * 2 : Nat) : Int)) = some (UInt64.ofNat (H t 0)) := by rw [hW 14 _ (by decide) (by show t * 2 < T * 2; omega)]; exact congrArg some (hP.haz t 0 hlt (by decide))
    have w1 : wAt ws (gat N T 14 ((t * 2 + 1 : Nat) : Int)) = some (UInt64.ofNat (H t 1)) := by rw [hW 14 _ (by decide) (by show t * 2 + 1 < T * 2; omega), hP.haz t 1 hlt (by decide)]
    obtain ⟨V, hV, hT⟩ := frame_lit hl; replace hT : _ = ([V 0, V 1, V 2, V 3, V 4, V 5, V 6, V 7, V 8, V 9, V 10, V 11, V 12, V 13, V 14, V 15, V 16, V 17, V 18, V 19, V 20, V 21, V 22, V 23, V 24, V 25, V 26, V 27, V 28, V 29, V 30, V 31, V 32, V 33, V 34, V 35, V 36, V 37, V 38, V 39, V 40, V 41, V 42, V 43, V 44, V 45, V 46, V 47, V 48, V 49, V 50, V 51, V 52, V 53, V 54, V 55, V 56, V 57, V 58, V 59, V 60, V 61, V 62, V 63, V 64, V 65, V 66, V 67, V 68, V 69, V 70, V 71, V 72, V 73, V 74, V 75, V 76, V 77, V 78, V 79, V 80, V 81, V 82, V 83, V 84, V 85, V 86, V 87, V 88, V 89, V 90, V 91, V 92, V 93, V 94, V 95, V 96, V 97, V 98, V 99, V 100, V 101, V 102, V 103, V 104, V 105, V 106, V 107] : List Value) := hT; rw [hV] at f0 f3 f4 f23 f24; subst hT; simp only [f0, f3, f4, f23, f24]; clear hV hl
    repeat (first | refine Goes.reg ?_ | refine Goes.ctl2 rfl ?_ | ((first | refine qv1 rfl rfl rfl fun K hK => ?_ | refine qv3 rfl rfl rfl fun K hK => ?_ | refine qv2 rfl rfl rfl rfl rfl rfl fun K hK => ?_ | refine qv4 rfl rfl rfl rfl rfl rfl fun K hK => ?_); simp (disch := (first | omega | (simp only [sz] <;> omega) | fail)) only [go_sem]; with_reducible refine hK _ _ ?_; clear hK K) | refine At.nil rfl ?_ | refine RG.nil rfl ?_ | ((first | refine AtL.skipg rfl rfl rfl rfl rfl ?_ | refine RGL.skipg rfl rfl rfl rfl rfl ?_ | refine AtL.skipu rfl rfl rfl rfl ?_ | refine RGL.skipu rfl rfl rfl rfl ?_); simp only [putL, List.set_cons_zero, List.set_cons_succ]) | refine Goes.yes rfl ?_ | refine Goes.no rfl ?_)
    refine Goes.loop ?_
    repeat (first | refine Goes.reg ?_ | refine Goes.ctl2 rfl ?_ | ((first | refine qv1 rfl rfl rfl fun K hK => ?_ | refine qv3 rfl rfl rfl fun K hK => ?_ | refine qv2 rfl rfl rfl rfl rfl rfl fun K hK => ?_ | refine qv4 rfl rfl rfl rfl rfl rfl fun K hK => ?_); simp (disch := (first | omega | (simp only [sz] <;> omega) | fail)) only [go_sem]; with_reducible refine hK _ _ ?_; clear hK K) | refine At.nil rfl ?_ | refine RG.nil rfl ?_ | ((first | refine AtL.skipg rfl rfl rfl rfl rfl ?_ | refine RGL.skipg rfl rfl rfl rfl rfl ?_ | refine AtL.skipu rfl rfl rfl rfl ?_ | refine RGL.skipu rfl rfl rfl rfl ?_); simp only [putL, List.set_cons_zero, List.set_cons_succ]) | refine Goes.yes rfl ?_ | refine Goes.no rfl ?_)
    rcases hY with ⟨hn0, rfl, rfl⟩ | ⟨n, hn, hn1, rfl, rfl⟩
    · have ht0 : t = 0 := by have := hzl_len H t; rw [hn0, List.length_nil] at this; omega
      refine Goes.drawR [12] (by kernel_rfl) ?_
      refine via ?_
      ((first | refine qc1 rfl rfl fun K hK => ?_ | refine qc3 rfl rfl fun K hK => ?_); simp (disch := (first | omega | (simp only [sz] <;> omega) | fail)) only [go_sem]; refine ⟨_, _, gHazardN _ N T t 0 hN hT hlt (by decide), ?_⟩; (try simp only [go_sem]); with_reducible refine hK _ _ ?_; clear hK K)
      refine via ?_
      ((first | refine qp1 rfl rfl fun K hK => ?_ | refine qp3 rfl rfl fun K hK => ?_); simp (disch := (first | omega | (simp only [sz] <;> omega) | fail)) only [go_sem]; refine ⟨_, _, .load _ (acc_p hp hm) (acc_m hp hm) (by omega), ?_⟩; (try simp only [go_sem]); with_reducible refine hK _ _ ?_; clear hK K)
      rw [load_same, ld_w w0, acc_acc hne]
      refine viaF e6 ?_
      (refine RG.appE rfl rfl rfl rfl rfl (app_nil_new appT_int (cells_gap 0 rfl rfl (by decide)) (by decide) (by decide)) (by simp (disch := (first | omega | (simp only [sz] <;> omega) | fail)) only [go_sem]; (try simp only [sz]); unfold VB; omega) fun K hK => ?_; simp (disch := (first | omega | (simp only [sz] <;> omega) | fail)) only [go_sem]; with_reducible refine hK _ _ ?_; clear hK K)
      repeat (first | refine Goes.reg ?_ | refine Goes.ctl2 rfl ?_ | ((first | refine qv1 rfl rfl rfl fun K hK => ?_ | refine qv3 rfl rfl rfl fun K hK => ?_ | refine qv2 rfl rfl rfl rfl rfl rfl fun K hK => ?_ | refine qv4 rfl rfl rfl rfl rfl rfl fun K hK => ?_); simp (disch := (first | omega | (simp only [sz] <;> omega) | fail)) only [go_sem]; with_reducible refine hK _ _ ?_; clear hK K) | refine At.nil rfl ?_ | refine RG.nil rfl ?_ | ((first | refine AtL.skipg rfl rfl rfl rfl rfl ?_ | refine RGL.skipg rfl rfl rfl rfl rfl ?_ | refine AtL.skipu rfl rfl rfl rfl ?_ | refine RGL.skipu rfl rfl rfl rfl ?_); simp only [putL, List.set_cons_zero, List.set_cons_succ]) | refine Goes.yes rfl ?_ | refine Goes.no rfl ?_)
      refine Goes.inLoop ?_
      repeat (first | refine Goes.reg ?_ | refine Goes.ctl2 rfl ?_ | ((first | refine qv1 rfl rfl rfl fun K hK => ?_ | refine qv3 rfl rfl rfl fun K hK => ?_ | refine qv2 rfl rfl rfl rfl rfl rfl fun K hK => ?_ | refine qv4 rfl rfl rfl rfl rfl rfl fun K hK => ?_); simp (disch := (first | omega | (simp only [sz] <;> omega) | fail)) only [go_sem]; with_reducible refine hK _ _ ?_; clear hK K) | refine At.nil rfl ?_ | refine RG.nil rfl ?_ | ((first | refine AtL.skipg rfl rfl rfl rfl rfl ?_ | refine RGL.skipg rfl rfl rfl rfl rfl ?_ | refine AtL.skipu rfl rfl rfl rfl ?_ | refine RGL.skipu rfl rfl rfl rfl ?_); simp only [putL, List.set_cons_zero, List.set_cons_succ]) | refine Goes.yes rfl ?_ | refine Goes.no rfl ?_)
      refine Goes.drawR [12] (by kernel_rfl) ?_
      refine via ?_
      ((first | refine qc1 rfl rfl fun K hK => ?_ | refine qc3 rfl rfl fun K hK => ?_); simp (disch := (first | omega | (simp only [sz] <;> omega) | fail)) only [go_sem]; refine ⟨_, _, gHazardN _ N T t 1 hN hT hlt (by decide), ?_⟩; (try simp only [go_sem]); with_reducible refine hK _ _ ?_; clear hK K)
      refine via ?_
      ((first | refine qp1 rfl rfl fun K hK => ?_ | refine qp3 rfl rfl fun K hK => ?_); simp (disch := (first | omega | (simp only [sz] <;> omega) | fail)) only [go_sem]; refine ⟨_, _, .load _ (acc_p hp hm) (acc_m hp hm) (by omega), ?_⟩; (try simp only [go_sem]); with_reducible refine hK _ _ ?_; clear hK K)
      rw [load_same, ld_w w1, acc_acc hne]
      refine viaF e7 ?_
      (refine RG.appE rfl rfl rfl rfl rfl (app_grow appT_int (gap_hi (i := 1)) rfl rfl rfl (cells_gap 2 rfl rfl (by decide)) rfl (by decide) (by omega)) (by simp (disch := (first | omega | (simp only [sz] <;> omega) | fail)) only [go_sem]; (try simp only [sz]); unfold VB; omega) fun K hK => ?_; simp (disch := (first | omega | (simp only [sz] <;> omega) | fail)) only [go_sem]; with_reducible refine hK _ _ ?_; clear hK K)
      repeat (first | refine Goes.reg ?_ | refine Goes.ctl2 rfl ?_ | ((first | refine qv1 rfl rfl rfl fun K hK => ?_ | refine qv3 rfl rfl rfl fun K hK => ?_ | refine qv2 rfl rfl rfl rfl rfl rfl fun K hK => ?_ | refine qv4 rfl rfl rfl rfl rfl rfl fun K hK => ?_); simp (disch := (first | omega | (simp only [sz] <;> omega) | fail)) only [go_sem]; with_reducible refine hK _ _ ?_; clear hK K) | refine At.nil rfl ?_ | refine RG.nil rfl ?_ | ((first | refine AtL.skipg rfl rfl rfl rfl rfl ?_ | refine RGL.skipg rfl rfl rfl rfl rfl ?_ | refine AtL.skipu rfl rfl rfl rfl ?_ | refine RGL.skipu rfl rfl rfl rfl ?_); simp only [putL, List.set_cons_zero, List.set_cons_succ]) | refine Goes.yes rfl ?_ | refine Goes.no rfl ?_)
      refine Goes.inLoop ?_
      repeat (first | refine Goes.reg ?_ | refine Goes.ctl2 rfl ?_ | ((first | refine qv1 rfl rfl rfl fun K hK => ?_ | refine qv3 rfl rfl rfl fun K hK => ?_ | refine qv2 rfl rfl rfl rfl rfl rfl fun K hK => ?_ | refine qv4 rfl rfl rfl rfl rfl rfl fun K hK => ?_); simp (disch := (first | omega | (simp only [sz] <;> omega) | fail)) only [go_sem]; with_reducible refine hK _ _ ?_; clear hK K) | refine At.nil rfl ?_ | refine RG.nil rfl ?_ | ((first | refine AtL.skipg rfl rfl rfl rfl rfl ?_ | refine RGL.skipg rfl rfl rfl rfl rfl ?_ | refine AtL.skipu rfl rfl rfl rfl ?_ | refine RGL.skipu rfl rfl rfl rfl ?_); simp only [putL, List.set_cons_zero, List.set_cons_succ]) | refine Goes.yes rfl ?_ | refine Goes.no rfl ?_)
      refine Goes.forgetS [_, _, _] [_] ?_ (by simp only [List.length_cons, List.length_nil]; omega)
      exact ih _ _ _ _ (by omega) ⟨t + 1, steps + 2 * t + 1 + 1, _, _, _, rfl, by omega, by omega, by simp only [List.length_cons, List.length_nil]; omega, by simp only [List.length_cons, List.length_nil]; omega, rfl, .inr ⟨_, by rw [hzl_len]; omega, by omega, rfl, by rw [hzl_succ, hn0]; rfl⟩, rfl, rfl, rfl, rfl, rfl, rfl, rfl⟩
    · have hn2 : n ≤ 128 := by have := hzl_len H t; omega
      refine Goes.drawR [12] (by kernel_rfl) ?_
      refine via ?_
      ((first | refine qc1 rfl rfl fun K hK => ?_ | refine qc3 rfl rfl fun K hK => ?_); simp (disch := (first | omega | (simp only [sz] <;> omega) | fail)) only [go_sem]; refine ⟨_, _, gHazardN _ N T t 0 hN hT hlt (by decide), ?_⟩; (try simp only [go_sem]); with_reducible refine hK _ _ ?_; clear hK K)
      refine via ?_
      ((first | refine qp1 rfl rfl fun K hK => ?_ | refine qp3 rfl rfl fun K hK => ?_); simp (disch := (first | omega | (simp only [sz] <;> omega) | fail)) only [go_sem]; refine ⟨_, _, .load _ (acc_p hp hm) (acc_m hp hm) (by omega), ?_⟩; (try simp only [go_sem]); with_reducible refine hK _ _ ?_; clear hK K)
      rw [load_same, ld_w w0, acc_acc hne]
      refine viaF e6 ?_
      (refine RG.appE rfl rfl rfl rfl rfl (app_grow appT_int gap_hi0 rfl rfl (by simp [numRow]; omega) (cells_gap 1 rfl rfl (by decide)) rfl (by decide) (by omega)) (by simp (disch := (first | omega | (simp only [sz] <;> omega) | fail)) only [go_sem]; (try simp only [sz]); unfold VB; omega) fun K hK => ?_; simp (disch := (first | omega | (simp only [sz] <;> omega) | fail)) only [go_sem]; with_reducible refine hK _ _ ?_; clear hK K)
      repeat (first | refine Goes.reg ?_ | refine Goes.ctl2 rfl ?_ | ((first | refine qv1 rfl rfl rfl fun K hK => ?_ | refine qv3 rfl rfl rfl fun K hK => ?_ | refine qv2 rfl rfl rfl rfl rfl rfl fun K hK => ?_ | refine qv4 rfl rfl rfl rfl rfl rfl fun K hK => ?_); simp (disch := (first | omega | (simp only [sz] <;> omega) | fail)) only [go_sem]; with_reducible refine hK _ _ ?_; clear hK K) | refine At.nil rfl ?_ | refine RG.nil rfl ?_ | ((first | refine AtL.skipg rfl rfl rfl rfl rfl ?_ | refine RGL.skipg rfl rfl rfl rfl rfl ?_ | refine AtL.skipu rfl rfl rfl rfl ?_ | refine RGL.skipu rfl rfl rfl rfl ?_); simp only [putL, List.set_cons_zero, List.set_cons_succ]) | refine Goes.yes rfl ?_ | refine Goes.no rfl ?_)
      refine Goes.inLoop ?_
      repeat (first | refine Goes.reg ?_ | refine Goes.ctl2 rfl ?_ | ((first | refine qv1 rfl rfl rfl fun K hK => ?_ | refine qv3 rfl rfl rfl fun K hK => ?_ | refine qv2 rfl rfl rfl rfl rfl rfl fun K hK => ?_ | refine qv4 rfl rfl rfl rfl rfl rfl fun K hK => ?_); simp (disch := (first | omega | (simp only [sz] <;> omega) | fail)) only [go_sem]; with_reducible refine hK _ _ ?_; clear hK K) | refine At.nil rfl ?_ | refine RG.nil rfl ?_ | ((first | refine AtL.skipg rfl rfl rfl rfl rfl ?_ | refine RGL.skipg rfl rfl rfl rfl rfl ?_ | refine AtL.skipu rfl rfl rfl rfl ?_ | refine RGL.skipu rfl rfl rfl rfl ?_); simp only [putL, List.set_cons_zero, List.set_cons_succ]) | refine Goes.yes rfl ?_ | refine Goes.no rfl ?_)
      refine Goes.drawR [12] (by kernel_rfl) ?_
      refine via ?_
      ((first | refine qc1 rfl rfl fun K hK => ?_ | refine qc3 rfl rfl fun K hK => ?_); simp (disch := (first | omega | (simp only [sz] <;> omega) | fail)) only [go_sem]; refine ⟨_, _, gHazardN _ N T t 1 hN hT hlt (by decide), ?_⟩; (try simp only [go_sem]); with_reducible refine hK _ _ ?_; clear hK K)
      refine via ?_
      ((first | refine qp1 rfl rfl fun K hK => ?_ | refine qp3 rfl rfl fun K hK => ?_); simp (disch := (first | omega | (simp only [sz] <;> omega) | fail)) only [go_sem]; refine ⟨_, _, .load _ (acc_p hp hm) (acc_m hp hm) (by omega), ?_⟩; (try simp only [go_sem]); with_reducible refine hK _ _ ?_; clear hK K)
      rw [load_same, ld_w w1, acc_acc hne]
      refine viaF e7 ?_
      (refine RG.appE rfl rfl rfl rfl rfl (app_grow appT_int (gap_hi (i := 2)) rfl rfl (by simp [numRow]; omega) (cells_gap 3 rfl rfl (by decide)) rfl (by decide) (by omega)) (by simp (disch := (first | omega | (simp only [sz] <;> omega) | fail)) only [go_sem]; (try simp only [sz]); unfold VB; omega) fun K hK => ?_; simp (disch := (first | omega | (simp only [sz] <;> omega) | fail)) only [go_sem]; with_reducible refine hK _ _ ?_; clear hK K)
      repeat (first | refine Goes.reg ?_ | refine Goes.ctl2 rfl ?_ | ((first | refine qv1 rfl rfl rfl fun K hK => ?_ | refine qv3 rfl rfl rfl fun K hK => ?_ | refine qv2 rfl rfl rfl rfl rfl rfl fun K hK => ?_ | refine qv4 rfl rfl rfl rfl rfl rfl fun K hK => ?_); simp (disch := (first | omega | (simp only [sz] <;> omega) | fail)) only [go_sem]; with_reducible refine hK _ _ ?_; clear hK K) | refine At.nil rfl ?_ | refine RG.nil rfl ?_ | ((first | refine AtL.skipg rfl rfl rfl rfl rfl ?_ | refine RGL.skipg rfl rfl rfl rfl rfl ?_ | refine AtL.skipu rfl rfl rfl rfl ?_ | refine RGL.skipu rfl rfl rfl rfl ?_); simp only [putL, List.set_cons_zero, List.set_cons_succ]) | refine Goes.yes rfl ?_ | refine Goes.no rfl ?_)
      refine Goes.inLoop ?_
      repeat (first | refine Goes.reg ?_ | refine Goes.ctl2 rfl ?_ | ((first | refine qv1 rfl rfl rfl fun K hK => ?_ | refine qv3 rfl rfl rfl fun K hK => ?_ | refine qv2 rfl rfl rfl rfl rfl rfl fun K hK => ?_ | refine qv4 rfl rfl rfl rfl rfl rfl fun K hK => ?_); simp (disch := (first | omega | (simp only [sz] <;> omega) | fail)) only [go_sem]; with_reducible refine hK _ _ ?_; clear hK K) | refine At.nil rfl ?_ | refine RG.nil rfl ?_ | ((first | refine AtL.skipg rfl rfl rfl rfl rfl ?_ | refine RGL.skipg rfl rfl rfl rfl rfl ?_ | refine AtL.skipu rfl rfl rfl rfl ?_ | refine RGL.skipu rfl rfl rfl rfl ?_); simp only [putL, List.set_cons_zero, List.set_cons_succ]) | refine Goes.yes rfl ?_ | refine Goes.no rfl ?_)
      refine Goes.forgetS [_, _, _, _] [_] ?_ (by simp only [List.length_cons, List.length_nil]; omega)
      exact ih _ _ _ _ (by omega) ⟨t + 1, steps + 2 * t + 1 + 1, _, _, _, rfl, by omega, by omega, by simp only [List.length_cons, List.length_nil]; omega, by simp only [List.length_cons, List.length_nil]; omega, rfl, .inr ⟨_, by rw [hzl_len, ← hn, hzl_len]; omega, by omega, rfl, by rw [hzl_succ, ← numRow_app, ← numRow_app]; rfl⟩, rfl, rfl, rfl, rfl, rfl, rfl, rfl⟩
  · obtain rfl : t = T := by omega
    rcases hY with ⟨hn0, _, _⟩ | ⟨n, rfl, hn1, rfl, rfl⟩
    · have := hzl_len H t; rw [hn0, List.length_nil] at this; omega
    obtain ⟨V, hV, hT⟩ := frame_lit hl; replace hT : _ = ([V 0, V 1, V 2, V 3, V 4, V 5, V 6, V 7, V 8, V 9, V 10, V 11, V 12, V 13, V 14, V 15, V 16, V 17, V 18, V 19, V 20, V 21, V 22, V 23, V 24, V 25, V 26, V 27, V 28, V 29, V 30, V 31, V 32, V 33, V 34, V 35, V 36, V 37, V 38, V 39, V 40, V 41, V 42, V 43, V 44, V 45, V 46, V 47, V 48, V 49, V 50, V 51, V 52, V 53, V 54, V 55, V 56, V 57, V 58, V 59, V 60, V 61, V 62, V 63, V 64, V 65, V 66, V 67, V 68, V 69, V 70, V 71, V 72, V 73, V 74, V 75, V 76, V 77, V 78, V 79, V 80, V 81, V 82, V 83, V 84, V 85, V 86, V 87, V 88, V 89, V 90, V 91, V 92, V 93, V 94, V 95, V 96, V 97, V 98, V 99, V 100, V 101, V 102, V 103, V 104, V 105, V 106, V 107] : List Value) := hT; rw [hV] at f0 f3 f4 f23 f24; subst hT; simp only [f0, f3, f4, f23, f24]; clear hV hl
    have hlm := hlen me hme
    have hw15 : wAt ws (gat N t 15 (me : Int)) = some (UInt64.ofNat (G me).length) := by rw [hW 15 me (by decide) (by show me < t; omega), hP.gn me hme (by omega)]
    have e8 : IntKind.i64.wrap ((UInt64.ofNat (G me).length).toNat : Int) = ((G me).length : Int) := nat_i64 (by omega)
    refine via ?_
    ((first | refine qp1 rfl rfl fun K hK => ?_ | refine qp3 rfl rfl fun K hK => ?_); simp (disch := (first | omega | (simp only [sz] <;> omega) | fail)) only [go_sem]; refine ⟨_, _, .self (acc_p hp hm), ?_⟩; (try simp only [go_sem]); with_reducible refine hK _ _ ?_; clear hK K)
    refine via ?_
    ((first | refine qp1 rfl rfl fun K hK => ?_ | refine qp3 rfl rfl fun K hK => ?_); simp (disch := (first | omega | (simp only [sz] <;> omega) | fail)) only [go_sem]; refine ⟨_, _, qpu fun w => gGone_any N t me w hN hT, ?_⟩; (try simp only [go_sem]); with_reducible refine hK _ _ ?_; clear hK K)
    refine via ?_
    ((first | refine qp1 rfl rfl fun K hK => ?_ | refine qp3 rfl rfl fun K hK => ?_); simp (disch := (first | omega | (simp only [sz] <;> omega) | fail)) only [go_sem]; refine ⟨_, _, .load _ (acc_p hp hm) (acc_m hp hm) (by omega), ?_⟩; (try simp only [go_sem]); with_reducible refine hK _ _ ?_; clear hK K)
    rw [load_same, ld_w hw15, acc_acc hne]
    refine viaF e8 ?_
    obtain ⟨n0, hn0⟩ : ∃ n0, n0 = (G me).length := ⟨_, rfl⟩
    rw [← hn0]
    refine Goes.wh (fun z tmps h S' => ∃ (k q' st vr : Nat) (Kp F : List Nat) (wk : List UInt64) (Wk : Nat → Nat → UInt64) (zs : List (Option Blk)), z = n0 - k ∧ k ≤ n0 ∧ st ≤ steps + 2 * t + 1 + 4 * k ∧ q' ≤ 4 * k ∧ S' = accS S p m me st wk bs ∧ ScanIn N t W free ver H G me (hzl H t) k Kp F vr wk Wk ∧ zs.length = q' ∧
        h = heapJ [some { cells := (geoC N t).toList, elem := 24 }, some { cells := [.int .i64 (gat N t 15 (me : Int))], elem := 3 }] q (some { cells := numRow .i64 (hzl H t), elem := 3, grow := some 1 } :: zs) ∧ tmps.length = 108 ∧
        tmps.getD 0 undef = prtV p ∧ tmps.getD 3 undef = .pointer (some ⟨0, 0, none⟩) ∧ tmps.getD 4 undef = .slice (some ⟨q, 0, none⟩) (hzl H t).length (hzl H t).length ∧ tmps.getD 7 undef = .int .i64 Kp.length ∧ tmps.getD 54 undef = .int .i64 n0 ∧ tmps.getD 55 undef = .int .i64 k) (m := n0)
        ⟨0, 0, steps + 2 * t + 1, ver, [], free, ws, W, [], rfl, by omega, by omega, by omega, rfl, ScanIn.start hW hP hme, rfl, rfl, rfl, rfl, rfl, rfl, rfl, rfl, rfl⟩ ?_
    rintro z tmps h S' ih ⟨k, q', st, vr, Kp, F, wk, Wk, zs, rfl, hk, hst', hq', rfl, hI, hzs, rfl, hl, f0, f3, f4, f7, f54, f55⟩
    obtain ⟨V, hV, hT⟩ := frame_lit hl; replace hT : _ = ([V 0, V 1, V 2, V 3, V 4, V 5, V 6, V 7, V 8, V 9, V 10, V 11, V 12, V 13, V 14, V 15, V 16, V 17, V 18, V 19, V 20, V 21, V 22, V 23, V 24, V 25, V 26, V 27, V 28, V 29, V 30, V 31, V 32, V 33, V 34, V 35, V 36, V 37, V 38, V 39, V 40, V 41, V 42, V 43, V 44, V 45, V 46, V 47, V 48, V 49, V 50, V 51, V 52, V 53, V 54, V 55, V 56, V 57, V 58, V 59, V 60, V 61, V 62, V 63, V 64, V 65, V 66, V 67, V 68, V 69, V 70, V 71, V 72, V 73, V 74, V 75, V 76, V 77, V 78, V 79, V 80, V 81, V 82, V 83, V 84, V 85, V 86, V 87, V 88, V 89, V 90, V 91, V 92, V 93, V 94, V 95, V 96, V 97, V 98, V 99, V 100, V 101, V 102, V 103, V 104, V 105, V 106, V 107] : List Value) := hT; rw [hV] at f0 f3 f4 f7 f54 f55; subst hT; simp only [f0, f3, f4, f7, f54, f55]; clear hV hl
    by_cases hlt2 : k < n0
    · obtain ⟨x, hx⟩ : ∃ x, (G me)[k]? = some x := ⟨_, List.getElem?_eq_getElem (by omega)⟩
      have hle := hI.le
      have hcell : ∀ j, j ≤ k → me * (2 * t + 2) + j < gsz N t 16 := fun j hj => by
        show me * (2 * t + 2) + j < t * (2 * t + 2)
        have : (me + 1) * (2 * t + 2) ≤ t * (2 * t + 2) := Nat.mul_le_mul_right _ hme
        rw [Nat.add_mul] at this; omega
      have hxr : 1 ≤ x ∧ x ≤ gM N t := hP.rng x (List.mem_append.2 (.inr (mem_flat hme (List.mem_of_getElem? hx))))
      have hM := gM_lt hN hT
      have hwx : wAt wk (gat N t 16 ((me * (2 * t + 2) + k : Nat) : Int)) = some (UInt64.ofNat x) := by rw [hI.wd 16 _ (by decide) (hcell k (Nat.le_refl _)), hI.high k x (Nat.le_refl _) hx]
      have e9 : (gat N t 16 ((me * (2 * t + 2) + k : Nat) : Int) == -1) = false   := ne_m1' (by rw [gat_of hN1 (hcell k (Nat.le_refl _))]; omega)
      have e10 : IntKind.i64.wrap ((UInt64.ofNat x).toNat : Int) = (x : Int) := nat_i64 (by omega)
      refine via ?_
      ((first | refine qp1 rfl rfl fun K hK => ?_ | refine qp3 rfl rfl fun K hK => ?_); simp (disch := (first | omega | (simp only [sz] <;> omega) | fail)) only [go_sem]; refine ⟨_, _, .self (acc_p hp hm), ?_⟩; (try simp only [go_sem]); with_reducible refine hK _ _ ?_; clear hK K)
      refine via ?_
      ((first | refine qc1 rfl rfl fun K hK => ?_ | refine qc3 rfl rfl fun K hK => ?_); simp (disch := (first | omega | (simp only [sz] <;> omega) | fail)) only [go_sem]; refine ⟨_, _, gRetiredN _ N t me k hN hT hme (by omega), ?_⟩; (try simp only [go_sem]); with_reducible refine hK _ _ ?_; clear hK K)
      refine viaF e9 ?_
      ((first | refine qp1 rfl rfl fun K hK => ?_ | refine qp3 rfl rfl fun K hK => ?_); simp (disch := (first | omega | (simp only [sz] <;> omega) | fail)) only [go_sem]; refine ⟨_, _, .self (acc_p hp hm), ?_⟩; (try simp only [go_sem]); with_reducible refine hK _ _ ?_; clear hK K)
      refine via ?_
      ((first | refine qc1 rfl rfl fun K hK => ?_ | refine qc3 rfl rfl fun K hK => ?_); simp (disch := (first | omega | (simp only [sz] <;> omega) | fail)) only [go_sem]; refine ⟨_, _, gRetiredN _ N t me k hN hT hme (by omega), ?_⟩; (try simp only [go_sem]); with_reducible refine hK _ _ ?_; clear hK K)
      refine via ?_
      ((first | refine qp1 rfl rfl fun K hK => ?_ | refine qp3 rfl rfl fun K hK => ?_); simp (disch := (first | omega | (simp only [sz] <;> omega) | fail)) only [go_sem]; refine ⟨_, _, .load _ (acc_p hp hm) (acc_m hp hm) (by omega), ?_⟩; (try simp only [go_sem]); with_reducible refine hK _ _ ?_; clear hK K)
      rw [load_same, ld_w hwx, acc_acc hne]
      refine viaF e10 ?_
      (refine qx1 [q] rfl rfl fun K hK => ?_; simp (disch := (first | omega | (simp only [sz] <;> omega) | fail)) only [go_sem]; refine ⟨_, _, _, _, _, _, contains_any _ (hzl H t) x (by rw [hzl_len]; omega), by first | rfl | simp (disch := (first | omega | (simp only [sz] <;> omega) | fail)) only [go_sem], by ((repeat ((first | refine ⟨⟨_, rfl, rfl, ?_, (by first | exact .inr rfl | exact .inl rfl), (by first | exact fun h => h | exact fun _ => rfl | (intro h; cases h))⟩, ?_⟩ | refine ⟨⟨_, gap_hi0, rfl, ?_, (by first | exact .inr rfl | exact .inl rfl), (by first | exact fun h => h | exact fun _ => rfl | (intro h; cases h))⟩, ?_⟩); · first | exact plain_map (by assumption) | exact plain_map numRow_plain | exact plain_map (by simp [plainB]; done) | simp [up_0, up_1, up_2, up_00, up_base, up_slack, adr])); exact trivial), rfl, rfl, rfl, by simp only [sz, List.length_cons, List.length_nil] <;> omega, ?_⟩; (try simp only [go_sem]); with_reducible refine hK _ _ ?_; clear hK K)
      have e12 : IntKind.u64.wrap (x : Int) = ((UInt64.ofNat x).toNat : Int) := u64_i (by omega)
      have hfl : (((G me).take k).filter fun x => !safeB (hzl H t) x).length ≤ k := Nat.le_trans (List.length_filter_le _ _) (by rw [List.length_take]; omega)
      have hvr := hI.ver
      rw [show decide ((x : Int) ∈ hzl H t) = safeB (hzl H t) x from rfl]
      cases hs : safeB (hzl H t) x with
      | true =>
        refine via ?_
        ((first | refine qp1 rfl rfl fun K hK => ?_ | refine qp3 rfl rfl fun K hK => ?_); simp (disch := (first | omega | (simp only [sz] <;> omega) | fail)) only [go_sem]; refine ⟨_, _, .self (acc_p hp hm), ?_⟩; (try simp only [go_sem]); with_reducible refine hK _ _ ?_; clear hK K)
        refine via ?_
        ((first | refine qc1 rfl rfl fun K hK => ?_ | refine qc3 rfl rfl fun K hK => ?_); simp (disch := (first | omega | (simp only [sz] <;> omega) | fail)) only [go_sem]; refine ⟨_, _, gRetiredN _ N t me Kp.length hN hT hme (by omega), ?_⟩; (try simp only [go_sem]); with_reducible refine hK _ _ ?_; clear hK K)
        refine viaF e12 ?_
        ((first | refine qp1 rfl rfl fun K hK => ?_ | refine qp3 rfl rfl fun K hK => ?_); simp (disch := (first | omega | (simp only [sz] <;> omega) | fail)) only [go_sem]; refine ⟨_, _, .store _ (UInt64.ofNat x) (acc_p hp hm) (acc_m hp hm) (by omega), ?_⟩; (try simp only [go_sem]); with_reducible refine hK _ _ ?_; clear hK K)
        rw [acc_acc hne]
        refine via ?_
        exact ih _ _ _ _ (by omega) ⟨k + 1, q', st + 1 + 1, vr, Kp ++ [x], F, _, _, zs, rfl, by omega, by omega, by omega, rfl, hI.keep hN1 hme hlen hx hs, hzs, rfl, rfl, rfl, rfl, rfl, by simp only [List.getD_cons_succ, List.getD_cons_zero, List.length_append, List.length_singleton]; rfl, rfl, rfl⟩
      | false =>
        obtain ⟨hgr, hI2⟩ := hI.gives hN1 hme hx hs
        refine via ?_
        ((first | refine qc1 rfl rfl fun K hK => ?_ | refine qc3 rfl rfl fun K hK => ?_); simp (disch := (first | omega | (simp only [sz] <;> omega) | fail)) only [go_sem]; refine ⟨_, _, give_does _ p m me _ _ bs N t (acc_p hp hm) (acc_m hp hm) (by omega) hN1 hN hT hI.wd (by omega) hI.pl.top (hI.pl.head (by omega)) hgr.1 hgr.2, ?_⟩; (try simp only [go_sem]); with_reducible refine hK _ _ ?_; clear hK K)
        rw [acc_acc hne]
        refine via ?_
        exact ih _ _ _ _ (by omega) ⟨k + 1, q', st + 1 + 3, vr + 1, Kp, x :: F, _, _, zs, rfl, by omega, by omega, by omega, rfl, hI2, hzs, rfl, rfl, rfl, rfl, rfl, rfl, rfl, rfl⟩
    · obtain rfl : k = n0 := by omega
      have e11 : IntKind.u64.wrap (Kp.length : Int) = ((UInt64.ofNat Kp.length).toNat : Int) := u64_i (by have := hI.le; omega)
      refine via ?_
      ((first | refine qp1 rfl rfl fun K hK => ?_ | refine qp3 rfl rfl fun K hK => ?_); simp (disch := (first | omega | (simp only [sz] <;> omega) | fail)) only [go_sem]; refine ⟨_, _, .self (acc_p hp hm), ?_⟩; (try simp only [go_sem]); with_reducible refine hK _ _ ?_; clear hK K)
      refine via ?_
      ((first | refine qp1 rfl rfl fun K hK => ?_ | refine qp3 rfl rfl fun K hK => ?_); simp (disch := (first | omega | (simp only [sz] <;> omega) | fail)) only [go_sem]; refine ⟨_, _, qpu fun w => gGone_any N t me w hN hT, ?_⟩; (try simp only [go_sem]); with_reducible refine hK _ _ ?_; clear hK K)
      refine viaF e11 ?_
      ((first | refine qp1 rfl rfl fun K hK => ?_ | refine qp3 rfl rfl fun K hK => ?_); simp (disch := (first | omega | (simp only [sz] <;> omega) | fail)) only [go_sem]; refine ⟨_, _, .store _ (UInt64.ofNat Kp.length) (acc_p hp hm) (acc_m hp hm) (by omega), ?_⟩; (try simp only [go_sem]); with_reducible refine hK _ _ ?_; clear hK K)
      rw [acc_acc hne]
      refine via ?_
      refine Goes.finE rfl (by simp (disch := (first | omega | (simp only [heapL_next, List.length_cons, List.length_nil, List.size_toArray, geo_len] <;> omega) | fail)) only [go_sem, resA, res1A, Try.results124] <;> rfl) ?_
      exact ⟨rfl, st + 1, _, _, Kp, F, vr, by omega, rfl, hI.ends hN1 hme (by omega)⟩
end Go.Proofs.Ytjdbknnacaacaaa
namespace Go.Proofs.Ytjdbknnacaacaaa
open Go Go.RowKit
set_option linter.unusedSimpArgs false
set_option linter.unusedVariables false
theorem nodup_le : ∀ {l m : List Nat}, l.Nodup → (∀ x ∈ l, x ∈ m) → l.length ≤ m.length
  | [], _, _, _ => by simp
  | x :: l, m, hn, h => by
    rw [List.nodup_cons] at hn
    have hx := h x (by simp)
    have h1 := List.length_erase_of_mem hx
    have h2 := nodup_le (l := l) (m := m.erase x) hn.2 fun y hy => by
      have hne : y ≠ x := fun e => hn.1 (e ▸ hy)
      exact (List.mem_erase_of_ne hne).2 (h y (by simp [hy]))
    have h3 := List.length_pos_of_mem hx
    simp only [List.length_cons]; omega
def hzN (H : Nat → Nat → Nat) (T : Nat) : List Nat := (List.range T).flatMap fun t => [H t 0, H t 1]
theorem hzN_len (H : Nat → Nat → Nat) (T : Nat) : (hzN H T).length = 2 * T := by
  unfold hzN
  induction T with
  | zero => rfl
  | succ t ih => rw [List.range_succ, List.flatMap_append, List.length_append, ih]; simp; omega
theorem safe_mem {H : Nat → Nat → Nat} {T x : Nat} : safeB (hzl H T) x = true ↔ x ∈ hzN H T := by
  unfold safeB hzl hzN
  rw [decide_eq_true_eq, List.mem_flatMap, List.mem_flatMap]
  constructor
  · rintro ⟨t, ht, hx⟩
    exact ⟨t, ht, by simp only [List.mem_cons, List.not_mem_nil, or_false] at hx ⊢; omega⟩
  · rintro ⟨t, ht, hx⟩
    exact ⟨t, ht, by simp only [List.mem_cons, List.not_mem_nil, or_false] at hx ⊢; omega⟩
theorem kept_le {H : Nat → Nat → Nat} {T : Nat} {l : List Nat} (hn : l.Nodup) : (l.filter (safeB (hzl H T))).length ≤ 2 * T := by
  rw [← hzN_len H T]
  exact nodup_le (hn.sublist List.filter_sublist) fun x hx => safe_mem.1 (List.mem_filter.1 hx).2
theorem gNx_of {N T x : Nat} (hN : 1 ≤ N) (h1 : 1 ≤ x) (h2 : x ≤ gM N T) : gat N T 17 ((x - 1 : Nat) : Int) = ((gb N T 17 + (x - 1) : Nat) : Int) := gat_of hN (by show x - 1 < gM N T; omega)
def RetEnd (N T : Nat) (W : Nat → Nat → UInt64) (free : List Nat) (ver : Nat) (H : Nat → Nat → Nat) (G : Nat → List Nat) (me x : Nat) (ws' : List UInt64) (W' : Nat → Nat → UInt64) (K F : List Nat) (vr : Nat) : Prop :=
  ((G me).length + 1 ≤ 2 * T ∧ K = G me ++ [x] ∧ F = free ∧ vr = ver ∨
    2 * T < (G me).length + 1 ∧ K = (G me ++ [x]).filter (safeB (hzl H T)) ∧ F = ((G me ++ [x]).filter fun x => !safeB (hzl H T) x).reverse ++ free ∧ vr = ver + ((G me ++ [x]).filter fun x => !safeB (hzl H T) x).length) ∧
    Wd N T ws' W' ∧ Pl N T W' F vr H (upG G me K) T ∧ ∀ r n, r ≠ 4 → r ≠ 15 → r ≠ 16 → (r = 17 → n + 1 ∉ G me ++ [x]) → W' r n = W r n
set_option maxHeartbeats 1000000 in
theorem retire_none (S : St) (p m me : Nat) (steps : Nat) (N T : Nat) (x : Int) (hp : S[p]? = some (.port m me steps)) (hN1 : 1 ≤ N) (hN : N ≤ 256) (hT : T ≤ 64) (hl : -9223372036854775808 ≤ x) (hx : x ≤ 9223372036854775807) (h : ¬ (1 ≤ x ∧ x ≤ gM N T)) :
    Does OF 75 #[prtV p, .agg (geoC N T), .int .i64 x] [] S (.tuple #[]) S := by
  refine Does.mk Try.func75 rfl rfl ?clo ?hand ?_
  case clo => exact clo3 (pclo (hlt_of hp)) gclo iclo
  case hand => exact Hand.plain (by simp [plainB])
  rw [Try.ntmps75]; simp only [List.size_toArray, List.length_cons, List.length_nil, List.replicate, List.cons_append, List.nil_append]
  have e3 : decide ((-1 : Int) ∈ [gat N T 15 (me : Int), -1]) = true := by simp
  refine via ?_
  ((first | refine qp1 rfl rfl fun K hK => ?_ | refine qp3 rfl rfl fun K hK => ?_); simp (disch := (first | omega | (simp only [sz] <;> omega) | fail)) only [go_sem]; refine ⟨_, _, .self hp, ?_⟩; (try simp only [go_sem]); with_reducible refine hK _ _ ?_; clear hK K)
  refine via ?_
  ((first | refine qp1 rfl rfl fun K hK => ?_ | refine qp3 rfl rfl fun K hK => ?_); simp (disch := (first | omega | (simp only [sz] <;> omega) | fail)) only [go_sem]; refine ⟨_, _, qpu fun w => gGone_any N T me w hN hT, ?_⟩; (try simp only [go_sem]); with_reducible refine hK _ _ ?_; clear hK K)
  refine via ?_
  ((first | refine qc1 rfl rfl fun K hK => ?_ | refine qc3 rfl rfl fun K hK => ?_); simp (disch := (first | omega | (simp only [sz] <;> omega) | fail)) only [go_sem]; refine ⟨_, _, gNextM S N T x hN1 hN hT hl hx h, ?_⟩; (try simp only [go_sem]); with_reducible refine hK _ _ ?_; clear hK K)
  refine via ?_
  ((first | refine qn5 rfl rfl fun K hK => ?_ | refine qn6 rfl rfl fun K hK => ?_); simp (disch := (first | omega | (simp only [sz] <;> omega) | fail)) only [go_sem]; with_reducible refine hK _ _ ?_; clear hK K)
  refine via ?_
  ((first | refine At.callX [1] rfl rfl rfl (by decide) rfl (fun K hK => ?_) | refine RG.callX [1] rfl rfl rfl rfl (by decide) (fun K hK => ?_)); simp (disch := (first | omega | (simp only [heapL_next, List.length_cons, List.length_nil, List.size_toArray, geo_len] <;> omega) | fail)) only [go_sem]; refine ⟨_, _, _, _, _, _, pnone S p m me steps N T [gat N T 15 (me : Int), -1] (by simp) hp hN1, by first | rfl | simp (disch := (first | omega | (simp only [heapL_next, List.length_cons, List.length_nil, List.size_toArray, geo_len] <;> omega) | fail)) only [go_sem], by ((repeat (refine ⟨⟨_, rfl, rfl, ?_, (by first | exact .inr rfl | exact .inl rfl), (by first | exact fun h => h | exact fun _ => rfl | (intro h; cases h))⟩, ?_⟩; · first | exact plain_map numRow_plain | (simp [up_prt]; done) | exact plain_map (by simp [plainB]; done) | simp [up_0, up_1, up_2, up_00, up_base, up_slack, adr])); exact trivial), by first | exact ⟨rfl, rfl⟩ | rfl, ?_⟩; (try simp only [go_sem]); (first | refine hK _ _ _ ?_ | refine hK _ _ _ _ ?_); clear hK K)
  rw [e3]
  refine via ?_
  refine Goes.fin rfl (by simp (disch := (first | omega | (simp only [heapL_next, List.length_cons, List.length_nil, List.size_toArray, geo_len] <;> omega) | fail)) only [go_sem, resA, res1A, Try.results75] <;> rfl) ?_
  rfl
set_option maxHeartbeats 2000000 in
theorem retire_does (S : St) (p m me : Nat) (steps : Nat) (ws : List UInt64) (bs : List UInt8) (N T x : Nat) {W : Nat → Nat → UInt64} {free : List Nat} {ver : Nat} {H : Nat → Nat → Nat} {G : Nat → List Nat} (hp : S[p]? = some (.port m me steps)) (hm : S[m]? = some (.mem ws bs)) (hst : steps ≤ 100000000) (hN1 : 1 ≤ N) (hN : N ≤ 256) (hT : T ≤ 64) (hme : me < T) (hW : Wd N T ws W) (hP : Pl N T W free ver H G T) (hlen : ∀ t, t < T → (G t).length ≤ 2 * T) (hv : ver + 1000 < 4294967296)
    (h1 : 1 ≤ x) (h2 : x ≤ gM N T) (hf : x ∉ free ++ flat T G) :
    ∃ v S', (v = .tuple #[] ∧ ∃ st' ws' W' K F vr, st' ≤ steps + 2000 ∧ S' = accS S p m me st' ws' bs ∧ RetEnd N T W free ver H G me x ws' W' K F vr) ∧ Does OF 75 #[prtV p, .agg (geoC N T), .int .i64 x] [] S v S' := by
  have hne := hne_of hp hm
  have hM := gM_lt hN hT
  have hlm := hlen me hme
  have hcell : me * (2 * T + 2) + (G me).length < gsz N T 16 := by
    show me * (2 * T + 2) + (G me).length < T * (2 * T + 2)
    have : (me + 1) * (2 * T + 2) ≤ T * (2 * T + 2) := Nat.mul_le_mul_right _ hme
    rw [Nat.add_mul] at this; omega
  have hw15 : wAt ws (gat N T 15 (me : Int)) = some (UInt64.ofNat (G me).length) := by rw [hW 15 me (by decide) (by show me < T; omega), hP.gn me hme (by omega)]
  have e8 : IntKind.i64.wrap ((UInt64.ofNat (G me).length).toNat : Int) = ((G me).length : Int) := nat_i64 (by omega)
  have e9 : (gat N T 16 ((me * (2 * T + 2) + (G me).length : Nat) : Int) == -1) = false := ne_m1' (by rw [gat_of hN1 hcell]; omega)
  have hg15 : (gat N T 15 (me : Int)) = ((gb N T 15 + me : Nat) : Int) := gat_of hN1 (by show me < T; omega)
  have e3 : decide ((-1 : Int) ∈ [gat N T 15 (me : Int), gat N T 17 ((x - 1 : Nat) : Int)]) = false := by
    rw [hg15, gNx_of hN1 h1 h2]; simp; omega
  have e10 : IntKind.u64.wrap (x : Int) = ((UInt64.ofNat x).toNat : Int) := u64_i (by omega)
  have e11 : IntKind.u64.wrap ((G me).length + 1 : Int) = ((UInt64.ofNat ((G me).length + 1)).toNat : Int) := u64_i (i := (G me).length + 1) (by omega)
  have hP2 := hP.retire hme hlen h1 h2 hf
  have hW2 := (hW.store hN1 (by decide) hcell (UInt64.ofNat x)).store hN1 (r := 15) (n := me) (by decide) (by show me < T; omega) (UInt64.ofNat ((G me).length + 1))
  refine Does.ex Try.func75 rfl rfl ?clo ?hand ?_
  case clo => exact clo3 (pclo (hlt_of hp)) gclo iclo
  case hand => rintro v S' ⟨rfl, _⟩; exact Hand.plain (by simp [plainB])
  rw [Try.ntmps75]; simp only [List.size_toArray, List.length_cons, List.length_nil, List.replicate, List.cons_append, List.nil_append]
  refine via ?_
  ((first | refine qp1 rfl rfl fun K hK => ?_ | refine qp3 rfl rfl fun K hK => ?_); simp (disch := (first | omega | (simp only [sz] <;> omega) | fail)) only [go_sem]; refine ⟨_, _, .self hp, ?_⟩; (try simp only [go_sem]); with_reducible refine hK _ _ ?_; clear hK K)
  refine via ?_
  ((first | refine qp1 rfl rfl fun K hK => ?_ | refine qp3 rfl rfl fun K hK => ?_); simp (disch := (first | omega | (simp only [sz] <;> omega) | fail)) only [go_sem]; refine ⟨_, _, qpu fun w => gGone_any N T me w hN hT, ?_⟩; (try simp only [go_sem]); with_reducible refine hK _ _ ?_; clear hK K)
  refine via ?_
  ((first | refine qc1 rfl rfl fun K hK => ?_ | refine qc3 rfl rfl fun K hK => ?_); simp (disch := (first | omega | (simp only [sz] <;> omega) | fail)) only [go_sem]; refine ⟨_, _, gNextN S N T x hN hT h1 h2, ?_⟩; (try simp only [go_sem]); with_reducible refine hK _ _ ?_; clear hK K)
  refine via ?_
  ((first | refine qn5 rfl rfl fun K hK => ?_ | refine qn6 rfl rfl fun K hK => ?_); simp (disch := (first | omega | (simp only [sz] <;> omega) | fail)) only [go_sem]; with_reducible refine hK _ _ ?_; clear hK K)
  refine via ?_
  ((first | refine At.callX [1] rfl rfl rfl (by decide) rfl (fun K hK => ?_) | refine RG.callX [1] rfl rfl rfl rfl (by decide) (fun K hK => ?_)); simp (disch := (first | omega | (simp only [heapL_next, List.length_cons, List.length_nil, List.size_toArray, geo_len] <;> omega) | fail)) only [go_sem]; refine ⟨_, _, _, _, _, _, pnone S p m me steps N T [gat N T 15 (me : Int), gat N T 17 ((x - 1 : Nat) : Int)] (by simp) hp hN1, by first | rfl | simp (disch := (first | omega | (simp only [heapL_next, List.length_cons, List.length_nil, List.size_toArray, geo_len] <;> omega) | fail)) only [go_sem], by ((repeat (refine ⟨⟨_, rfl, rfl, ?_, (by first | exact .inr rfl | exact .inl rfl), (by first | exact fun h => h | exact fun _ => rfl | (intro h; cases h))⟩, ?_⟩; · first | exact plain_map numRow_plain | (simp [up_prt]; done) | exact plain_map (by simp [plainB]; done) | simp [up_0, up_1, up_2, up_00, up_base, up_slack, adr])); exact trivial), by first | exact ⟨rfl, rfl⟩ | rfl, ?_⟩; (try simp only [go_sem]); (first | refine hK _ _ _ ?_ | refine hK _ _ _ _ ?_); clear hK K)
  rw [e3]
  refine via ?_
  ((first | refine qp1 rfl rfl fun K hK => ?_ | refine qp3 rfl rfl fun K hK => ?_); simp (disch := (first | omega | (simp only [sz] <;> omega) | fail)) only [go_sem]; refine ⟨_, _, .self hp, ?_⟩; (try simp only [go_sem]); with_reducible refine hK _ _ ?_; clear hK K)
  refine via ?_
  ((first | refine qp1 rfl rfl fun K hK => ?_ | refine qp3 rfl rfl fun K hK => ?_); simp (disch := (first | omega | (simp only [sz] <;> omega) | fail)) only [go_sem]; refine ⟨_, _, qpu fun w => gGone_any N T me w hN hT, ?_⟩; (try simp only [go_sem]); with_reducible refine hK _ _ ?_; clear hK K)
  refine via ?_
  ((first | refine qp1 rfl rfl fun K hK => ?_ | refine qp3 rfl rfl fun K hK => ?_); simp (disch := (first | omega | (simp only [sz] <;> omega) | fail)) only [go_sem]; refine ⟨_, _, .load _ hp hm (by omega), ?_⟩; (try simp only [go_sem]); with_reducible refine hK _ _ ?_; clear hK K)
  rw [load_same, ld_w hw15]
  refine viaF e8 ?_
  ((first | refine qp1 rfl rfl fun K hK => ?_ | refine qp3 rfl rfl fun K hK => ?_); simp (disch := (first | omega | (simp only [sz] <;> omega) | fail)) only [go_sem]; refine ⟨_, _, .self (acc_p hp hm), ?_⟩; (try simp only [go_sem]); with_reducible refine hK _ _ ?_; clear hK K)
  refine via ?_
  ((first | refine qc1 rfl rfl fun K hK => ?_ | refine qc3 rfl rfl fun K hK => ?_); simp (disch := (first | omega | (simp only [sz] <;> omega) | fail)) only [go_sem]; refine ⟨_, _, gRetiredN _ N T me (G me).length hN hT hme (by omega), ?_⟩; (try simp only [go_sem]); with_reducible refine hK _ _ ?_; clear hK K)
  refine viaF e9 ?_
  ((first | refine qp1 rfl rfl fun K hK => ?_ | refine qp3 rfl rfl fun K hK => ?_); simp (disch := (first | omega | (simp only [sz] <;> omega) | fail)) only [go_sem]; refine ⟨_, _, .self (acc_p hp hm), ?_⟩; (try simp only [go_sem]); with_reducible refine hK _ _ ?_; clear hK K)
  refine via ?_
  ((first | refine qc1 rfl rfl fun K hK => ?_ | refine qc3 rfl rfl fun K hK => ?_); simp (disch := (first | omega | (simp only [sz] <;> omega) | fail)) only [go_sem]; refine ⟨_, _, gRetiredN _ N T me (G me).length hN hT hme (by omega), ?_⟩; (try simp only [go_sem]); with_reducible refine hK _ _ ?_; clear hK K)
  refine viaF e10 ?_
  ((first | refine qp1 rfl rfl fun K hK => ?_ | refine qp3 rfl rfl fun K hK => ?_); simp (disch := (first | omega | (simp only [sz] <;> omega) | fail)) only [go_sem]; refine ⟨_, _, .store _ (UInt64.ofNat x) (acc_p hp hm) (acc_m hp hm) (by omega), ?_⟩; (try simp only [go_sem]); with_reducible refine hK _ _ ?_; clear hK K)
  rw [acc_acc hne]
  refine via ?_
  ((first | refine qp1 rfl rfl fun K hK => ?_ | refine qp3 rfl rfl fun K hK => ?_); simp (disch := (first | omega | (simp only [sz] <;> omega) | fail)) only [go_sem]; refine ⟨_, _, .self (acc_p hp hm), ?_⟩; (try simp only [go_sem]); with_reducible refine hK _ _ ?_; clear hK K)
  refine via ?_
  ((first | refine qp1 rfl rfl fun K hK => ?_ | refine qp3 rfl rfl fun K hK => ?_); simp (disch := (first | omega | (simp only [sz] <;> omega) | fail)) only [go_sem]; refine ⟨_, _, qpu fun w => gGone_any N T me w hN hT, ?_⟩; (try simp only [go_sem]); with_reducible refine hK _ _ ?_; clear hK K)
  refine viaF e11 ?_
  ((first | refine qp1 rfl rfl fun K hK => ?_ | refine qp3 rfl rfl fun K hK => ?_); simp (disch := (first | omega | (simp only [sz] <;> omega) | fail)) only [go_sem]; refine ⟨_, _, .store _ (UInt64.ofNat ((G me).length + 1)) (acc_p hp hm) (acc_m hp hm) (by omega), ?_⟩; (try simp only [go_sem]); with_reducible refine hK _ _ ?_; clear hK K)
  rw [acc_acc hne]
  refine via ?_
  ((first | refine qp1 rfl rfl fun K hK => ?_ | refine qp3 rfl rfl fun K hK => ?_); simp (disch := (first | omega | (simp only [sz] <;> omega) | fail)) only [go_sem]; refine ⟨_, _, qpu fun w => gThreads_any N T w, ?_⟩; (try simp only [go_sem]); with_reducible refine hK _ _ ?_; clear hK K)
  by_cases c : 2 * T < (G me).length + 1
  · have hlen2 : ∀ t, t < T → (upG G me (G me ++ [x]) t).length ≤ 2 * T + 1 := fun t ht => by
      by_cases e : t = me
      · subst e; rw [upG_eq, List.length_append, List.length_singleton]; omega
      · rw [upG_ne e]; have := hlen t ht; omega
    obtain ⟨v2, S2, ⟨rfl, s2, w2, W2, K2, F2, r2, hs2, rfl, q1, q2, q3, q4, q5, q6⟩, hd2⟩ := scan_does (accS S p m me (steps + 1 + 1 + 1) (wS 2 (gat N T 15 (me : Int)) (UInt64.ofNat ((G me).length + 1)) 0 (wS 2 (gat N T 16 ((me * (2 * T + 2) + (G me).length : Nat) : Int)) (UInt64.ofNat x) 0 ws)) bs) p m me _ _ bs N T (acc_p hp hm) (acc_m hp hm) (by omega) hN1 hN hT hme hW2 hP2 hlen2 hv
    rw [upG_eq] at q1 q2 q3 q6
    rw [upG_up] at q5
    refine via ?_
    ((first | refine qc1 rfl rfl fun K hK => ?_ | refine qc3 rfl rfl fun K hK => ?_); simp (disch := (first | omega | (simp only [sz] <;> omega) | fail)) only [go_sem]; refine ⟨_, _, hd2, ?_⟩; (try simp only [go_sem]); with_reducible refine hK _ _ ?_; clear hK K)
    rw [acc_acc hne]
    refine via ?_
    refine Goes.finE rfl (by simp (disch := (first | omega | (simp only [heapL_next, List.length_cons, List.length_nil, List.size_toArray, geo_len] <;> omega) | fail)) only [go_sem, resA, res1A, Try.results75] <;> rfl) ?_
    refine ⟨rfl, s2, w2, W2, K2, F2, r2, by omega, rfl, .inr ⟨c, q1, q2, q3⟩, q4, q5, fun r n h4 h15 h16 h17 => ?_⟩
    rw [q6 r n h4 h15 h16 h17, up2_r h15, up2_r h16]
  · refine via ?_
    refine Goes.finE rfl (by simp (disch := (first | omega | (simp only [heapL_next, List.length_cons, List.length_nil, List.size_toArray, geo_len] <;> omega) | fail)) only [go_sem, resA, res1A, Try.results75] <;> rfl) ?_
    refine ⟨rfl, _, _, _, _, _, _, by omega, rfl, .inl ⟨by omega, rfl, rfl, rfl⟩, hW2, hP2, fun r n h4 h15 h16 h17 => ?_⟩
    rw [up2_r h15, up2_r h16]
def upto (a n : Nat) : List Nat := List.range' a (n + 1 - a)
theorem upto_cons {a n : Nat} (h : a ≤ n) : upto a n = a :: upto (a + 1) n := by
  unfold upto
  rw [show n + 1 - a = (n + 1 - (a + 1)) + 1 by omega, List.range'_succ]
theorem upto_nil {a n : Nat} (h : n < a) : upto a n = [] := by unfold upto; rw [show n + 1 - a = 0 by omega]; rfl
theorem chn_upto {V : Nat → UInt64} {n : Nat} : ∀ {k a : Nat}, k = n + 1 - a → (∀ x, a ≤ x → x ≤ n → V (x - 1) = rU (if x = n then 0 else x + 1) false 0) → Chn V (upto a n)
  | 0, a, hk, h => by rw [upto_nil (by omega)]; trivial
  | k + 1, a, hk, h => by
    rw [upto_cons (by omega)]
    refine ⟨?_, chn_upto (k := k) (by omega) fun x h1 h2 => h x (by omega) h2⟩
    rw [h a (Nat.le_refl _) (by omega)]
    by_cases e : a = n
    · rw [if_pos e, upto_nil (by omega)]; rfl
    · rw [if_neg e, upto_cons (by omega)]; rfl
set_option maxHeartbeats 1000000 in
theorem pinit_does (S : St) (p m me : Nat) (steps : Nat) (ws : List UInt64) (bs : List UInt8) (N T : Nat) {W : Nat → Nat → UInt64} (hp : S[p]? = some (.port m me steps)) (hm : S[m]? = some (.mem ws bs)) (hst : steps ≤ 100000000) (hN1 : 1 ≤ N) (hN : N ≤ 256) (hT : T ≤ 64) (hT1 : 1 ≤ T) (hW : Wd N T ws W) (h14 : ∀ n, W 14 n = 0) (h15 : ∀ n, W 15 n = 0) :
    ∃ v S', (v = .tuple #[] ∧ ∃ st' ws' W', st' ≤ steps + 100000 ∧ S' = accS S p m me st' ws' bs ∧ Wd N T ws' W' ∧ Pl N T W' (upto 1 (gM N T)) 0 (fun _ _ => 0) (fun _ => []) T ∧ ∀ r n, r ≠ 4 → r ≠ 17 → W' r n = W r n) ∧ Does OF 65 #[prtV p, .agg (geoC N T)] [] S v S' := by
  have hne := hne_of hp hm
  have hM := gM_lt hN hT
  refine Does.ex Try.func65 rfl rfl ?clo ?hand ?_
  case clo => exact clo2 (pclo (hlt_of hp)) gclo
  case hand => rintro v S' ⟨rfl, _⟩; exact Hand.plain (by simp [plainB])
  rw [Try.ntmps65]; simp only [List.size_toArray, List.length_cons, List.length_nil, List.replicate, List.cons_append, List.nil_append]
  refine via ?_
  ((first | refine qc1 rfl rfl fun K hK => ?_ | refine qc3 rfl rfl fun K hK => ?_); simp (disch := (first | omega | (simp only [sz] <;> omega) | fail)) only [go_sem]; refine ⟨_, _, pnone0 S p m me steps N T hp hN1, ?_⟩; (try simp only [go_sem]); with_reducible refine hK _ _ ?_; clear hK K)
  repeat (first | refine Goes.reg ?_ | refine Goes.ctl2 rfl ?_ | ((first | refine qv1 rfl rfl rfl fun K hK => ?_ | refine qv3 rfl rfl rfl fun K hK => ?_ | refine qv2 rfl rfl rfl rfl rfl rfl fun K hK => ?_ | refine qv4 rfl rfl rfl rfl rfl rfl fun K hK => ?_); simp (disch := (first | omega | (simp only [sz] <;> omega) | fail)) only [go_sem]; with_reducible refine hK _ _ ?_; clear hK K) | refine At.nil rfl ?_ | refine RG.nil rfl ?_ | ((first | refine AtL.skipg rfl rfl rfl rfl rfl ?_ | refine RGL.skipg rfl rfl rfl rfl rfl ?_ | refine AtL.skipu rfl rfl rfl rfl ?_ | refine RGL.skipu rfl rfl rfl rfl ?_); simp only [putL, List.set_cons_zero, List.set_cons_succ]) | refine Goes.yes rfl ?_ | refine Goes.no rfl ?_)
  have hM1 : 1 ≤ gM N T := by
    have : 1 * 4 * (N + 1) ≤ T * 4 * (N + 1) := Nat.mul_le_mul_right _ (by omega)
    unfold gM; omega
  refine Goes.wh (fun z tmps h S' => ∃ (i q st : Nat) (wk : List UInt64) (Wk : Nat → Nat → UInt64), z = gM N T + 1 - i ∧ 1 ≤ i ∧ i ≤ gM N T + 1 ∧ st + 1 ≤ steps + i ∧ 1 ≤ q ∧ q ≤ 1 + 10 * i ∧ S' = accS S p m me st wk bs ∧ Wd N T wk Wk ∧ (∀ r n, r ≠ 17 → Wk r n = W r n) ∧ (∀ x, 1 ≤ x → x < i → Wk 17 (x - 1) = rU (if x = gM N T then 0 else x + 1) false 0) ∧
      h = heapJ [some { cells := (geoC N T).toList, elem := 24 }] q [] ∧ tmps.length = 42 ∧ tmps.getD 0 undef = prtV p ∧ tmps.getD 3 undef = .pointer (some ⟨0, 0, none⟩) ∧ tmps.getD 4 undef = .int .i64 i) (m := gM N T)
      ⟨1, 1, steps, ws, W, by omega, by omega, by omega, by omega, by omega, by omega, (acc_same hp hm).symm, hW, fun _ _ _ => rfl, fun x h1 h2 => by omega, gap_of _, rfl, rfl, rfl, rfl⟩ ?_
  rintro z tmps h S' ih ⟨i, q, st, wk, Wk, rfl, hi1, hi2, hst', hq1, hq2, rfl, hWk, hrest, hdone, rfl, hl, f0, f3, f4⟩
  obtain ⟨V, hV, hT⟩ := frame_lit hl; replace hT : _ = ([V 0, V 1, V 2, V 3, V 4, V 5, V 6, V 7, V 8, V 9, V 10, V 11, V 12, V 13, V 14, V 15, V 16, V 17, V 18, V 19, V 20, V 21, V 22, V 23, V 24, V 25, V 26, V 27, V 28, V 29, V 30, V 31, V 32, V 33, V 34, V 35, V 36, V 37, V 38, V 39, V 40, V 41] : List Value) := hT; rw [hV] at f0 f3 f4; subst hT; simp only [f0, f3, f4]; clear hV hl
  obtain ⟨M, hMM⟩ : ∃ M, M = gM N T := ⟨_, rfl⟩
  by_cases hlt : i ≤ gM N T
  · have hc : i - 1 < gsz N T 17 := by show i - 1 < gM N T; omega
    refine via ?_
    ((first | refine qp1 rfl rfl fun K hK => ?_ | refine qp3 rfl rfl fun K hK => ?_); simp (disch := (first | omega | (simp only [sz] <;> omega) | fail)) only [go_sem]; refine ⟨_, _, qpu fun w => gNodes_any N T w hN1 hN hT, ?_⟩; (try simp only [go_sem]); with_reducible refine hK _ _ ?_; clear hK K)
    have eiM : ((i : Int) == (gM N T : Int)) = decide (i = gM N T) := by rw [Bool.eq_iff_iff, beq_iff_eq, decide_eq_true_eq]; omega
    by_cases hiM : i = gM N T
    · have e1 : ((i : Int) == (gM N T : Int)) = true := by rw [eiM]; exact decide_eq_true hiM
      refine via ?_
      ((first | refine qp1 rfl rfl fun K hK => ?_ | refine qp3 rfl rfl fun K hK => ?_); simp (disch := (first | omega | (simp only [sz] <;> omega) | fail)) only [go_sem]; refine ⟨_, _, qpu fun w => gNodes_any N T w hN1 hN hT, ?_⟩; (try simp only [go_sem]); with_reducible refine hK _ _ ?_; clear hK K)
      refine viaF e1 ?_
      ((first | refine qc1 rfl rfl fun K hK => ?_ | refine qc3 rfl rfl fun K hK => ?_); simp (disch := (first | omega | (simp only [sz] <;> omega) | fail)) only [go_sem]; refine ⟨_, _, gNextN _ N T i hN hT hi1 hlt, ?_⟩; (try simp only [go_sem]); with_reducible refine hK _ _ ?_; clear hK K)
      refine via ?_
      ((first | refine qc1 rfl rfl fun K hK => ?_ | refine qc3 rfl rfl fun K hK => ?_); simp (disch := (first | omega | (simp only [sz] <;> omega) | fail)) only [go_sem]; refine ⟨_, _, rWord_rU (i := 0) (v := 0) (m := false) _ (by omega) (by omega), ?_⟩; (try simp only [go_sem]); with_reducible refine hK _ _ ?_; clear hK K)
      refine via ?_
      ((first | refine qp1 rfl rfl fun K hK => ?_ | refine qp3 rfl rfl fun K hK => ?_); simp (disch := (first | omega | (simp only [sz] <;> omega) | fail)) only [go_sem]; refine ⟨_, _, .store _ (rU (0) false 0) (acc_p hp hm) (acc_m hp hm) (by omega), ?_⟩; (try simp only [go_sem]); with_reducible refine hK _ _ ?_; clear hK K)
      rw [acc_acc hne]
      refine via ?_
      refine Goes.forget ?_ (by simp only [List.length_cons, List.length_nil]; omega)
      exact ih _ _ _ _ (by omega) ⟨i + 1, _, st + 1, _, up2 Wk 17 (i - 1) (rU (0) false 0), rfl, by omega, by omega, by omega, by simp only [List.length_cons, List.length_nil]; omega, by simp only [List.length_cons, List.length_nil]; omega, rfl, hWk.store hN1 (by decide) hc _, fun r n h => (up2_r h).trans (hrest r n h), fun x h1 h2 => by
        by_cases e : x = i
        · subst e; rw [up2_eq, if_pos hiM]
        · rw [up2_n (pred_ne h1 hi1 e)]; exact hdone x h1 (by omega), rfl, rfl, rfl, rfl, rfl⟩
    · have e1 : ((i : Int) == (gM N T : Int)) = false := by rw [eiM]; exact decide_eq_false hiM
      refine via ?_
      ((first | refine qp1 rfl rfl fun K hK => ?_ | refine qp3 rfl rfl fun K hK => ?_); simp (disch := (first | omega | (simp only [sz] <;> omega) | fail)) only [go_sem]; refine ⟨_, _, qpu fun w => gNodes_any N T w hN1 hN hT, ?_⟩; (try simp only [go_sem]); with_reducible refine hK _ _ ?_; clear hK K)
      refine viaF e1 ?_
      ((first | refine qc1 rfl rfl fun K hK => ?_ | refine qc3 rfl rfl fun K hK => ?_); simp (disch := (first | omega | (simp only [sz] <;> omega) | fail)) only [go_sem]; refine ⟨_, _, gNextN _ N T i hN hT hi1 hlt, ?_⟩; (try simp only [go_sem]); with_reducible refine hK _ _ ?_; clear hK K)
      refine via ?_
      ((first | refine qc1 rfl rfl fun K hK => ?_ | refine qc3 rfl rfl fun K hK => ?_); simp (disch := (first | omega | (simp only [sz] <;> omega) | fail)) only [go_sem]; refine ⟨_, _, rWord_rU (i := i + 1) (v := 0) (m := false) _ (by omega) (by omega), ?_⟩; (try simp only [go_sem]); with_reducible refine hK _ _ ?_; clear hK K)
      refine via ?_
      ((first | refine qp1 rfl rfl fun K hK => ?_ | refine qp3 rfl rfl fun K hK => ?_); simp (disch := (first | omega | (simp only [sz] <;> omega) | fail)) only [go_sem]; refine ⟨_, _, .store _ (rU (i + 1) false 0) (acc_p hp hm) (acc_m hp hm) (by omega), ?_⟩; (try simp only [go_sem]); with_reducible refine hK _ _ ?_; clear hK K)
      rw [acc_acc hne]
      refine via ?_
      refine Goes.forget ?_ (by simp only [List.length_cons, List.length_nil]; omega)
      exact ih _ _ _ _ (by omega) ⟨i + 1, _, st + 1, _, up2 Wk 17 (i - 1) (rU (i + 1) false 0), rfl, by omega, by omega, by omega, by simp only [List.length_cons, List.length_nil]; omega, by simp only [List.length_cons, List.length_nil]; omega, rfl, hWk.store hN1 (by decide) hc _, fun r n h => (up2_r h).trans (hrest r n h), fun x h1 h2 => by
        by_cases e : x = i
        · subst e; rw [up2_eq, if_neg hiM]
        · rw [up2_n (pred_ne h1 hi1 e)]; exact hdone x h1 (by omega), rfl, rfl, rfl, rfl, rfl⟩
  · obtain rfl : i = gM N T + 1 := by omega
    refine via ?_
    ((first | refine qp1 rfl rfl fun K hK => ?_ | refine qp3 rfl rfl fun K hK => ?_); simp (disch := (first | omega | (simp only [sz] <;> omega) | fail)) only [go_sem]; refine ⟨_, _, qpu fun w => gNodes_any N T w hN1 hN hT, ?_⟩; (try simp only [go_sem]); with_reducible refine hK _ _ ?_; clear hK K)
    refine via ?_
    ((first | refine qp1 rfl rfl fun K hK => ?_ | refine qp3 rfl rfl fun K hK => ?_); simp (disch := (first | omega | (simp only [sz] <;> omega) | fail)) only [go_sem]; refine ⟨_, _, qpu fun w => gPool_any N T w hN hT, ?_⟩; (try simp only [go_sem]); with_reducible refine hK _ _ ?_; clear hK K)
    refine via ?_
    ((first | refine qc1 rfl rfl fun K hK => ?_ | refine qc3 rfl rfl fun K hK => ?_); simp (disch := (first | omega | (simp only [sz] <;> omega) | fail)) only [go_sem]; refine ⟨_, _, rWord_rU (i := 1) (v := 0) (m := false) _ (by omega) (by omega), ?_⟩; (try simp only [go_sem]); with_reducible refine hK _ _ ?_; clear hK K)
    refine via ?_
    ((first | refine qp1 rfl rfl fun K hK => ?_ | refine qp3 rfl rfl fun K hK => ?_); simp (disch := (first | omega | (simp only [sz] <;> omega) | fail)) only [go_sem]; refine ⟨_, _, .store _ (rU 1 false 0) (acc_p hp hm) (acc_m hp hm) (by omega), ?_⟩; (try simp only [go_sem]); with_reducible refine hK _ _ ?_; clear hK K)
    rw [acc_acc hne]
    refine via ?_
    refine Goes.finE rfl (by simp (disch := (first | omega | (simp only [heapL_next, List.length_cons, List.length_nil, List.size_toArray, geo_len] <;> omega) | fail)) only [go_sem, resA, res1A, Try.results65] <;> rfl) ?_
    refine ⟨rfl, st + 1, _, up2 Wk 4 0 (rU 1 false 0), by omega, rfl, hWk.store (r := 4) (n := 0) hN1 (by decide) (by show 0 < 1; omega) _, ?_, fun r n h4 h17 => (up2_r h4).trans (hrest r n h17)⟩
    refine ⟨?_, ?_, fun t s ht hs => ?_, fun _ _ => by omega, fun t ht _ => ?_, fun t k x ht _ hx => by simp at hx, fun x hx => ?_, ?_⟩
    · rw [up2_eq, upto_cons hM1]; rfl
    · refine (chn_upto (n := gM N T) (k := gM N T) (by omega) fun x h1 h2 => ?_)
      rw [up2_r (by decide)]; exact hdone x h1 (by omega)
    · rw [up2_r (by decide), hrest _ _ (by decide), h14]; rfl
    · rw [up2_r (by decide), hrest _ _ (by decide), h15]; rfl
    · have hfl : flat T (fun _ => []) = [] := by unfold flat; rw [List.flatMap_eq_nil_iff]; intro _ _; rfl
      rw [hfl, List.append_nil] at hx
      unfold upto at hx
      rw [List.mem_range'_1] at hx; omega
    · have hfl : flat T (fun _ => []) = [] := by unfold flat; rw [List.flatMap_eq_nil_iff]; intro _ _; rfl
      rw [hfl, List.append_nil]
      exact List.nodup_range'
end Go.Proofs.Ytjdbknnacaacaaa
namespace Go.Proofs.Ytjdbknnacaacaaa
open Go Go.RowKit
set_option linter.unusedSimpArgs false
set_option linter.unusedVariables false
def upI (I : Nat → Nat → UInt64) (x k : Nat) (v : UInt64) : Nat → Nat → UInt64 := fun x' k' => if x' = x ∧ k' = k then v else I x' k'
theorem upI_eq {I : Nat → Nat → UInt64} {x k : Nat} {v : UInt64} : upI I x k v x k = v := if_pos ⟨rfl, rfl⟩
theorem upI_x {I : Nat → Nat → UInt64} {x k x' k' : Nat} {v : UInt64} (h : x' ≠ x) : upI I x k v x' k' = I x' k' := if_neg fun e => h e.1
theorem upI_k {I : Nat → Nat → UInt64} {x k x' k' : Nat} {v : UInt64} (h : k' ≠ k) : upI I x k v x' k' = I x' k' := if_neg fun e => h e.2
structure Bg (N T : Nat) (W : Nat → Nat → UInt64) (L : Nat → List Nat) (I : Nat → Nat → UInt64) : Prop where
  hd : ∀ i, i < T * 4 → W 13 i = rU ((L i).headD 0) false 0
  ch : ∀ i, i < T * 4 → Chn (W 17) (L i)
  it : ∀ x k, 1 ≤ x → x ≤ gM N T → k < 8 → W 18 ((x - 1) * 8 + k) = I x k
theorem Bg.congr {N T : Nat} {W W' : Nat → Nat → UInt64} {L : Nat → List Nat} {I : Nat → Nat → UInt64} (h : Bg N T W L I) (h13 : ∀ n, W' 13 n = W 13 n) (h18 : ∀ n, W' 18 n = W 18 n) (h17 : ∀ i x, i < T * 4 → x ∈ L i → W' 17 (x - 1) = W 17 (x - 1)) : Bg N T W' L I where
  hd := fun i hi => (h13 i).trans (h.hd i hi)
  ch := fun i hi => (h.ch i hi).congr fun x hx => h17 i x hi hx
  it := fun x k h1 h2 hk => (h18 _).trans (h.it x k h1 h2 hk)
theorem Bg.item {N T : Nat} {W : Nat → Nat → UInt64} {L : Nat → List Nat} {I : Nat → Nat → UInt64} {x k : Nat} {v : UInt64} (h : Bg N T W L I) (h1 : 1 ≤ x) (hk : k < 8) : Bg N T (up2 W 18 ((x - 1) * 8 + k) v) L (upI I x k v) where
  hd := fun i hi => (up2_r (by decide)).trans (h.hd i hi)
  ch := fun i hi => (h.ch i hi).congr fun x _ => up2_r (by decide)
  it := fun y j hy1 hy2 hj => by
    by_cases e : y = x ∧ j = k
    · obtain ⟨rfl, rfl⟩ := e; rw [up2_eq, upI_eq]
    · rw [up2_n (fun e2 => e ⟨by omega, by omega⟩), h.it y j hy1 hy2 hj]
      unfold upI; rw [if_neg e]
structure BS (N T : Nat) (ws : List UInt64) (W : Nat → Nat → UInt64) (free : List Nat) (ver : Nat) (G L : Nat → List Nat) (I : Nat → Nat → UInt64) : Prop where
  wd : Wd N T ws W
  pl : Pl N T W free ver (fun _ _ => 0) G T
  bg : Bg N T W L I
  glen : ∀ t, t < T → (G t).length ≤ 2 * T
  pm : (free ++ flat T G ++ flat (T * 4) L).Perm (upto 1 (gM N T))
theorem upto_mem {M x : Nat} : x ∈ upto 1 M ↔ 1 ≤ x ∧ x ≤ M := by
  unfold upto; rw [List.mem_range'_1]; omega
theorem upto_nd (M : Nat) : (upto 1 M).Nodup := List.nodup_range' 1
section
variable {N T : Nat} {ws ws' : List UInt64} {W W' : Nat → Nat → UInt64} {free : List Nat} {ver : Nat} {G L : Nat → List Nat} {I : Nat → Nat → UInt64}
theorem BS.nd (h : BS N T ws W free ver G L I) : (free ++ flat T G ++ flat (T * 4) L).Nodup := h.pm.nodup_iff.2 (upto_nd _)
theorem BS.rng (h : BS N T ws W free ver G L I) {i x : Nat} (hi : i < T * 4) (hx : x ∈ L i) : 1 ≤ x ∧ x ≤ gM N T :=
  upto_mem.1 (h.pm.mem_iff.1 (List.mem_append.2 (.inr (mem_flat hi hx))))
theorem BS.out (h : BS N T ws W free ver G L I) {i x : Nat} (hi : i < T * 4) (hx : x ∈ L i) : x ∉ free ++ flat T G := fun hm =>
  (List.nodup_append.1 h.nd).2.2 x hm x (mem_flat hi hx) rfl
theorem BS.lnd (h : BS N T ws W free ver G L I) {i : Nat} (hi : i < T * 4) : (L i).Nodup :=
  (List.nodup_append.1 ((flat_at hi).nodup_iff.1 (List.nodup_append.1 h.nd).2.1)).1
theorem BS.count (h : BS N T ws W free ver G L I) : free.length + (flat T G).length + (flat (T * 4) L).length = gM N T := by
  have := h.pm.length_eq
  rw [List.length_append, List.length_append] at this
  rw [this]; simp [upto]
theorem BS.apart (h : BS N T ws W free ver G L I) {i j x : Nat} (hi : i < T * 4) (hj : j < T * 4) (hx : x ∈ L i) (hy : x ∈ L j) : i = j := by
  refine Classical.byContradiction fun hne => ?_
  have h1 := (flat_at (G := L) hi).nodup_iff.1 (List.nodup_append.1 h.nd).2.1
  refine (List.nodup_append.1 h1).2.2 x hx x (mem_flat hj ?_) rfl
  rw [upG_ne (fun e => hne e.symm)]; exact hy
theorem BS.item (h : BS N T ws W free ver G L I) (hN : 1 ≤ N) {x k : Nat} (v : UInt64) (h1 : 1 ≤ x) (h2 : x ≤ gM N T) (hk : k < 8) :
    BS N T (wS 2 (gat N T 18 (((x - 1) * 8 + k : Nat) : Int)) v 0 ws) (up2 W 18 ((x - 1) * 8 + k) v) free ver G L (upI I x k v) where
  wd := h.wd.store hN (by decide) (by show (x - 1) * 8 + k < gM N T * 8; omega) v
  pl := h.pl.other fun r n hr => up2_r (by omega)
  bg := h.bg.item h1 hk
  glen := h.glen
  pm := h.pm
end
def FirstK (f : Nat → Prop) (k : Nat) : Prop := k < 8 ∧ f k ∧ ∀ j, j < k → ¬ f j
end Go.Proofs.Ytjdbknnacaacaaa
