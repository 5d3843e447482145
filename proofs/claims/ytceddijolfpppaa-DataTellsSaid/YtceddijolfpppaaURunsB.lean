/-
  Layer 10 over the abstract machine: contracts of package runs: what a desk does.
  Conditions: those of each contract.
-/
import Derived.Test.YtceddijolfpppaaUWord2
import Derived.Test.YtceddijolfpppaaUQuick
namespace Go.Proofs.Ytceddijolfpppaa
open Go Go.RowKit
set_option linter.unusedSimpArgs false
set_option linter.unusedVariables false
def dkC (p N T : Nat) : Array Value := #[prtV p] ++ geoC N T
def dkV (p N T : Nat) : Value := .agg (dkC p N T)
theorem dk_list (p N T : Nat) : (dkC p N T).toList = prtV p :: (geoC N T).toList := by simp [dkC]
theorem dk_len (p N T : Nat) : (dkC p N T).toList.length = 23 := by rw [dk_list, List.length_cons, geo_len]
theorem dk_size (p N T : Nat) : (dkC p N T).size = 23 := by rw [← Array.length_toList, dk_len]
theorem dk_all (p N T : Nat) : (dkC p N T).toList.all cellB = true := by rw [dk_list, List.all_cons, geo_all]; rfl
theorem dk_splice {l : List Value} {p N T : Nat} (h : l.length = 23) : spliceA l 0 (dkC p N T).toList = (dkC p N T).toList := splice_all (by rw [h, dk_len])
theorem dk_0 (p N T : Nat) : (dkC p N T).toList[0]? = some (prtV p) := by rw [dk_list]; rfl
theorem dk_g (p N T : Nat) : (List.take 22 (List.drop 1 (dkC p N T).toList)).toArray = geoC N T := by
  rw [dk_list, List.drop_succ_cons, List.drop_zero, List.take_of_length_le (by rw [geo_len]; omega)]
theorem dk_loadg (p N T e n : Nat) : loadR (some { cells := (dkC p N T).toList, elem := e }) (some true) (some 22) ⟨n, 1, none⟩ = some (.agg (geoC N T)) := by
  rw [loadR_sub (by simp only [dk_len]; omega), dk_g]
theorem dk_load (p N T e n : Nat) : loadR (some { cells := (dkC p N T).toList, elem := e }) (some true) (some 23) ⟨n, 0, none⟩ = some (.agg (dkC p N T)) := by
  rw [loadR_all (by simp only [dk_len])]
theorem dk_clo {n p : Nat} {S : St} (N T : Nat) (h : p < S.length) : Clo (Kn n (OF.cnt S)) (dkV p N T) := fun F F' hs => by
  have h1 := pclo (n := n) (S := S) h F F' hs
  have h2 := ren_plain F (geo_plain N T)
  have h3 := ren_plain F' (geo_plain N T)
  simp only [dkV, dkC, ren_agg, Value.agg.injEq, Array.map_append] at h2 h3 ⊢
  rw [h2, h3]
  simp only [List.map_toArray, List.map_cons, List.map_nil, h1]
theorem ld_w {ws : List UInt64} {n : Int} {x : UInt64} (h : wAt ws n = some x) : wT 1 n 0 ws = x := by unfold wT; rw [h]; rfl
theorem pgU_int {k n : Nat} (hk : k < 8) (hn : n < 1024) : (pgN k n 0 0 : Int) = ((pgU k n).toNat : Int) := by
  rw [pgU_nat hk hn]; unfold pgN; omega
theorem v_max2 {P : Program} {e : Operand → Value} {h : AHeap} {ats : Array TypeId} {z u : Operand} : valA P e h (.call { callee := .builtin .max, args := #[z, u], argTypes := ats }) = maxA [e u] (e z) := by
  simp only [valA, builtA, List.map_cons, List.map_nil]
theorem maxA_ints {k k' : IntKind} {a b : Int} : maxA [.int k' b] (.int k a) = some (.int k (if b > a then b else a)) := rfl
theorem v_min2 {P : Program} {e : Operand → Value} {h : AHeap} {ats : Array TypeId} {z u : Operand} : valA P e h (.call { callee := .builtin .min, args := #[z, u], argTypes := ats }) = minA [e u] (e z) := by
  simp only [valA, builtA, List.map_cons, List.map_nil]
theorem minA_ints {k k' : IntKind} {a b : Int} : minA [.int k' b] (.int k a) = some (.int k (if b < a then b else a)) := rfl
theorem n_if {P : Program} {k : Nat} : nilCheckA P (prtV k) = some (prtV k) := rfl
attribute [go_sem] v_max2 maxA_ints v_min2 minA_ints n_if dk_len dk_size dk_all dk_splice dk_0 dk_loadg dk_load
set_option maxHeartbeats 1000000 in
theorem dput_does (S : St) (p m me : Nat) (steps : Nat) (ws : List UInt64) (bs : List UInt8) (N T : Nat) (x : Int) (k n : Nat) (hp : S[p]? = some (.port m me steps)) (hm : S[m]? = some (.mem ws bs)) (hst : steps ≤ 100000000000) (hN : N ≤ 256) (hT : T ≤ 64) (hk : k < 8) (hn : n < 1024) :
    Does OF 104 #[dkV p N T, .int .i64 x, .int .i64 k, .int .i64 n] [] S (.tuple #[]) (accS S p m me (steps + 1) (wS 2 (gat N T 7 x) (pgU k n) 0 ws) bs) := by
  refine Does.mk Try.func104 rfl rfl ?clo ?hand ?_
  case clo => exact clo4 (dk_clo N T (hlt_of hp)) iclo iclo iclo
  case hand => exact Hand.plain (by simp [plainB])
  rw [Try.ntmps104]; simp only [List.size_toArray, List.length_cons, List.length_nil, List.replicate, List.cons_append, List.nil_append]
  unfold dkV
  repeat (first | refine Goes.reg ?_ | refine Goes.ctl2 rfl ?_ | ((first | refine qv1 rfl rfl rfl fun K hK => ?_ | refine qv3 rfl rfl rfl fun K hK => ?_ | refine qv2 rfl rfl rfl rfl rfl rfl fun K hK => ?_ | refine qv4 rfl rfl rfl rfl rfl rfl fun K hK => ?_ | refine qn1 rfl rfl rfl fun K hK => ?_ | refine qn3 rfl rfl rfl fun K hK => ?_ | refine qt1 rfl rfl rfl fun K hK => ?_ | refine qt3 rfl rfl rfl fun K hK => ?_); simp (disch := (first | omega | (simp only [sz] <;> omega) | fail)) only [go_sem]; with_reducible refine hK _ _ ?_; clear hK K) | refine At.nil rfl ?_ | refine RG.nil rfl ?_ | ((first | refine AtL.skipg rfl rfl rfl rfl rfl ?_ | refine RGL.skipg rfl rfl rfl rfl rfl ?_ | refine AtL.skipu rfl rfl rfl rfl ?_ | refine RGL.skipu rfl rfl rfl rfl ?_); simp only [putL, List.set_cons_zero, List.set_cons_succ]) | refine Goes.yes rfl ?_ | refine Goes.no rfl ?_ | refine Goes.drawR [] (by kernel_rfl) ?_)
  ((first | refine qp1 rfl rfl fun K hK => ?_ | refine qp3 rfl rfl fun K hK => ?_); simp (disch := (first | omega | (simp only [sz] <;> omega) | fail)) only [go_sem]; refine ⟨_, _, qpu fun w => gPage_any N T x w hN hT, ?_⟩; (try simp only [go_sem]); with_reducible refine hK _ _ ?_; clear hK K)
  repeat (first | refine Goes.reg ?_ | refine Goes.ctl2 rfl ?_ | ((first | refine qv1 rfl rfl rfl fun K hK => ?_ | refine qv3 rfl rfl rfl fun K hK => ?_ | refine qv2 rfl rfl rfl rfl rfl rfl fun K hK => ?_ | refine qv4 rfl rfl rfl rfl rfl rfl fun K hK => ?_ | refine qn1 rfl rfl rfl fun K hK => ?_ | refine qn3 rfl rfl rfl fun K hK => ?_ | refine qt1 rfl rfl rfl fun K hK => ?_ | refine qt3 rfl rfl rfl fun K hK => ?_); simp (disch := (first | omega | (simp only [sz] <;> omega) | fail)) only [go_sem]; with_reducible refine hK _ _ ?_; clear hK K) | refine At.nil rfl ?_ | refine RG.nil rfl ?_ | ((first | refine AtL.skipg rfl rfl rfl rfl rfl ?_ | refine RGL.skipg rfl rfl rfl rfl rfl ?_ | refine AtL.skipu rfl rfl rfl rfl ?_ | refine RGL.skipu rfl rfl rfl rfl ?_); simp only [putL, List.set_cons_zero, List.set_cons_succ]) | refine Goes.yes rfl ?_ | refine Goes.no rfl ?_ | refine Goes.drawR [] (by kernel_rfl) ?_)
  ((first | refine qc1 rfl rfl fun K hK => ?_ | refine qc3 rfl rfl fun K hK => ?_); simp (disch := (first | omega | (simp only [sz] <;> omega) | fail)) only [go_sem]; refine ⟨_, _, pgWord_does _ k n 0 0 hk hn (by decide) (by decide), ?_⟩; (try simp only [go_sem]); with_reducible refine hK _ _ ?_; clear hK K)
  rw [pgU_int hk hn]
  repeat (first | refine Goes.reg ?_ | refine Goes.ctl2 rfl ?_ | ((first | refine qv1 rfl rfl rfl fun K hK => ?_ | refine qv3 rfl rfl rfl fun K hK => ?_ | refine qv2 rfl rfl rfl rfl rfl rfl fun K hK => ?_ | refine qv4 rfl rfl rfl rfl rfl rfl fun K hK => ?_ | refine qn1 rfl rfl rfl fun K hK => ?_ | refine qn3 rfl rfl rfl fun K hK => ?_ | refine qt1 rfl rfl rfl fun K hK => ?_ | refine qt3 rfl rfl rfl fun K hK => ?_); simp (disch := (first | omega | (simp only [sz] <;> omega) | fail)) only [go_sem]; with_reducible refine hK _ _ ?_; clear hK K) | refine At.nil rfl ?_ | refine RG.nil rfl ?_ | ((first | refine AtL.skipg rfl rfl rfl rfl rfl ?_ | refine RGL.skipg rfl rfl rfl rfl rfl ?_ | refine AtL.skipu rfl rfl rfl rfl ?_ | refine RGL.skipu rfl rfl rfl rfl ?_); simp only [putL, List.set_cons_zero, List.set_cons_succ]) | refine Goes.yes rfl ?_ | refine Goes.no rfl ?_ | refine Goes.drawR [] (by kernel_rfl) ?_)
  ((first | refine qp1 rfl rfl fun K hK => ?_ | refine qp3 rfl rfl fun K hK => ?_); simp (disch := (first | omega | (simp only [sz] <;> omega) | fail)) only [go_sem]; refine ⟨_, _, .store _ (pgU k n) hp hm (by omega), ?_⟩; (try simp only [go_sem]); with_reducible refine hK _ _ ?_; clear hK K)
  repeat (first | refine Goes.reg ?_ | refine Goes.ctl2 rfl ?_ | ((first | refine qv1 rfl rfl rfl fun K hK => ?_ | refine qv3 rfl rfl rfl fun K hK => ?_ | refine qv2 rfl rfl rfl rfl rfl rfl fun K hK => ?_ | refine qv4 rfl rfl rfl rfl rfl rfl fun K hK => ?_ | refine qn1 rfl rfl rfl fun K hK => ?_ | refine qn3 rfl rfl rfl fun K hK => ?_ | refine qt1 rfl rfl rfl fun K hK => ?_ | refine qt3 rfl rfl rfl fun K hK => ?_); simp (disch := (first | omega | (simp only [sz] <;> omega) | fail)) only [go_sem]; with_reducible refine hK _ _ ?_; clear hK K) | refine At.nil rfl ?_ | refine RG.nil rfl ?_ | ((first | refine AtL.skipg rfl rfl rfl rfl rfl ?_ | refine RGL.skipg rfl rfl rfl rfl rfl ?_ | refine AtL.skipu rfl rfl rfl rfl ?_ | refine RGL.skipu rfl rfl rfl rfl ?_); simp only [putL, List.set_cons_zero, List.set_cons_succ]) | refine Goes.yes rfl ?_ | refine Goes.no rfl ?_ | refine Goes.drawR [] (by kernel_rfl) ?_)
  refine Goes.fin rfl (by simp (disch := (first | omega | (simp only [heapL_next, List.length_cons, List.length_nil, List.size_toArray, geo_len] <;> omega) | fail)) only [go_sem, resA, res1A, Try.results104] <;> rfl) ?_
  rfl
set_option maxHeartbeats 1000000 in
theorem dget_does (S : St) (p m me : Nat) (steps : Nat) (ws : List UInt64) (bs : List UInt8) (N T : Nat) (x : Int) (u : UInt64) (hp : S[p]? = some (.port m me steps)) (hm : S[m]? = some (.mem ws bs)) (hst : steps ≤ 100000000000) (hN : N ≤ 256) (hT : T ≤ 64) (hu : wAt ws (gat N T 7 x) = some u) :
    Does OF 117 #[dkV p N T, .int .i64 x] [] S (pgV (kd u) (ln u) (u.toNat / 2 ^ 13 % 2 ^ 2) (u.toNat / 2 ^ 16 % 2 ^ 7)) (accS S p m me (steps + 1) ws bs) := by
  refine Does.mk Try.func117 rfl rfl ?clo ?hand ?_
  case clo => exact clo2 (dk_clo N T (hlt_of hp)) iclo
  case hand => exact Hand.plain (pgV_plain _ _ _ _)
  rw [Try.ntmps117]; simp only [List.size_toArray, List.length_cons, List.length_nil, List.replicate, List.cons_append, List.nil_append]
  unfold dkV
  repeat (first | refine Goes.reg ?_ | refine Goes.ctl2 rfl ?_ | ((first | refine qv1 rfl rfl rfl fun K hK => ?_ | refine qv3 rfl rfl rfl fun K hK => ?_ | refine qv2 rfl rfl rfl rfl rfl rfl fun K hK => ?_ | refine qv4 rfl rfl rfl rfl rfl rfl fun K hK => ?_ | refine qn1 rfl rfl rfl fun K hK => ?_ | refine qn3 rfl rfl rfl fun K hK => ?_ | refine qt1 rfl rfl rfl fun K hK => ?_ | refine qt3 rfl rfl rfl fun K hK => ?_); simp (disch := (first | omega | (simp only [sz] <;> omega) | fail)) only [go_sem]; with_reducible refine hK _ _ ?_; clear hK K) | refine At.nil rfl ?_ | refine RG.nil rfl ?_ | ((first | refine AtL.skipg rfl rfl rfl rfl rfl ?_ | refine RGL.skipg rfl rfl rfl rfl rfl ?_ | refine AtL.skipu rfl rfl rfl rfl ?_ | refine RGL.skipu rfl rfl rfl rfl ?_); simp only [putL, List.set_cons_zero, List.set_cons_succ]) | refine Goes.yes rfl ?_ | refine Goes.no rfl ?_ | refine Goes.drawR [] (by kernel_rfl) ?_)
  ((first | refine qp1 rfl rfl fun K hK => ?_ | refine qp3 rfl rfl fun K hK => ?_); simp (disch := (first | omega | (simp only [sz] <;> omega) | fail)) only [go_sem]; refine ⟨_, _, qpu fun w => gPage_any N T x w hN hT, ?_⟩; (try simp only [go_sem]); with_reducible refine hK _ _ ?_; clear hK K)
  repeat (first | refine Goes.reg ?_ | refine Goes.ctl2 rfl ?_ | ((first | refine qv1 rfl rfl rfl fun K hK => ?_ | refine qv3 rfl rfl rfl fun K hK => ?_ | refine qv2 rfl rfl rfl rfl rfl rfl fun K hK => ?_ | refine qv4 rfl rfl rfl rfl rfl rfl fun K hK => ?_ | refine qn1 rfl rfl rfl fun K hK => ?_ | refine qn3 rfl rfl rfl fun K hK => ?_ | refine qt1 rfl rfl rfl fun K hK => ?_ | refine qt3 rfl rfl rfl fun K hK => ?_); simp (disch := (first | omega | (simp only [sz] <;> omega) | fail)) only [go_sem]; with_reducible refine hK _ _ ?_; clear hK K) | refine At.nil rfl ?_ | refine RG.nil rfl ?_ | ((first | refine AtL.skipg rfl rfl rfl rfl rfl ?_ | refine RGL.skipg rfl rfl rfl rfl rfl ?_ | refine AtL.skipu rfl rfl rfl rfl ?_ | refine RGL.skipu rfl rfl rfl rfl ?_); simp only [putL, List.set_cons_zero, List.set_cons_succ]) | refine Goes.yes rfl ?_ | refine Goes.no rfl ?_ | refine Goes.drawR [] (by kernel_rfl) ?_)
  ((first | refine qp1 rfl rfl fun K hK => ?_ | refine qp3 rfl rfl fun K hK => ?_); simp (disch := (first | omega | (simp only [sz] <;> omega) | fail)) only [go_sem]; refine ⟨_, _, .load _ hp hm (by omega), ?_⟩; (try simp only [go_sem]); with_reducible refine hK _ _ ?_; clear hK K)
  rw [load_same, ld_w hu]
  repeat (first | refine Goes.reg ?_ | refine Goes.ctl2 rfl ?_ | ((first | refine qv1 rfl rfl rfl fun K hK => ?_ | refine qv3 rfl rfl rfl fun K hK => ?_ | refine qv2 rfl rfl rfl rfl rfl rfl fun K hK => ?_ | refine qv4 rfl rfl rfl rfl rfl rfl fun K hK => ?_ | refine qn1 rfl rfl rfl fun K hK => ?_ | refine qn3 rfl rfl rfl fun K hK => ?_ | refine qt1 rfl rfl rfl fun K hK => ?_ | refine qt3 rfl rfl rfl fun K hK => ?_); simp (disch := (first | omega | (simp only [sz] <;> omega) | fail)) only [go_sem]; with_reducible refine hK _ _ ?_; clear hK K) | refine At.nil rfl ?_ | refine RG.nil rfl ?_ | ((first | refine AtL.skipg rfl rfl rfl rfl rfl ?_ | refine RGL.skipg rfl rfl rfl rfl rfl ?_ | refine AtL.skipu rfl rfl rfl rfl ?_ | refine RGL.skipu rfl rfl rfl rfl ?_); simp only [putL, List.set_cons_zero, List.set_cons_succ]) | refine Goes.yes rfl ?_ | refine Goes.no rfl ?_ | refine Goes.drawR [] (by kernel_rfl) ?_)
  ((first | refine qc1 rfl rfl fun K hK => ?_ | refine qc3 rfl rfl fun K hK => ?_); simp (disch := (first | omega | (simp only [sz] <;> omega) | fail)) only [go_sem]; refine ⟨_, _, pageOf_does _ u, ?_⟩; (try simp only [go_sem]); with_reducible refine hK _ _ ?_; clear hK K)
  repeat (first | refine Goes.reg ?_ | refine Goes.ctl2 rfl ?_ | ((first | refine qv1 rfl rfl rfl fun K hK => ?_ | refine qv3 rfl rfl rfl fun K hK => ?_ | refine qv2 rfl rfl rfl rfl rfl rfl fun K hK => ?_ | refine qv4 rfl rfl rfl rfl rfl rfl fun K hK => ?_ | refine qn1 rfl rfl rfl fun K hK => ?_ | refine qn3 rfl rfl rfl fun K hK => ?_ | refine qt1 rfl rfl rfl fun K hK => ?_ | refine qt3 rfl rfl rfl fun K hK => ?_); simp (disch := (first | omega | (simp only [sz] <;> omega) | fail)) only [go_sem, pgV]; with_reducible refine hK _ _ ?_; clear hK K) | refine At.nil rfl ?_ | refine RG.nil rfl ?_ | ((first | refine AtL.skipg rfl rfl rfl rfl rfl ?_ | refine RGL.skipg rfl rfl rfl rfl rfl ?_ | refine AtL.skipu rfl rfl rfl rfl ?_ | refine RGL.skipu rfl rfl rfl rfl ?_); simp only [putL, List.set_cons_zero, List.set_cons_succ]) | refine Goes.yes rfl ?_ | refine Goes.no rfl ?_ | refine Goes.drawR [] (by kernel_rfl) ?_)
  refine Goes.fin rfl (by simp (disch := (first | omega | (simp only [heapL_next, List.length_cons, List.length_nil, List.size_toArray, geo_len] <;> omega) | fail)) only [go_sem, resA, res1A, Try.results117] <;> rfl) ?_
  rfl
set_option maxHeartbeats 1000000 in
theorem dcount_does (S : St) (p m me : Nat) (steps : Nat) (ws : List UInt64) (bs : List UInt8) (N T : Nat) (n : Nat) (l : Bool) (hp : S[p]? = some (.port m me steps)) (hm : S[m]? = some (.mem ws bs)) (hst : steps ≤ 100000000000) (hN : N ≤ 256) (hT : T ≤ 64) (h1 : 1 ≤ n) (h2 : n ≤ 256) :
    Does OF 103 #[dkV p N T, .int .i64 n, .bool l] [] S (.tuple #[]) (accS S p m me (steps + 1) (wS 4 (gat N T 3 (n.log2 : Nat)) (if l then 0 - 1 else 1) 0 ws) bs) := by
  refine Does.mk Try.func103 rfl rfl ?clo ?hand ?_
  case clo => exact clo3 (dk_clo N T (hlt_of hp)) iclo (Clo.plain rfl)
  case hand => exact Hand.plain (by simp [plainB])
  rw [Try.ntmps103]; simp only [List.size_toArray, List.length_cons, List.length_nil, List.replicate, List.cons_append, List.nil_append]
  unfold dkV
  cases l with
  | true =>
    repeat (first | refine Goes.reg ?_ | refine Goes.ctl2 rfl ?_ | ((first | refine qv1 rfl rfl rfl fun K hK => ?_ | refine qv3 rfl rfl rfl fun K hK => ?_ | refine qv2 rfl rfl rfl rfl rfl rfl fun K hK => ?_ | refine qv4 rfl rfl rfl rfl rfl rfl fun K hK => ?_ | refine qn1 rfl rfl rfl fun K hK => ?_ | refine qn3 rfl rfl rfl fun K hK => ?_ | refine qt1 rfl rfl rfl fun K hK => ?_ | refine qt3 rfl rfl rfl fun K hK => ?_); simp (disch := (first | omega | (simp only [sz] <;> omega) | fail)) only [go_sem]; with_reducible refine hK _ _ ?_; clear hK K) | refine At.nil rfl ?_ | refine RG.nil rfl ?_ | ((first | refine AtL.skipg rfl rfl rfl rfl rfl ?_ | refine RGL.skipg rfl rfl rfl rfl rfl ?_ | refine AtL.skipu rfl rfl rfl rfl ?_ | refine RGL.skipu rfl rfl rfl rfl ?_); simp only [putL, List.set_cons_zero, List.set_cons_succ]) | refine Goes.yes rfl ?_ | refine Goes.no rfl ?_ | refine Goes.drawR [] (by kernel_rfl) ?_)
    ((first | refine qp1 rfl rfl fun K hK => ?_ | refine qp3 rfl rfl fun K hK => ?_); simp (disch := (first | omega | (simp only [sz] <;> omega) | fail)) only [go_sem]; refine ⟨_, _, qpu fun w => log_any n w h1 h2, ?_⟩; (try simp only [go_sem]); with_reducible refine hK _ _ ?_; clear hK K)
    repeat (first | refine Goes.reg ?_ | refine Goes.ctl2 rfl ?_ | ((first | refine qv1 rfl rfl rfl fun K hK => ?_ | refine qv3 rfl rfl rfl fun K hK => ?_ | refine qv2 rfl rfl rfl rfl rfl rfl fun K hK => ?_ | refine qv4 rfl rfl rfl rfl rfl rfl fun K hK => ?_ | refine qn1 rfl rfl rfl fun K hK => ?_ | refine qn3 rfl rfl rfl fun K hK => ?_ | refine qt1 rfl rfl rfl fun K hK => ?_ | refine qt3 rfl rfl rfl fun K hK => ?_); simp (disch := (first | omega | (simp only [sz] <;> omega) | fail)) only [go_sem]; with_reducible refine hK _ _ ?_; clear hK K) | refine At.nil rfl ?_ | refine RG.nil rfl ?_ | ((first | refine AtL.skipg rfl rfl rfl rfl rfl ?_ | refine RGL.skipg rfl rfl rfl rfl rfl ?_ | refine AtL.skipu rfl rfl rfl rfl ?_ | refine RGL.skipu rfl rfl rfl rfl ?_); simp only [putL, List.set_cons_zero, List.set_cons_succ]) | refine Goes.yes rfl ?_ | refine Goes.no rfl ?_ | refine Goes.drawR [] (by kernel_rfl) ?_)
    ((first | refine qp1 rfl rfl fun K hK => ?_ | refine qp3 rfl rfl fun K hK => ?_); simp (disch := (first | omega | (simp only [sz] <;> omega) | fail)) only [go_sem]; refine ⟨_, _, qpu fun w => gBin_any N T (n.log2 : Nat) w hN hT, ?_⟩; (try simp only [go_sem]); with_reducible refine hK _ _ ?_; clear hK K)
    repeat (first | refine Goes.reg ?_ | refine Goes.ctl2 rfl ?_ | ((first | refine qv1 rfl rfl rfl fun K hK => ?_ | refine qv3 rfl rfl rfl fun K hK => ?_ | refine qv2 rfl rfl rfl rfl rfl rfl fun K hK => ?_ | refine qv4 rfl rfl rfl rfl rfl rfl fun K hK => ?_ | refine qn1 rfl rfl rfl fun K hK => ?_ | refine qn3 rfl rfl rfl fun K hK => ?_ | refine qt1 rfl rfl rfl fun K hK => ?_ | refine qt3 rfl rfl rfl fun K hK => ?_); simp (disch := (first | omega | (simp only [sz] <;> omega) | fail)) only [go_sem]; with_reducible refine hK _ _ ?_; clear hK K) | refine At.nil rfl ?_ | refine RG.nil rfl ?_ | ((first | refine AtL.skipg rfl rfl rfl rfl rfl ?_ | refine RGL.skipg rfl rfl rfl rfl rfl ?_ | refine AtL.skipu rfl rfl rfl rfl ?_ | refine RGL.skipu rfl rfl rfl rfl ?_); simp only [putL, List.set_cons_zero, List.set_cons_succ]) | refine Goes.yes rfl ?_ | refine Goes.no rfl ?_ | refine Goes.drawR [] (by kernel_rfl) ?_)
    ((first | refine qp1 rfl rfl fun K hK => ?_ | refine qp3 rfl rfl fun K hK => ?_); simp (disch := (first | omega | (simp only [sz] <;> omega) | fail)) only [go_sem]; refine ⟨_, _, .add _ (0 - 1) hp hm (by omega), ?_⟩; (try simp only [go_sem]); with_reducible refine hK _ _ ?_; clear hK K)
    repeat (first | refine Goes.reg ?_ | refine Goes.ctl2 rfl ?_ | ((first | refine qv1 rfl rfl rfl fun K hK => ?_ | refine qv3 rfl rfl rfl fun K hK => ?_ | refine qv2 rfl rfl rfl rfl rfl rfl fun K hK => ?_ | refine qv4 rfl rfl rfl rfl rfl rfl fun K hK => ?_ | refine qn1 rfl rfl rfl fun K hK => ?_ | refine qn3 rfl rfl rfl fun K hK => ?_ | refine qt1 rfl rfl rfl fun K hK => ?_ | refine qt3 rfl rfl rfl fun K hK => ?_); simp (disch := (first | omega | (simp only [sz] <;> omega) | fail)) only [go_sem]; with_reducible refine hK _ _ ?_; clear hK K) | refine At.nil rfl ?_ | refine RG.nil rfl ?_ | ((first | refine AtL.skipg rfl rfl rfl rfl rfl ?_ | refine RGL.skipg rfl rfl rfl rfl rfl ?_ | refine AtL.skipu rfl rfl rfl rfl ?_ | refine RGL.skipu rfl rfl rfl rfl ?_); simp only [putL, List.set_cons_zero, List.set_cons_succ]) | refine Goes.yes rfl ?_ | refine Goes.no rfl ?_ | refine Goes.drawR [] (by kernel_rfl) ?_)
    refine Goes.fin rfl (by simp (disch := (first | omega | (simp only [heapL_next, List.length_cons, List.length_nil, List.size_toArray, geo_len] <;> omega) | fail)) only [go_sem, resA, res1A, Try.results103] <;> rfl) ?_
    rfl
  | false =>
    repeat (first | refine Goes.reg ?_ | refine Goes.ctl2 rfl ?_ | ((first | refine qv1 rfl rfl rfl fun K hK => ?_ | refine qv3 rfl rfl rfl fun K hK => ?_ | refine qv2 rfl rfl rfl rfl rfl rfl fun K hK => ?_ | refine qv4 rfl rfl rfl rfl rfl rfl fun K hK => ?_ | refine qn1 rfl rfl rfl fun K hK => ?_ | refine qn3 rfl rfl rfl fun K hK => ?_ | refine qt1 rfl rfl rfl fun K hK => ?_ | refine qt3 rfl rfl rfl fun K hK => ?_); simp (disch := (first | omega | (simp only [sz] <;> omega) | fail)) only [go_sem]; with_reducible refine hK _ _ ?_; clear hK K) | refine At.nil rfl ?_ | refine RG.nil rfl ?_ | ((first | refine AtL.skipg rfl rfl rfl rfl rfl ?_ | refine RGL.skipg rfl rfl rfl rfl rfl ?_ | refine AtL.skipu rfl rfl rfl rfl ?_ | refine RGL.skipu rfl rfl rfl rfl ?_); simp only [putL, List.set_cons_zero, List.set_cons_succ]) | refine Goes.yes rfl ?_ | refine Goes.no rfl ?_ | refine Goes.drawR [] (by kernel_rfl) ?_)
    ((first | refine qp1 rfl rfl fun K hK => ?_ | refine qp3 rfl rfl fun K hK => ?_); simp (disch := (first | omega | (simp only [sz] <;> omega) | fail)) only [go_sem]; refine ⟨_, _, qpu fun w => log_any n w h1 h2, ?_⟩; (try simp only [go_sem]); with_reducible refine hK _ _ ?_; clear hK K)
    repeat (first | refine Goes.reg ?_ | refine Goes.ctl2 rfl ?_ | ((first | refine qv1 rfl rfl rfl fun K hK => ?_ | refine qv3 rfl rfl rfl fun K hK => ?_ | refine qv2 rfl rfl rfl rfl rfl rfl fun K hK => ?_ | refine qv4 rfl rfl rfl rfl rfl rfl fun K hK => ?_ | refine qn1 rfl rfl rfl fun K hK => ?_ | refine qn3 rfl rfl rfl fun K hK => ?_ | refine qt1 rfl rfl rfl fun K hK => ?_ | refine qt3 rfl rfl rfl fun K hK => ?_); simp (disch := (first | omega | (simp only [sz] <;> omega) | fail)) only [go_sem]; with_reducible refine hK _ _ ?_; clear hK K) | refine At.nil rfl ?_ | refine RG.nil rfl ?_ | ((first | refine AtL.skipg rfl rfl rfl rfl rfl ?_ | refine RGL.skipg rfl rfl rfl rfl rfl ?_ | refine AtL.skipu rfl rfl rfl rfl ?_ | refine RGL.skipu rfl rfl rfl rfl ?_); simp only [putL, List.set_cons_zero, List.set_cons_succ]) | refine Goes.yes rfl ?_ | refine Goes.no rfl ?_ | refine Goes.drawR [] (by kernel_rfl) ?_)
    ((first | refine qp1 rfl rfl fun K hK => ?_ | refine qp3 rfl rfl fun K hK => ?_); simp (disch := (first | omega | (simp only [sz] <;> omega) | fail)) only [go_sem]; refine ⟨_, _, qpu fun w => gBin_any N T (n.log2 : Nat) w hN hT, ?_⟩; (try simp only [go_sem]); with_reducible refine hK _ _ ?_; clear hK K)
    repeat (first | refine Goes.reg ?_ | refine Goes.ctl2 rfl ?_ | ((first | refine qv1 rfl rfl rfl fun K hK => ?_ | refine qv3 rfl rfl rfl fun K hK => ?_ | refine qv2 rfl rfl rfl rfl rfl rfl fun K hK => ?_ | refine qv4 rfl rfl rfl rfl rfl rfl fun K hK => ?_ | refine qn1 rfl rfl rfl fun K hK => ?_ | refine qn3 rfl rfl rfl fun K hK => ?_ | refine qt1 rfl rfl rfl fun K hK => ?_ | refine qt3 rfl rfl rfl fun K hK => ?_); simp (disch := (first | omega | (simp only [sz] <;> omega) | fail)) only [go_sem]; with_reducible refine hK _ _ ?_; clear hK K) | refine At.nil rfl ?_ | refine RG.nil rfl ?_ | ((first | refine AtL.skipg rfl rfl rfl rfl rfl ?_ | refine RGL.skipg rfl rfl rfl rfl rfl ?_ | refine AtL.skipu rfl rfl rfl rfl ?_ | refine RGL.skipu rfl rfl rfl rfl ?_); simp only [putL, List.set_cons_zero, List.set_cons_succ]) | refine Goes.yes rfl ?_ | refine Goes.no rfl ?_ | refine Goes.drawR [] (by kernel_rfl) ?_)
    ((first | refine qp1 rfl rfl fun K hK => ?_ | refine qp3 rfl rfl fun K hK => ?_); simp (disch := (first | omega | (simp only [sz] <;> omega) | fail)) only [go_sem]; refine ⟨_, _, .add _ 1 hp hm (by omega), ?_⟩; (try simp only [go_sem]); with_reducible refine hK _ _ ?_; clear hK K)
    repeat (first | refine Goes.reg ?_ | refine Goes.ctl2 rfl ?_ | ((first | refine qv1 rfl rfl rfl fun K hK => ?_ | refine qv3 rfl rfl rfl fun K hK => ?_ | refine qv2 rfl rfl rfl rfl rfl rfl fun K hK => ?_ | refine qv4 rfl rfl rfl rfl rfl rfl fun K hK => ?_ | refine qn1 rfl rfl rfl fun K hK => ?_ | refine qn3 rfl rfl rfl fun K hK => ?_ | refine qt1 rfl rfl rfl fun K hK => ?_ | refine qt3 rfl rfl rfl fun K hK => ?_); simp (disch := (first | omega | (simp only [sz] <;> omega) | fail)) only [go_sem]; with_reducible refine hK _ _ ?_; clear hK K) | refine At.nil rfl ?_ | refine RG.nil rfl ?_ | ((first | refine AtL.skipg rfl rfl rfl rfl rfl ?_ | refine RGL.skipg rfl rfl rfl rfl rfl ?_ | refine AtL.skipu rfl rfl rfl rfl ?_ | refine RGL.skipu rfl rfl rfl rfl ?_); simp only [putL, List.set_cons_zero, List.set_cons_succ]) | refine Goes.yes rfl ?_ | refine Goes.no rfl ?_ | refine Goes.drawR [] (by kernel_rfl) ?_)
    refine Goes.fin rfl (by simp (disch := (first | omega | (simp only [heapL_next, List.length_cons, List.length_nil, List.size_toArray, geo_len] <;> omega) | fail)) only [go_sem, resA, res1A, Try.results103] <;> rfl) ?_
    rfl
theorem gPage_at {N T k : Nat} (hN : 1 ≤ N) (hk : k < N) : gat N T 7 k = ((21 + T + k : Nat) : Int) := by
  have e : gb N T 8 = gb N T 7 + N := by unfold gb; rw [if_neg (by omega), if_neg (by omega)]; rfl
  have e2 : gb N T 7 = 21 + T := by unfold gb; rw [if_neg (by omega)]; simp only [gsum, gsz]
  rw [gat_in N T 7 (by omega) (by rw [e]; omega), e2]; push_cast; rfl
theorem gBin_at {N T k : Nat} (hN : 1 ≤ N) (hk : k < 9) : gat N T 3 k = ((7 + k : Nat) : Int) := by
  have e : gb N T 4 = gb N T 3 + 9 := by unfold gb; rw [if_neg (by omega), if_neg (by omega)]; rfl
  have e2 : gb N T 3 = 7 := by unfold gb; rw [if_neg (by omega)]; rfl
  rw [gat_in N T 3 (by omega) (by rw [e]; omega), e2]; push_cast; rfl
theorem wAt_wS {c : Nat} {n : Int} {A B x : UInt64} {ws : List UInt64} (h : wAt ws n = some x) (m : Int) : wAt (wS c n A B ws) m = if m = n then some (kNow c x A B) else wAt ws m := by
  have hs : wS c n A B ws = ws.set n.toNat (kNow c x A B) := by unfold wS; rw [h]
  rw [hs]
  unfold wAt at h ⊢
  by_cases hn : n < 0
  · rw [if_pos hn] at h; cases h
  rw [if_neg hn] at h
  have hlt := (List.getElem?_eq_some_iff.1 h).1
  by_cases e : m = n
  · subst e
    rw [if_neg hn, if_pos rfl, List.getElem?_set_self hlt]
  · rw [if_neg e]
    by_cases hm : m < 0
    · rw [if_pos hm, if_pos hm]
    · rw [if_neg hm, if_neg hm, List.getElem?_set_ne (by omega)]
structure Pg (N T : Nat) (ws0 ws : List UInt64) (P B : Nat → UInt64) : Prop where
  len : ws.length = ws0.length
  pg : ∀ x : Nat, x < N → wAt ws (gat N T 7 x) = some (P x)
  bn : ∀ b : Nat, b < 9 → wAt ws (gat N T 3 b) = some (B b)
  rest : ∀ i : Nat, (∀ x, x < N → i ≠ 21 + T + x) → (∀ b, b < 9 → i ≠ 7 + b) → wAt ws i = wAt ws0 i
theorem Pg.congr {N T : Nat} {ws0 ws : List UInt64} {P B P' B' : Nat → UInt64} (h : Pg N T ws0 ws P B) (hP : ∀ x, x < N → P x = P' x) (hB : ∀ b, b < 9 → B b = B' b) : Pg N T ws0 ws P' B' :=
  ⟨h.len, fun x hx => by rw [← hP x hx]; exact h.pg x hx, fun b hb => by rw [← hB b hb]; exact h.bn b hb, h.rest⟩
theorem Pg.put {N T : Nat} {ws0 ws : List UInt64} {P B : Nat → UInt64} (h : Pg N T ws0 ws P B) (hN : 1 ≤ N) {x : Nat} (hx : x < N) (c : Nat) (v V : UInt64) : Pg N T ws0 (wS c (gat N T 7 x) v V ws) (up P x (kNow c (P x) v V)) B := by
  have e := wAt_wS (c := c) (A := v) (B := V) (h.pg x hx)
  refine ⟨by rw [wS_length, h.len], fun y hy => ?_, fun b hb => ?_, fun i h1 h2 => ?_⟩
  · rw [e, gPage_at hN hx, gPage_at hN hy]
    unfold up
    by_cases hxy : y = x
    · rw [if_pos hxy, if_pos (by omega)]
    · rw [if_neg hxy, if_neg (by omega), ← gPage_at hN hy]; exact h.pg y hy
  · rw [e, gPage_at hN hx, gBin_at hN hb, if_neg (by omega), ← gBin_at (T := T) hN hb]; exact h.bn b hb
  · rw [e, gPage_at hN hx, if_neg (by have := h1 x hx; omega)]; exact h.rest i h1 h2
theorem Pg.add {N T : Nat} {ws0 ws : List UInt64} {P B : Nat → UInt64} (h : Pg N T ws0 ws P B) (hN : 1 ≤ N) {b : Nat} (hb : b < 9) (v : UInt64) : Pg N T ws0 (wS 4 (gat N T 3 b) v 0 ws) P (ad B b v) := by
  have e := wAt_wS (c := 4) (A := v) (B := 0) (h.bn b hb)
  refine ⟨by rw [wS_length, h.len], fun y hy => ?_, fun b' hb' => ?_, fun i h1 h2 => ?_⟩
  · rw [e, gBin_at hN hb, gPage_at hN hy, if_neg (by omega), ← gPage_at hN hy]; exact h.pg y hy
  · rw [e, gBin_at hN hb, gBin_at hN hb']
    unfold ad
    by_cases hxy : b' = b
    · rw [if_pos hxy, if_pos (by omega), hxy]; rfl
    · rw [if_neg hxy, if_neg (by omega), ← gBin_at (T := T) hN hb']; exact h.bn b' hb'
  · rw [e, gBin_at hN hb, if_neg (by have := h2 b hb; omega)]; exact h.rest i h1 h2
theorem log2_lt9 {n : Nat} (h1 : 1 ≤ n) (h2 : n ≤ 256) : n.log2 < 9 := (Nat.log2_lt (by omega)).2 (by omega)
set_option maxHeartbeats 1000000 in
theorem dlay_does (S : St) (p m me : Nat) (steps : Nat) (ws0 ws : List UInt64) (bs : List UInt8) (N T : Nat) (x n : Nat) {P B : Nat → UInt64} (hp : S[p]? = some (.port m me steps)) (hm : S[m]? = some (.mem ws bs)) (hst : steps ≤ 10000000000) (h1 : 1 ≤ N) (hN : N ≤ 256) (hT : T ≤ 64) (hP : Pg N T ws0 ws P B) (hx : x + n ≤ N) :
    ∃ ws' st', st' ≤ steps + 3 ∧ Pg N T ws0 ws' (layP P x n) (layB B n) ∧ Does OF 105 #[dkV p N T, .int .i64 x, .int .i64 n] [] S (.tuple #[]) (accS S p m me st' ws' bs) := by
  have hne := hne_of hp hm
  by_cases hn0 : n = 0
  · subst hn0
    refine ⟨ws, steps, by omega, hP.congr (fun y _ => by unfold layP; rw [if_pos rfl]) (fun b _ => by unfold layB; rw [if_pos rfl]), ?_⟩
    rw [acc_same hp hm]
    refine Does.mk Try.func105 rfl rfl ?clo ?hand ?_
    case clo => exact clo3 (dk_clo N T (hlt_of hp)) iclo iclo
    case hand => exact Hand.plain (by simp [plainB])
    rw [Try.ntmps105]; simp only [List.size_toArray, List.length_cons, List.length_nil, List.replicate, List.cons_append, List.nil_append]
    unfold dkV
    repeat (first | refine Goes.reg ?_ | refine Goes.ctl2 rfl ?_ | ((first | refine qv1 rfl rfl rfl fun K hK => ?_ | refine qv3 rfl rfl rfl fun K hK => ?_ | refine qv2 rfl rfl rfl rfl rfl rfl fun K hK => ?_ | refine qv4 rfl rfl rfl rfl rfl rfl fun K hK => ?_ | refine qn1 rfl rfl rfl fun K hK => ?_ | refine qn3 rfl rfl rfl fun K hK => ?_ | refine qt1 rfl rfl rfl fun K hK => ?_ | refine qt3 rfl rfl rfl fun K hK => ?_); simp (disch := (first | omega | (simp only [sz] <;> omega) | fail)) only [go_sem]; with_reducible refine hK _ _ ?_; clear hK K) | refine At.nil rfl ?_ | refine RG.nil rfl ?_ | ((first | refine AtL.skipg rfl rfl rfl rfl rfl ?_ | refine RGL.skipg rfl rfl rfl rfl rfl ?_ | refine AtL.skipu rfl rfl rfl rfl ?_ | refine RGL.skipu rfl rfl rfl rfl ?_); simp only [putL, List.set_cons_zero, List.set_cons_succ]) | refine Goes.yes rfl ?_ | refine Goes.no rfl ?_ | refine Goes.drawR [] (by kernel_rfl) ?_)
    refine Goes.fin rfl (by simp (disch := (first | omega | (simp only [heapL_next, List.length_cons, List.length_nil, List.size_toArray, geo_len] <;> omega) | fail)) only [go_sem, resA, res1A, Try.results105] <;> rfl) ?_
    rfl
  · have e0 : ((n : Int) == 0) = false := by rw [beq_eq_false_iff_ne]; omega
    by_cases hn1 : 1 < n
    · have e1 : decide ((1 : Int) < (n : Int)) = true := decide_eq_true (by omega)
      have w1 : ((x : Int) + (n : Int) - 1) = ((x + n - 1 : Nat) : Int) := by omega
      have hP1 := hP.put h1 (x := x + n - 1) (by omega) 2 (pgU 2 n) 0
      have hP2 := (hP1.put h1 (x := x) (by omega) 2 (pgU 1 n) 0).add h1 (log2_lt9 (n := n) (by omega) (by omega)) 1
      refine ⟨_, steps + 1 + 1 + 1, by omega, hP2.congr (fun y _ => ?_) (fun b _ => by unfold layB; rw [if_neg hn0]), ?_⟩
      · unfold layP up
        rw [if_neg hn0]
        split
        · rfl
        · split
          · rw [if_pos (by omega)]; rfl
          · rw [if_neg (by omega)]
      refine Does.mk Try.func105 rfl rfl ?clo ?hand ?_
      case clo => exact clo3 (dk_clo N T (hlt_of hp)) iclo iclo
      case hand => exact Hand.plain (by simp [plainB])
      rw [Try.ntmps105]; simp only [List.size_toArray, List.length_cons, List.length_nil, List.replicate, List.cons_append, List.nil_append]
      unfold dkV
      repeat (first | refine Goes.reg ?_ | refine Goes.ctl2 rfl ?_ | ((first | refine qv1 rfl rfl rfl fun K hK => ?_ | refine qv3 rfl rfl rfl fun K hK => ?_ | refine qv2 rfl rfl rfl rfl rfl rfl fun K hK => ?_ | refine qv4 rfl rfl rfl rfl rfl rfl fun K hK => ?_ | refine qn1 rfl rfl rfl fun K hK => ?_ | refine qn3 rfl rfl rfl fun K hK => ?_ | refine qt1 rfl rfl rfl fun K hK => ?_ | refine qt3 rfl rfl rfl fun K hK => ?_); simp (disch := (first | omega | (simp only [sz] <;> omega) | fail)) only [go_sem, e0, e1, w1]; with_reducible refine hK _ _ ?_; clear hK K) | refine At.nil rfl ?_ | refine RG.nil rfl ?_ | ((first | refine AtL.skipg rfl rfl rfl rfl rfl ?_ | refine RGL.skipg rfl rfl rfl rfl rfl ?_ | refine AtL.skipu rfl rfl rfl rfl ?_ | refine RGL.skipu rfl rfl rfl rfl ?_); simp only [putL, List.set_cons_zero, List.set_cons_succ]) | refine Goes.yes rfl ?_ | refine Goes.no rfl ?_ | refine Goes.drawR [] (by kernel_rfl) ?_)
      ((first | refine qc1 rfl rfl fun K hK => ?_ | refine qc3 rfl rfl fun K hK => ?_); simp (disch := (first | omega | (simp only [sz] <;> omega) | fail)) only [go_sem]; refine ⟨_, _, dput_does _ p m me _ _ _ N T _ 2 n hp hm (by omega) hN hT (by decide) (by omega), ?_⟩; (try simp only [go_sem]); with_reducible refine hK _ _ ?_; clear hK K)
      repeat (first | refine Goes.reg ?_ | refine Goes.ctl2 rfl ?_ | ((first | refine qv1 rfl rfl rfl fun K hK => ?_ | refine qv3 rfl rfl rfl fun K hK => ?_ | refine qv2 rfl rfl rfl rfl rfl rfl fun K hK => ?_ | refine qv4 rfl rfl rfl rfl rfl rfl fun K hK => ?_ | refine qn1 rfl rfl rfl fun K hK => ?_ | refine qn3 rfl rfl rfl fun K hK => ?_ | refine qt1 rfl rfl rfl fun K hK => ?_ | refine qt3 rfl rfl rfl fun K hK => ?_); simp (disch := (first | omega | (simp only [sz] <;> omega) | fail)) only [go_sem, e0, e1]; with_reducible refine hK _ _ ?_; clear hK K) | refine At.nil rfl ?_ | refine RG.nil rfl ?_ | ((first | refine AtL.skipg rfl rfl rfl rfl rfl ?_ | refine RGL.skipg rfl rfl rfl rfl rfl ?_ | refine AtL.skipu rfl rfl rfl rfl ?_ | refine RGL.skipu rfl rfl rfl rfl ?_); simp only [putL, List.set_cons_zero, List.set_cons_succ]) | refine Goes.yes rfl ?_ | refine Goes.no rfl ?_ | refine Goes.drawR [] (by kernel_rfl) ?_)
      ((first | refine qc1 rfl rfl fun K hK => ?_ | refine qc3 rfl rfl fun K hK => ?_); simp (disch := (first | omega | (simp only [sz] <;> omega) | fail)) only [go_sem]; refine ⟨_, _, dput_does _ p m me _ _ _ N T _ 1 n (acc_p hp hm) (acc_m hp hm) (by omega) hN hT (by decide) (by omega), ?_⟩; (try simp only [go_sem]); with_reducible refine hK _ _ ?_; clear hK K)
      rw [acc_acc hne]
      repeat (first | refine Goes.reg ?_ | refine Goes.ctl2 rfl ?_ | ((first | refine qv1 rfl rfl rfl fun K hK => ?_ | refine qv3 rfl rfl rfl fun K hK => ?_ | refine qv2 rfl rfl rfl rfl rfl rfl fun K hK => ?_ | refine qv4 rfl rfl rfl rfl rfl rfl fun K hK => ?_ | refine qn1 rfl rfl rfl fun K hK => ?_ | refine qn3 rfl rfl rfl fun K hK => ?_ | refine qt1 rfl rfl rfl fun K hK => ?_ | refine qt3 rfl rfl rfl fun K hK => ?_); simp (disch := (first | omega | (simp only [sz] <;> omega) | fail)) only [go_sem]; with_reducible refine hK _ _ ?_; clear hK K) | refine At.nil rfl ?_ | refine RG.nil rfl ?_ | ((first | refine AtL.skipg rfl rfl rfl rfl rfl ?_ | refine RGL.skipg rfl rfl rfl rfl rfl ?_ | refine AtL.skipu rfl rfl rfl rfl ?_ | refine RGL.skipu rfl rfl rfl rfl ?_); simp only [putL, List.set_cons_zero, List.set_cons_succ]) | refine Goes.yes rfl ?_ | refine Goes.no rfl ?_ | refine Goes.drawR [] (by kernel_rfl) ?_)
      ((first | refine qc1 rfl rfl fun K hK => ?_ | refine qc3 rfl rfl fun K hK => ?_); simp (disch := (first | omega | (simp only [sz] <;> omega) | fail)) only [go_sem]; refine ⟨_, _, dcount_does _ p m me _ _ _ N T n false (acc_p hp hm) (acc_m hp hm) (by omega) hN hT (by omega) (by omega), ?_⟩; (try simp only [go_sem]); with_reducible refine hK _ _ ?_; clear hK K)
      rw [acc_acc hne]
      repeat (first | refine Goes.reg ?_ | refine Goes.ctl2 rfl ?_ | ((first | refine qv1 rfl rfl rfl fun K hK => ?_ | refine qv3 rfl rfl rfl fun K hK => ?_ | refine qv2 rfl rfl rfl rfl rfl rfl fun K hK => ?_ | refine qv4 rfl rfl rfl rfl rfl rfl fun K hK => ?_ | refine qn1 rfl rfl rfl fun K hK => ?_ | refine qn3 rfl rfl rfl fun K hK => ?_ | refine qt1 rfl rfl rfl fun K hK => ?_ | refine qt3 rfl rfl rfl fun K hK => ?_); simp (disch := (first | omega | (simp only [sz] <;> omega) | fail)) only [go_sem]; with_reducible refine hK _ _ ?_; clear hK K) | refine At.nil rfl ?_ | refine RG.nil rfl ?_ | ((first | refine AtL.skipg rfl rfl rfl rfl rfl ?_ | refine RGL.skipg rfl rfl rfl rfl rfl ?_ | refine AtL.skipu rfl rfl rfl rfl ?_ | refine RGL.skipu rfl rfl rfl rfl ?_); simp only [putL, List.set_cons_zero, List.set_cons_succ]) | refine Goes.yes rfl ?_ | refine Goes.no rfl ?_ | refine Goes.drawR [] (by kernel_rfl) ?_)
      refine Goes.fin rfl (by simp (disch := (first | omega | (simp only [heapL_next, List.length_cons, List.length_nil, List.size_toArray, geo_len] <;> omega) | fail)) only [go_sem, resA, res1A, Try.results105] <;> rfl) ?_
      rfl
    · obtain rfl : n = 1 := by omega
      have e1 : decide ((1 : Int) < ((1 : Nat) : Int)) = false := decide_eq_false (by omega)
      have hP2 := (hP.put h1 (x := x) (by omega) 2 (pgU 1 1) 0).add h1 (log2_lt9 (n := 1) (by omega) (by omega)) 1
      refine ⟨_, steps + 1 + 1, by omega, hP2.congr (fun y _ => ?_) (fun b _ => by unfold layB; rw [if_neg hn0]), ?_⟩
      · unfold layP up
        rw [if_neg hn0]
        split
        · rfl
        · rw [if_neg (by omega)]
      refine Does.mk Try.func105 rfl rfl ?clo ?hand ?_
      case clo => exact clo3 (dk_clo N T (hlt_of hp)) iclo iclo
      case hand => exact Hand.plain (by simp [plainB])
      rw [Try.ntmps105]; simp only [List.size_toArray, List.length_cons, List.length_nil, List.replicate, List.cons_append, List.nil_append]
      unfold dkV
      repeat (first | refine Goes.reg ?_ | refine Goes.ctl2 rfl ?_ | ((first | refine qv1 rfl rfl rfl fun K hK => ?_ | refine qv3 rfl rfl rfl fun K hK => ?_ | refine qv2 rfl rfl rfl rfl rfl rfl fun K hK => ?_ | refine qv4 rfl rfl rfl rfl rfl rfl fun K hK => ?_ | refine qn1 rfl rfl rfl fun K hK => ?_ | refine qn3 rfl rfl rfl fun K hK => ?_ | refine qt1 rfl rfl rfl fun K hK => ?_ | refine qt3 rfl rfl rfl fun K hK => ?_); simp (disch := (first | omega | (simp only [sz] <;> omega) | fail)) only [go_sem, e0, e1]; with_reducible refine hK _ _ ?_; clear hK K) | refine At.nil rfl ?_ | refine RG.nil rfl ?_ | ((first | refine AtL.skipg rfl rfl rfl rfl rfl ?_ | refine RGL.skipg rfl rfl rfl rfl rfl ?_ | refine AtL.skipu rfl rfl rfl rfl ?_ | refine RGL.skipu rfl rfl rfl rfl ?_); simp only [putL, List.set_cons_zero, List.set_cons_succ]) | refine Goes.yes rfl ?_ | refine Goes.no rfl ?_ | refine Goes.drawR [] (by kernel_rfl) ?_)
      ((first | refine qc1 rfl rfl fun K hK => ?_ | refine qc3 rfl rfl fun K hK => ?_); simp (disch := (first | omega | (simp only [sz] <;> omega) | fail)) only [go_sem]; refine ⟨_, _, dput_does _ p m me _ _ _ N T _ 1 1 hp hm (by omega) hN hT (by decide) (by omega), ?_⟩; (try simp only [go_sem]); with_reducible refine hK _ _ ?_; clear hK K)
      repeat (first | refine Goes.reg ?_ | refine Goes.ctl2 rfl ?_ | ((first | refine qv1 rfl rfl rfl fun K hK => ?_ | refine qv3 rfl rfl rfl fun K hK => ?_ | refine qv2 rfl rfl rfl rfl rfl rfl fun K hK => ?_ | refine qv4 rfl rfl rfl rfl rfl rfl fun K hK => ?_ | refine qn1 rfl rfl rfl fun K hK => ?_ | refine qn3 rfl rfl rfl fun K hK => ?_ | refine qt1 rfl rfl rfl fun K hK => ?_ | refine qt3 rfl rfl rfl fun K hK => ?_); simp (disch := (first | omega | (simp only [sz] <;> omega) | fail)) only [go_sem]; with_reducible refine hK _ _ ?_; clear hK K) | refine At.nil rfl ?_ | refine RG.nil rfl ?_ | ((first | refine AtL.skipg rfl rfl rfl rfl rfl ?_ | refine RGL.skipg rfl rfl rfl rfl rfl ?_ | refine AtL.skipu rfl rfl rfl rfl ?_ | refine RGL.skipu rfl rfl rfl rfl ?_); simp only [putL, List.set_cons_zero, List.set_cons_succ]) | refine Goes.yes rfl ?_ | refine Goes.no rfl ?_ | refine Goes.drawR [] (by kernel_rfl) ?_)
      ((first | refine qc1 rfl rfl fun K hK => ?_ | refine qc3 rfl rfl fun K hK => ?_); simp (disch := (first | omega | (simp only [sz] <;> omega) | fail)) only [go_sem]; refine ⟨_, _, dcount_does _ p m me _ _ _ N T 1 false (acc_p hp hm) (acc_m hp hm) (by omega) hN hT (by omega) (by omega), ?_⟩; (try simp only [go_sem]); with_reducible refine hK _ _ ?_; clear hK K)
      rw [acc_acc hne]
      repeat (first | refine Goes.reg ?_ | refine Goes.ctl2 rfl ?_ | ((first | refine qv1 rfl rfl rfl fun K hK => ?_ | refine qv3 rfl rfl rfl fun K hK => ?_ | refine qv2 rfl rfl rfl rfl rfl rfl fun K hK => ?_ | refine qv4 rfl rfl rfl rfl rfl rfl fun K hK => ?_ | refine qn1 rfl rfl rfl fun K hK => ?_ | refine qn3 rfl rfl rfl fun K hK => ?_ | refine qt1 rfl rfl rfl fun K hK => ?_ | refine qt3 rfl rfl rfl fun K hK => ?_); simp (disch := (first | omega | (simp only [sz] <;> omega) | fail)) only [go_sem]; with_reducible refine hK _ _ ?_; clear hK K) | refine At.nil rfl ?_ | refine RG.nil rfl ?_ | ((first | refine AtL.skipg rfl rfl rfl rfl rfl ?_ | refine RGL.skipg rfl rfl rfl rfl rfl ?_ | refine AtL.skipu rfl rfl rfl rfl ?_ | refine RGL.skipu rfl rfl rfl rfl ?_); simp only [putL, List.set_cons_zero, List.set_cons_succ]) | refine Goes.yes rfl ?_ | refine Goes.no rfl ?_ | refine Goes.drawR [] (by kernel_rfl) ?_)
      refine Goes.fin rfl (by simp (disch := (first | omega | (simp only [heapL_next, List.length_cons, List.length_nil, List.size_toArray, geo_len] <;> omega) | fail)) only [go_sem, resA, res1A, Try.results105] <;> rfl) ?_
      rfl
end Go.Proofs.Ytceddijolfpppaa
namespace Go.Proofs.Ytceddijolfpppaa
open Go Go.RowKit
set_option linter.unusedSimpArgs false
set_option linter.unusedVariables false
set_option maxHeartbeats 1000000 in
theorem used_does (S : St) (a n c o k : Nat) :
    Does OF 116 #[pgV a n c o, .int .i64 k] [] S (.bool (decide (n = k ∧ 3 ≤ a ∧ a ≤ 5))) S := by
  refine Does.mk Try.func116 rfl rfl ?clo ?hand ?_
  case clo => exact clo2 (Clo.plain (pgV_plain _ _ _ _)) iclo
  case hand => exact Hand.plain rfl
  rw [Try.ntmps116]; simp only [List.size_toArray, List.length_cons, List.length_nil, List.replicate, List.cons_append, List.nil_append]
  unfold pgV
  have ne : ∀ j : Nat, a ≠ j → (((a : Nat) : Int) == (j : Int)) = false := fun j h => by rw [beq_eq_false_iff_ne]; omega
  have eq : ∀ j : Nat, a = j → (((a : Nat) : Int) == (j : Int)) = true := fun j h => by rw [h]; exact beq_self_eq_true _
  repeat (first | refine Goes.reg ?_ | refine Goes.ctl2 rfl ?_ | ((first | refine qv1 rfl rfl rfl fun K hK => ?_ | refine qv3 rfl rfl rfl fun K hK => ?_ | refine qv2 rfl rfl rfl rfl rfl rfl fun K hK => ?_ | refine qv4 rfl rfl rfl rfl rfl rfl fun K hK => ?_ | refine qn1 rfl rfl rfl fun K hK => ?_ | refine qn3 rfl rfl rfl fun K hK => ?_ | refine qt1 rfl rfl rfl fun K hK => ?_ | refine qt3 rfl rfl rfl fun K hK => ?_); simp (disch := (first | omega | (simp only [sz] <;> omega) | fail)) only [go_sem]; with_reducible refine hK _ _ ?_; clear hK K) | refine At.nil rfl ?_ | refine RG.nil rfl ?_ | ((first | refine AtL.skipg rfl rfl rfl rfl rfl ?_ | refine RGL.skipg rfl rfl rfl rfl rfl ?_ | refine AtL.skipu rfl rfl rfl rfl ?_ | refine RGL.skipu rfl rfl rfl rfl ?_); simp only [putL, List.set_cons_zero, List.set_cons_succ]) | refine Goes.yes rfl ?_ | refine Goes.no rfl ?_ | refine Goes.drawR [] (by kernel_rfl) ?_)
  by_cases hk : ¬ n = k
  · have e : ((n : Int) == (k : Int)) = false := by rw [beq_eq_false_iff_ne]; omega
    rw [show decide (n = k ∧ 3 ≤ a ∧ a ≤ 5) = false from decide_eq_false (by omega)]
    simp only [e]
    repeat (first | refine Goes.reg ?_ | refine Goes.ctl2 rfl ?_ | ((first | refine qv1 rfl rfl rfl fun K hK => ?_ | refine qv3 rfl rfl rfl fun K hK => ?_ | refine qv2 rfl rfl rfl rfl rfl rfl fun K hK => ?_ | refine qv4 rfl rfl rfl rfl rfl rfl fun K hK => ?_); simp (disch := (first | omega | (simp only [sz] <;> omega) | fail)) only [go_sem]; with_reducible refine hK _ _ ?_; clear hK K) | refine At.nil rfl ?_ | refine RG.nil rfl ?_ | ((first | refine AtL.skipg rfl rfl rfl rfl rfl ?_ | refine RGL.skipg rfl rfl rfl rfl rfl ?_ | refine AtL.skipu rfl rfl rfl rfl ?_ | refine RGL.skipu rfl rfl rfl rfl ?_); simp only [putL, List.set_cons_zero, List.set_cons_succ]) | refine Goes.yes rfl ?_ | refine Goes.no rfl ?_)
    refine Goes.fin rfl (by simp (disch := (first | omega | (simp only [heapL_next, List.length_cons, List.length_nil, List.size_toArray, geo_len] <;> omega) | fail)) only [go_sem, resA, res1A, Try.results116] <;> rfl) ?_
    rfl
  have e : ((n : Int) == (k : Int)) = true := by rw [beq_iff_eq]; omega
  by_cases h4 : a = 4
  · rw [show decide (n = k ∧ 3 ≤ a ∧ a ≤ 5) = true from decide_eq_true (by omega)]
    have f0 : ((a : Int) == 4) = true := eq 4 h4
    simp only [e]
    repeat (first | refine Goes.reg ?_ | refine Goes.ctl2 rfl ?_ | ((first | refine qv1 rfl rfl rfl fun K hK => ?_ | refine qv3 rfl rfl rfl fun K hK => ?_ | refine qv2 rfl rfl rfl rfl rfl rfl fun K hK => ?_ | refine qv4 rfl rfl rfl rfl rfl rfl fun K hK => ?_); simp (disch := (first | omega | (simp only [sz] <;> omega) | fail)) only [go_sem, f0]; with_reducible refine hK _ _ ?_; clear hK K) | refine At.nil rfl ?_ | refine RG.nil rfl ?_ | ((first | refine AtL.skipg rfl rfl rfl rfl rfl ?_ | refine RGL.skipg rfl rfl rfl rfl rfl ?_ | refine AtL.skipu rfl rfl rfl rfl ?_ | refine RGL.skipu rfl rfl rfl rfl ?_); simp only [putL, List.set_cons_zero, List.set_cons_succ]) | refine Goes.yes rfl ?_ | refine Goes.no rfl ?_)
    refine Goes.fin rfl (by simp (disch := (first | omega | (simp only [heapL_next, List.length_cons, List.length_nil, List.size_toArray, geo_len] <;> omega) | fail)) only [go_sem, resA, res1A, Try.results116] <;> rfl) ?_
    rfl
  by_cases h5 : a = 5
  · rw [show decide (n = k ∧ 3 ≤ a ∧ a ≤ 5) = true from decide_eq_true (by omega)]
    have f0 : ((a : Int) == 4) = false := ne 4 h4
    have f1 : ((a : Int) == 5) = true := eq 5 h5
    simp only [e]
    repeat (first | refine Goes.reg ?_ | refine Goes.ctl2 rfl ?_ | ((first | refine qv1 rfl rfl rfl fun K hK => ?_ | refine qv3 rfl rfl rfl fun K hK => ?_ | refine qv2 rfl rfl rfl rfl rfl rfl fun K hK => ?_ | refine qv4 rfl rfl rfl rfl rfl rfl fun K hK => ?_); simp (disch := (first | omega | (simp only [sz] <;> omega) | fail)) only [go_sem, f0, f1]; with_reducible refine hK _ _ ?_; clear hK K) | refine At.nil rfl ?_ | refine RG.nil rfl ?_ | ((first | refine AtL.skipg rfl rfl rfl rfl rfl ?_ | refine RGL.skipg rfl rfl rfl rfl rfl ?_ | refine AtL.skipu rfl rfl rfl rfl ?_ | refine RGL.skipu rfl rfl rfl rfl ?_); simp only [putL, List.set_cons_zero, List.set_cons_succ]) | refine Goes.yes rfl ?_ | refine Goes.no rfl ?_)
    refine Goes.fin rfl (by simp (disch := (first | omega | (simp only [heapL_next, List.length_cons, List.length_nil, List.size_toArray, geo_len] <;> omega) | fail)) only [go_sem, resA, res1A, Try.results116] <;> rfl) ?_
    rfl
  by_cases h3 : a = 3
  · rw [show decide (n = k ∧ 3 ≤ a ∧ a ≤ 5) = true from decide_eq_true (by omega)]
    have f0 : ((a : Int) == 4) = false := ne 4 h4
    have f1 : ((a : Int) == 5) = false := ne 5 h5
    have f2 : ((a : Int) == 3) = true := eq 3 h3
    simp only [e]
    repeat (first | refine Goes.reg ?_ | refine Goes.ctl2 rfl ?_ | ((first | refine qv1 rfl rfl rfl fun K hK => ?_ | refine qv3 rfl rfl rfl fun K hK => ?_ | refine qv2 rfl rfl rfl rfl rfl rfl fun K hK => ?_ | refine qv4 rfl rfl rfl rfl rfl rfl fun K hK => ?_); simp (disch := (first | omega | (simp only [sz] <;> omega) | fail)) only [go_sem, f0, f1, f2]; with_reducible refine hK _ _ ?_; clear hK K) | refine At.nil rfl ?_ | refine RG.nil rfl ?_ | ((first | refine AtL.skipg rfl rfl rfl rfl rfl ?_ | refine RGL.skipg rfl rfl rfl rfl rfl ?_ | refine AtL.skipu rfl rfl rfl rfl ?_ | refine RGL.skipu rfl rfl rfl rfl ?_); simp only [putL, List.set_cons_zero, List.set_cons_succ]) | refine Goes.yes rfl ?_ | refine Goes.no rfl ?_)
    refine Goes.fin rfl (by simp (disch := (first | omega | (simp only [heapL_next, List.length_cons, List.length_nil, List.size_toArray, geo_len] <;> omega) | fail)) only [go_sem, resA, res1A, Try.results116] <;> rfl) ?_
    rfl
  · rw [show decide (n = k ∧ 3 ≤ a ∧ a ≤ 5) = false from decide_eq_false (by omega)]
    have f0 : ((a : Int) == 4) = false := ne 4 h4
    have f1 : ((a : Int) == 5) = false := ne 5 h5
    have f2 : ((a : Int) == 3) = false := ne 3 h3
    simp only [e]
    repeat (first | refine Goes.reg ?_ | refine Goes.ctl2 rfl ?_ | ((first | refine qv1 rfl rfl rfl fun K hK => ?_ | refine qv3 rfl rfl rfl fun K hK => ?_ | refine qv2 rfl rfl rfl rfl rfl rfl fun K hK => ?_ | refine qv4 rfl rfl rfl rfl rfl rfl fun K hK => ?_); simp (disch := (first | omega | (simp only [sz] <;> omega) | fail)) only [go_sem, f0, f1, f2]; with_reducible refine hK _ _ ?_; clear hK K) | refine At.nil rfl ?_ | refine RG.nil rfl ?_ | ((first | refine AtL.skipg rfl rfl rfl rfl rfl ?_ | refine RGL.skipg rfl rfl rfl rfl rfl ?_ | refine AtL.skipu rfl rfl rfl rfl ?_ | refine RGL.skipu rfl rfl rfl rfl ?_); simp only [putL, List.set_cons_zero, List.set_cons_succ]) | refine Goes.yes rfl ?_ | refine Goes.no rfl ?_)
    refine Goes.fin rfl (by simp (disch := (first | omega | (simp only [heapL_next, List.length_cons, List.length_nil, List.size_toArray, geo_len] <;> omega) | fail)) only [go_sem, resA, res1A, Try.results116] <;> rfl) ?_
    rfl
set_option maxHeartbeats 1000000 in
theorem long_does (S : St) (a n c o : Nat) :
    Does OF 121 #[pgV a n c o] [] S (.int .i64 ((if a = 0 ∨ a = 2 then 1 else max n 1 : Nat) : Int)) S := by
  refine Does.mk Try.func121 rfl rfl ?clo ?hand ?_
  case clo => exact clo1 (Clo.plain (pgV_plain _ _ _ _))
  case hand => exact Hand.plain rfl
  rw [Try.ntmps121]; simp only [List.size_toArray, List.length_cons, List.length_nil, List.replicate, List.cons_append, List.nil_append]
  unfold pgV
  have ne : ∀ j : Nat, a ≠ j → (((a : Nat) : Int) == (j : Int)) = false := fun j h => by rw [beq_eq_false_iff_ne]; omega
  have eq : ∀ j : Nat, a = j → (((a : Nat) : Int) == (j : Int)) = true := fun j h => by rw [h]; exact beq_self_eq_true _
  by_cases h0 : a = 0
  · rw [if_pos (.inl h0)]
    have f0 : ((a : Int) == 0) = true := eq 0 h0
    repeat (first | refine Goes.reg ?_ | refine Goes.ctl2 rfl ?_ | ((first | refine qv1 rfl rfl rfl fun K hK => ?_ | refine qv3 rfl rfl rfl fun K hK => ?_ | refine qv2 rfl rfl rfl rfl rfl rfl fun K hK => ?_ | refine qv4 rfl rfl rfl rfl rfl rfl fun K hK => ?_ | refine qn1 rfl rfl rfl fun K hK => ?_ | refine qn3 rfl rfl rfl fun K hK => ?_ | refine qt1 rfl rfl rfl fun K hK => ?_ | refine qt3 rfl rfl rfl fun K hK => ?_); simp (disch := (first | omega | (simp only [sz] <;> omega) | fail)) only [go_sem, f0]; with_reducible refine hK _ _ ?_; clear hK K) | refine At.nil rfl ?_ | refine RG.nil rfl ?_ | ((first | refine AtL.skipg rfl rfl rfl rfl rfl ?_ | refine RGL.skipg rfl rfl rfl rfl rfl ?_ | refine AtL.skipu rfl rfl rfl rfl ?_ | refine RGL.skipu rfl rfl rfl rfl ?_); simp only [putL, List.set_cons_zero, List.set_cons_succ]) | refine Goes.yes rfl ?_ | refine Goes.no rfl ?_ | refine Goes.drawR [] (by kernel_rfl) ?_)
    refine Goes.fin rfl (by simp (disch := (first | omega | (simp only [heapL_next, List.length_cons, List.length_nil, List.size_toArray, geo_len] <;> omega) | fail)) only [go_sem, resA, res1A, Try.results121] <;> rfl) ?_
    rfl
  by_cases h2 : a = 2
  · rw [if_pos (.inr h2)]
    have f0 : ((a : Int) == 0) = false := ne 0 h0
    have f1 : ((a : Int) == 2) = true := eq 2 h2
    repeat (first | refine Goes.reg ?_ | refine Goes.ctl2 rfl ?_ | ((first | refine qv1 rfl rfl rfl fun K hK => ?_ | refine qv3 rfl rfl rfl fun K hK => ?_ | refine qv2 rfl rfl rfl rfl rfl rfl fun K hK => ?_ | refine qv4 rfl rfl rfl rfl rfl rfl fun K hK => ?_ | refine qn1 rfl rfl rfl fun K hK => ?_ | refine qn3 rfl rfl rfl fun K hK => ?_ | refine qt1 rfl rfl rfl fun K hK => ?_ | refine qt3 rfl rfl rfl fun K hK => ?_); simp (disch := (first | omega | (simp only [sz] <;> omega) | fail)) only [go_sem, f0, f1]; with_reducible refine hK _ _ ?_; clear hK K) | refine At.nil rfl ?_ | refine RG.nil rfl ?_ | ((first | refine AtL.skipg rfl rfl rfl rfl rfl ?_ | refine RGL.skipg rfl rfl rfl rfl rfl ?_ | refine AtL.skipu rfl rfl rfl rfl ?_ | refine RGL.skipu rfl rfl rfl rfl ?_); simp only [putL, List.set_cons_zero, List.set_cons_succ]) | refine Goes.yes rfl ?_ | refine Goes.no rfl ?_ | refine Goes.drawR [] (by kernel_rfl) ?_)
    refine Goes.fin rfl (by simp (disch := (first | omega | (simp only [heapL_next, List.length_cons, List.length_nil, List.size_toArray, geo_len] <;> omega) | fail)) only [go_sem, resA, res1A, Try.results121] <;> rfl) ?_
    rfl
  · rw [if_neg (by omega)]
    have f0 : ((a : Int) == 0) = false := ne 0 h0
    have f1 : ((a : Int) == 2) = false := ne 2 h2
    rw [show ((max n 1 : Nat) : Int) = (if (1 : Int) > (n : Int) then 1 else (n : Int)) by split <;> omega]
    repeat (first | refine Goes.reg ?_ | refine Goes.ctl2 rfl ?_ | ((first | refine qv1 rfl rfl rfl fun K hK => ?_ | refine qv3 rfl rfl rfl fun K hK => ?_ | refine qv2 rfl rfl rfl rfl rfl rfl fun K hK => ?_ | refine qv4 rfl rfl rfl rfl rfl rfl fun K hK => ?_ | refine qn1 rfl rfl rfl fun K hK => ?_ | refine qn3 rfl rfl rfl fun K hK => ?_ | refine qt1 rfl rfl rfl fun K hK => ?_ | refine qt3 rfl rfl rfl fun K hK => ?_); simp (disch := (first | omega | (simp only [sz] <;> omega) | fail)) only [go_sem, f0, f1]; with_reducible refine hK _ _ ?_; clear hK K) | refine At.nil rfl ?_ | refine RG.nil rfl ?_ | ((first | refine AtL.skipg rfl rfl rfl rfl rfl ?_ | refine RGL.skipg rfl rfl rfl rfl rfl ?_ | refine AtL.skipu rfl rfl rfl rfl ?_ | refine RGL.skipu rfl rfl rfl rfl ?_); simp only [putL, List.set_cons_zero, List.set_cons_succ]) | refine Goes.yes rfl ?_ | refine Goes.no rfl ?_ | refine Goes.drawR [] (by kernel_rfl) ?_)
    refine Goes.fin rfl (by simp (disch := (first | omega | (simp only [heapL_next, List.length_cons, List.length_nil, List.size_toArray, geo_len] <;> omega) | fail)) only [go_sem, resA, res1A, Try.results121] <;> rfl) ?_
    rfl
set_option maxHeartbeats 1000000 in
theorem any_does (S : St) (p m me : Nat) (steps : Nat) (ws0 ws : List UInt64) (bs : List UInt8) (N T : Nat) (k : Nat) {P B : Nat → UInt64} (hp : S[p]? = some (.port m me steps)) (hm : S[m]? = some (.mem ws bs)) (hst : steps ≤ 10000000000) (h1 : 1 ≤ N) (hN : N ≤ 256) (hT : T ≤ 64) (hP : Pg N T ws0 ws P B) (hk1 : 1 ≤ k) (hk2 : k ≤ 256) :
    ∃ v S', (∃ st' b, st' ≤ steps + 9 ∧ v = .bool b ∧ S' = accS S p m me st' ws bs ∧ (b = false → ∀ b', k.log2 ≤ b' → b' < 9 → B b' = 0)) ∧ Does OF 138 #[dkV p N T, .int .i64 k] [] S v S' := by
  have hne := hne_of hp hm
  refine Does.ex Try.func138 rfl rfl ?clo ?hand ?_
  case clo => exact clo2 (dk_clo N T (hlt_of hp)) iclo
  case hand => rintro v S' ⟨_, _, _, rfl, _⟩; exact Hand.plain rfl
  rw [Try.ntmps138]; simp only [List.size_toArray, List.length_cons, List.length_nil, List.replicate, List.cons_append, List.nil_append]
  unfold dkV
  repeat (first | refine Goes.reg ?_ | refine Goes.ctl2 rfl ?_ | ((first | refine qv1 rfl rfl rfl fun K hK => ?_ | refine qv3 rfl rfl rfl fun K hK => ?_ | refine qv2 rfl rfl rfl rfl rfl rfl fun K hK => ?_ | refine qv4 rfl rfl rfl rfl rfl rfl fun K hK => ?_ | refine qn1 rfl rfl rfl fun K hK => ?_ | refine qn3 rfl rfl rfl fun K hK => ?_ | refine qt1 rfl rfl rfl fun K hK => ?_ | refine qt3 rfl rfl rfl fun K hK => ?_); simp (disch := (first | omega | (simp only [sz] <;> omega) | fail)) only [go_sem]; with_reducible refine hK _ _ ?_; clear hK K) | refine At.nil rfl ?_ | refine RG.nil rfl ?_ | ((first | refine AtL.skipg rfl rfl rfl rfl rfl ?_ | refine RGL.skipg rfl rfl rfl rfl rfl ?_ | refine AtL.skipu rfl rfl rfl rfl ?_ | refine RGL.skipu rfl rfl rfl rfl ?_); simp only [putL, List.set_cons_zero, List.set_cons_succ]) | refine Goes.yes rfl ?_ | refine Goes.no rfl ?_ | refine Goes.drawR [] (by kernel_rfl) ?_)
  ((first | refine qp1 rfl rfl fun K hK => ?_ | refine qp3 rfl rfl fun K hK => ?_); simp (disch := (first | omega | (simp only [sz] <;> omega) | fail)) only [go_sem]; refine ⟨_, _, qpu fun w => log_any k w hk1 hk2, ?_⟩; (try simp only [go_sem]); with_reducible refine hK _ _ ?_; clear hK K)
  repeat (first | refine Goes.reg ?_ | refine Goes.ctl2 rfl ?_ | ((first | refine qv1 rfl rfl rfl fun K hK => ?_ | refine qv3 rfl rfl rfl fun K hK => ?_ | refine qv2 rfl rfl rfl rfl rfl rfl fun K hK => ?_ | refine qv4 rfl rfl rfl rfl rfl rfl fun K hK => ?_ | refine qn1 rfl rfl rfl fun K hK => ?_ | refine qn3 rfl rfl rfl fun K hK => ?_ | refine qt1 rfl rfl rfl fun K hK => ?_ | refine qt3 rfl rfl rfl fun K hK => ?_); simp (disch := (first | omega | (simp only [sz] <;> omega) | fail)) only [go_sem]; with_reducible refine hK _ _ ?_; clear hK K) | refine At.nil rfl ?_ | refine RG.nil rfl ?_ | ((first | refine AtL.skipg rfl rfl rfl rfl rfl ?_ | refine RGL.skipg rfl rfl rfl rfl rfl ?_ | refine AtL.skipu rfl rfl rfl rfl ?_ | refine RGL.skipu rfl rfl rfl rfl ?_); simp only [putL, List.set_cons_zero, List.set_cons_succ]) | refine Goes.yes rfl ?_ | refine Goes.no rfl ?_ | refine Goes.drawR [] (by kernel_rfl) ?_)
  have hlg := log2_lt9 hk1 hk2
  refine Goes.wh (fun q tmps h S' => ∃ b st : Nat, q = 9 - b ∧ b ≤ 9 ∧ k.log2 ≤ b ∧ st + k.log2 ≤ steps + b ∧ (∀ b', k.log2 ≤ b' → b' < b → B b' = 0) ∧ S' = accS S p m me st ws bs ∧ h = heapL [some { cells := (dkC p N T).toList, elem := 152 }] ∧ tmps.length = 22 ∧
    tmps.getD 0 undef = .agg (dkC p N T) ∧ tmps.getD 1 undef = .int .i64 k ∧ tmps.getD 2 undef = .pointer (some ⟨0, 0, none⟩) ∧ tmps.getD 5 undef = .int .i64 b) (m := 9 - k.log2) ⟨k.log2, steps, rfl, by omega, by omega, by omega, fun _ _ _ => by omega, (acc_same hp hm).symm, rfl, rfl, rfl, rfl, rfl, rfl⟩ ?_
  rintro q tmps h S' ih ⟨b, st, rfl, hb9, hbk, hst', hz, rfl, rfl, hl, f0, f1, f2, f5⟩
  obtain ⟨V, hV, hT⟩ := frame_lit hl; replace hT : _ = ([V 0, V 1, V 2, V 3, V 4, V 5, V 6, V 7, V 8, V 9, V 10, V 11, V 12, V 13, V 14, V 15, V 16, V 17, V 18, V 19, V 20, V 21] : List Value) := hT; rw [hV] at f0 f1 f2 f5; subst hT; simp only [f0, f1, f2, f5]; clear hV hl
  by_cases hlt : b < 9
  · have d1 : decide ((b : Int) < 9) = true := decide_eq_true (by omega)
    repeat (first | refine Goes.reg ?_ | refine Goes.ctl2 rfl ?_ | ((first | refine qv1 rfl rfl rfl fun K hK => ?_ | refine qv3 rfl rfl rfl fun K hK => ?_ | refine qv2 rfl rfl rfl rfl rfl rfl fun K hK => ?_ | refine qv4 rfl rfl rfl rfl rfl rfl fun K hK => ?_ | refine qn1 rfl rfl rfl fun K hK => ?_ | refine qn3 rfl rfl rfl fun K hK => ?_ | refine qt1 rfl rfl rfl fun K hK => ?_ | refine qt3 rfl rfl rfl fun K hK => ?_); simp (disch := (first | omega | (simp only [sz] <;> omega) | fail)) only [go_sem, d1]; with_reducible refine hK _ _ ?_; clear hK K) | refine At.nil rfl ?_ | refine RG.nil rfl ?_ | ((first | refine AtL.skipg rfl rfl rfl rfl rfl ?_ | refine RGL.skipg rfl rfl rfl rfl rfl ?_ | refine AtL.skipu rfl rfl rfl rfl ?_ | refine RGL.skipu rfl rfl rfl rfl ?_); simp only [putL, List.set_cons_zero, List.set_cons_succ]) | refine Goes.yes rfl ?_ | refine Goes.no rfl ?_ | refine Goes.drawR [] (by kernel_rfl) ?_)
    ((first | refine qp1 rfl rfl fun K hK => ?_ | refine qp3 rfl rfl fun K hK => ?_); simp (disch := (first | omega | (simp only [sz] <;> omega) | fail)) only [go_sem]; refine ⟨_, _, qpu fun w => gBin_any N T b w hN hT, ?_⟩; (try simp only [go_sem]); with_reducible refine hK _ _ ?_; clear hK K)
    repeat (first | refine Goes.reg ?_ | refine Goes.ctl2 rfl ?_ | ((first | refine qv1 rfl rfl rfl fun K hK => ?_ | refine qv3 rfl rfl rfl fun K hK => ?_ | refine qv2 rfl rfl rfl rfl rfl rfl fun K hK => ?_ | refine qv4 rfl rfl rfl rfl rfl rfl fun K hK => ?_ | refine qn1 rfl rfl rfl fun K hK => ?_ | refine qn3 rfl rfl rfl fun K hK => ?_ | refine qt1 rfl rfl rfl fun K hK => ?_ | refine qt3 rfl rfl rfl fun K hK => ?_); simp (disch := (first | omega | (simp only [sz] <;> omega) | fail)) only [go_sem]; with_reducible refine hK _ _ ?_; clear hK K) | refine At.nil rfl ?_ | refine RG.nil rfl ?_ | ((first | refine AtL.skipg rfl rfl rfl rfl rfl ?_ | refine RGL.skipg rfl rfl rfl rfl rfl ?_ | refine AtL.skipu rfl rfl rfl rfl ?_ | refine RGL.skipu rfl rfl rfl rfl ?_); simp only [putL, List.set_cons_zero, List.set_cons_succ]) | refine Goes.yes rfl ?_ | refine Goes.no rfl ?_ | refine Goes.drawR [] (by kernel_rfl) ?_)
    ((first | refine qp1 rfl rfl fun K hK => ?_ | refine qp3 rfl rfl fun K hK => ?_); simp (disch := (first | omega | (simp only [sz] <;> omega) | fail)) only [go_sem]; refine ⟨_, _, .load _ (acc_p hp hm) (acc_m hp hm) (by omega), ?_⟩; (try simp only [go_sem]); with_reducible refine hK _ _ ?_; clear hK K)
    rw [load_same, ld_w (hP.bn b hlt), acc_acc hne]
    by_cases hB : B b = 0
    · have e1 : (((B b).toNat : Int) != 0) = false := by rw [hB]; rfl
      repeat (first | refine Goes.reg ?_ | refine Goes.ctl2 rfl ?_ | ((first | refine qv1 rfl rfl rfl fun K hK => ?_ | refine qv3 rfl rfl rfl fun K hK => ?_ | refine qv2 rfl rfl rfl rfl rfl rfl fun K hK => ?_ | refine qv4 rfl rfl rfl rfl rfl rfl fun K hK => ?_ | refine qn1 rfl rfl rfl fun K hK => ?_ | refine qn3 rfl rfl rfl fun K hK => ?_ | refine qt1 rfl rfl rfl fun K hK => ?_ | refine qt3 rfl rfl rfl fun K hK => ?_); simp (disch := (first | omega | (simp only [sz] <;> omega) | fail)) only [go_sem, e1]; with_reducible refine hK _ _ ?_; clear hK K) | refine At.nil rfl ?_ | refine RG.nil rfl ?_ | ((first | refine AtL.skipg rfl rfl rfl rfl rfl ?_ | refine RGL.skipg rfl rfl rfl rfl rfl ?_ | refine AtL.skipu rfl rfl rfl rfl ?_ | refine RGL.skipu rfl rfl rfl rfl ?_); simp only [putL, List.set_cons_zero, List.set_cons_succ]) | refine Goes.yes rfl ?_ | refine Goes.no rfl ?_ | refine Goes.drawR [] (by kernel_rfl) ?_)
      exact ih _ _ _ _ (by omega) ⟨b + 1, st + 1, rfl, by omega, by omega, by omega, fun b' h1 h2 => (if he : b' = b then by rw [he]; exact hB else hz b' h1 (by omega)), rfl, rfl, rfl, rfl, rfl, rfl, rfl⟩
    · have e1 : (((B b).toNat : Int) != 0) = true := by
        rw [bne_iff_ne]; intro h; exact hB (UInt64.toNat_inj.1 (by simpa using h))
      repeat (first | refine Goes.reg ?_ | refine Goes.ctl2 rfl ?_ | ((first | refine qv1 rfl rfl rfl fun K hK => ?_ | refine qv3 rfl rfl rfl fun K hK => ?_ | refine qv2 rfl rfl rfl rfl rfl rfl fun K hK => ?_ | refine qv4 rfl rfl rfl rfl rfl rfl fun K hK => ?_ | refine qn1 rfl rfl rfl fun K hK => ?_ | refine qn3 rfl rfl rfl fun K hK => ?_ | refine qt1 rfl rfl rfl fun K hK => ?_ | refine qt3 rfl rfl rfl fun K hK => ?_); simp (disch := (first | omega | (simp only [sz] <;> omega) | fail)) only [go_sem, e1]; with_reducible refine hK _ _ ?_; clear hK K) | refine At.nil rfl ?_ | refine RG.nil rfl ?_ | ((first | refine AtL.skipg rfl rfl rfl rfl rfl ?_ | refine RGL.skipg rfl rfl rfl rfl rfl ?_ | refine AtL.skipu rfl rfl rfl rfl ?_ | refine RGL.skipu rfl rfl rfl rfl ?_); simp only [putL, List.set_cons_zero, List.set_cons_succ]) | refine Goes.yes rfl ?_ | refine Goes.no rfl ?_ | refine Goes.drawR [] (by kernel_rfl) ?_)
      refine Goes.finE rfl (by simp (disch := (first | omega | (simp only [heapL_next, List.length_cons, List.length_nil, List.size_toArray, geo_len] <;> omega) | fail)) only [go_sem, resA, res1A, Try.results138] <;> rfl) ?_
      exact ⟨_, _, by omega, rfl, rfl, fun h => by cases h⟩
  · have d1 : decide ((b : Int) < 9) = false := decide_eq_false (by omega)
    repeat (first | refine Goes.reg ?_ | refine Goes.ctl2 rfl ?_ | ((first | refine qv1 rfl rfl rfl fun K hK => ?_ | refine qv3 rfl rfl rfl fun K hK => ?_ | refine qv2 rfl rfl rfl rfl rfl rfl fun K hK => ?_ | refine qv4 rfl rfl rfl rfl rfl rfl fun K hK => ?_ | refine qn1 rfl rfl rfl fun K hK => ?_ | refine qn3 rfl rfl rfl fun K hK => ?_ | refine qt1 rfl rfl rfl fun K hK => ?_ | refine qt3 rfl rfl rfl fun K hK => ?_); simp (disch := (first | omega | (simp only [sz] <;> omega) | fail)) only [go_sem, d1]; with_reducible refine hK _ _ ?_; clear hK K) | refine At.nil rfl ?_ | refine RG.nil rfl ?_ | ((first | refine AtL.skipg rfl rfl rfl rfl rfl ?_ | refine RGL.skipg rfl rfl rfl rfl rfl ?_ | refine AtL.skipu rfl rfl rfl rfl ?_ | refine RGL.skipu rfl rfl rfl rfl ?_); simp only [putL, List.set_cons_zero, List.set_cons_succ]) | refine Goes.yes rfl ?_ | refine Goes.no rfl ?_ | refine Goes.drawR [] (by kernel_rfl) ?_)
    refine Goes.finE rfl (by simp (disch := (first | omega | (simp only [heapL_next, List.length_cons, List.length_nil, List.size_toArray, geo_len] <;> omega) | fail)) only [go_sem, resA, res1A, Try.results138] <;> rfl) ?_
    exact ⟨_, _, by omega, rfl, rfl, fun _ b' h1 h2 => hz b' h1 (by omega)⟩
end Go.Proofs.Ytceddijolfpppaa
namespace Go.Proofs.Ytceddijolfpppaa
open Go Go.RowKit
set_option linter.unusedSimpArgs false
set_option linter.unusedVariables false
theorem dlt_f {a b : Int} (h : b ≤ a) : decide (a < b) = false := decide_eq_false (by omega)
theorem dle_f {a b : Int} (h : b < a) : decide (a ≤ b) = false := decide_eq_false (by omega)
theorem beq_t {a b : Int} (h : a = b) : (a == b) = true := by rw [h]; exact beq_self_eq_true _
theorem beq_f {a b : Int} (h : a < b ∨ b < a) : (a == b) = false := by rw [beq_eq_false_iff_ne]; omega
theorem bne_t {a b : Int} (h : a < b ∨ b < a) : (a != b) = true := by rw [bne_iff_ne]; omega
theorem bne_f {a b : Int} (h : a = b) : (a != b) = false := by rw [h]; exact bne_self_eq_false _
theorem ile_T {a b : Int} (h : a ≤ b) : (a ≤ b) = True := eq_true h
theorem ilt_T {a b : Int} (h : a < b) : (a < b) = True := eq_true h
theorem nle_T {a b : Nat} (h : a ≤ b) : (a ≤ b) = True := eq_true h
theorem nlt_T {a b : Nat} (h : a < b) : (a < b) = True := eq_true h
theorem tdiv_n (a n : Nat) : (a : Int).tdiv (n : Int) = ((a / n : Nat) : Int) := by
  rw [Int.tdiv_eq_ediv_of_nonneg (by omega)]; exact (Int.natCast_ediv a n).symm
theorem tmod_n (a n : Nat) : (a : Int).tmod (n : Int) = ((a % n : Nat) : Int) := by
  rw [Int.tmod_eq_emod_of_nonneg (by omega)]; exact (Int.natCast_emod a n).symm
attribute [go_sem] dlt_f dle_f beq_t beq_f bne_t bne_f ile_T ilt_T nle_T nlt_T
end Go.Proofs.Ytceddijolfpppaa
