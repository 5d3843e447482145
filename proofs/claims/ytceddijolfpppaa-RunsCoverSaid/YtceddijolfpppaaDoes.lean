/-
  Contracts, over the abstract machine: lock, cache; what a law begins with.
  Conditions: the port and its memory are there; step counts are far from their end.
-/
import Derived.Test.YtceddijolfpppaaFace
namespace Go.Proofs.Ytceddijolfpppaa
open Go Go.RowKit
set_option linter.unusedSimpArgs false
set_option linter.unusedVariables false

theorem hlt_of {S : St} {p : Nat} {ob : Ob} (h : S[p]? = some ob) : p < S.length := (List.getElem?_eq_some_iff.1 h).1
theorem hne_of {S : St} {p m : Nat} {a : Nat} {me : Int} {s : Nat} {ws : List UInt64} {bs : List UInt8} (h : S[p]? = some (.port a me s)) (hm : S[m]? = some (.mem ws bs)) : p ≠ m := by
  rintro rfl; rw [h] at hm; cases hm
theorem acc_p {S : St} {p m a : Nat} {me me' : Int} {s s' : Nat} {ws ws' : List UInt64} {bs bs' : List UInt8} (h : S[p]? = some (.port a me s)) (hm : S[m]? = some (.mem ws bs)) : (accS S p m me' s' ws' bs')[p]? = some (.port m me' s') := (accS_get h hm (hne_of h hm)).1
theorem acc_m {S : St} {p m a : Nat} {me me' : Int} {s s' : Nat} {ws ws' : List UInt64} {bs bs' : List UInt8} (h : S[p]? = some (.port a me s)) (hm : S[m]? = some (.mem ws bs)) : (accS S p m me' s' ws' bs')[m]? = some (.mem ws' bs') := (accS_get h hm (hne_of h hm)).2
theorem acc_acc {S : St} {p m : Nat} (hne : p ≠ m) {me me' : Int} {s s' : Nat} {ws ws' : List UInt64} {bs bs' : List UInt8} : accS (accS S p m me s ws bs) p m me' s' ws' bs' = accS S p m me' s' ws' bs' := by
  unfold accS
  rw [List.set_comm _ _ (Ne.symm hne), List.set_set, List.set_set]
theorem acc_same {S : St} {p m : Nat} {me : Int} {s : Nat} {ws : List UInt64} {bs : List UInt8} (h : S[p]? = some (.port m me s)) (hm : S[m]? = some (.mem ws bs)) : accS S p m me s ws bs = S := by
  unfold accS
  apply List.ext_getElem?
  intro j
  have h1 := hlt_of h
  have h2 := hlt_of hm
  rw [List.getElem?_set, List.getElem?_set]
  by_cases e1 : m = j
  · subst e1; rw [if_pos rfl, hm]; simp [h2]
  · rw [if_neg e1]
    by_cases e2 : p = j
    · subst e2; rw [if_pos rfl, h]; simp [h1]
    · rw [if_neg e2]

theorem gbSum (N T : Nat) (hN : N ≤ 256) (hT : T ≤ 64) : gsum N T 19 ≤ 2097152 := by
  have h1 : T * 4 * (N + 1) ≤ 64 * 4 * 257 := Nat.mul_le_mul (by omega) (by omega)
  have h2 : T * (2 * T + 3) ≤ 64 * 131 := Nat.mul_le_mul hT (by omega)
  have h3 : T * (2 * T + 2) ≤ 64 * 130 := Nat.mul_le_mul hT (by omega)
  have h4 : gM N T ≤ 74176 := by unfold gM; omega
  simp only [gsum, gsz]
  omega
theorem gbLim (N T : Nat) (hN : N ≤ 256) (hT : T ≤ 64) : gb N T 19 ≤ 2097152 := by
  unfold gb; split
  · omega
  · exact gbSum N T hN hT
theorem gb7 (N T : Nat) (hN : 1 ≤ N) : 7 ≤ gb N T 19 := by
  unfold gb; rw [if_neg (by omega)]
  simp only [gsum, gsz]
  omega

/-- What the lock is, when a thread holds it. -/
def mineU (me : Nat) : UInt64 := UInt64.ofNat (me + 1)
theorem mineU_wrap (me : Nat) : IntKind.u64.wrap (IntKind.u64.wrap (me : Int) + 1) = ((mineU me).toNat : Int) := by
  unfold mineU
  rw [IntKind.wrap_u64, IntKind.wrap_u64]
  simp






theorem begun_does (S : St) (N T : Nat) (hN1 : 1 ≤ N) (hN : N ≤ 256) (hT1 : 1 ≤ T) (hT : T ≤ 64) (hw : gb N T 19 ≤ 2097152) :
    Does OF 99 #[.int .i64 N, .int .i64 T] [] S (.tuple #[.agg (geoC N T), hndV S.length]) (S ++ [.mem (List.replicate (gb N T 19) 0) (List.replicate (64 * N) 0)]) := by
  refine Does.mk Try.func99 rfl rfl ?clo ?hand ?_
  case clo => exact clo2 iclo iclo
  case hand => exact hand2 ghand (hhand (by simp [OF]))
  rw [Try.ntmps99]; simp only [List.size_toArray, List.length_cons, List.length_nil, List.replicate, List.cons_append, List.nil_append]
  repeat (first | refine Goes.reg ?_ | refine Goes.ctl2 rfl ?_ | ((first | refine qv1 rfl rfl rfl fun K hK => ?_ | refine qv3 rfl rfl rfl fun K hK => ?_ | refine qv2 rfl rfl rfl rfl rfl rfl fun K hK => ?_ | refine qv4 rfl rfl rfl rfl rfl rfl fun K hK => ?_ | refine qn1 rfl rfl rfl fun K hK => ?_ | refine qn3 rfl rfl rfl fun K hK => ?_ | refine qt1 rfl rfl rfl fun K hK => ?_ | refine qt3 rfl rfl rfl fun K hK => ?_); simp (disch := (first | omega | (simp only [sz] <;> omega) | fail)) only [go_sem]; with_reducible refine hK _ _ ?_; clear hK K) | refine At.nil rfl ?_ | refine RG.nil rfl ?_ | ((first | refine AtL.skipg rfl rfl rfl rfl rfl ?_ | refine RGL.skipg rfl rfl rfl rfl rfl ?_ | refine AtL.skipu rfl rfl rfl rfl ?_ | refine RGL.skipu rfl rfl rfl rfl ?_); simp only [putL, List.set_cons_zero, List.set_cons_succ]) | refine Goes.yes rfl ?_ | refine Goes.no rfl ?_ | refine Goes.drawR [] (by kernel_rfl) ?_)
  ((first | refine qp1 rfl rfl fun K hK => ?_ | refine qp3 rfl rfl fun K hK => ?_); simp (disch := (first | omega | (simp only [sz] <;> omega) | fail)) only [go_sem]; refine ⟨_, _, qpu fun w => gNew_any N T w hN1 hN hT1 hT, ?_⟩; (try simp only [go_sem]); with_reducible refine hK _ _ ?_; clear hK K)
  repeat (first | refine Goes.reg ?_ | refine Goes.ctl2 rfl ?_ | ((first | refine qv1 rfl rfl rfl fun K hK => ?_ | refine qv3 rfl rfl rfl fun K hK => ?_ | refine qv2 rfl rfl rfl rfl rfl rfl fun K hK => ?_ | refine qv4 rfl rfl rfl rfl rfl rfl fun K hK => ?_ | refine qn1 rfl rfl rfl fun K hK => ?_ | refine qn3 rfl rfl rfl fun K hK => ?_ | refine qt1 rfl rfl rfl fun K hK => ?_ | refine qt3 rfl rfl rfl fun K hK => ?_); simp (disch := (first | omega | (simp only [sz] <;> omega) | fail)) only [go_sem]; with_reducible refine hK _ _ ?_; clear hK K) | refine At.nil rfl ?_ | refine RG.nil rfl ?_ | ((first | refine AtL.skipg rfl rfl rfl rfl rfl ?_ | refine RGL.skipg rfl rfl rfl rfl rfl ?_ | refine AtL.skipu rfl rfl rfl rfl ?_ | refine RGL.skipu rfl rfl rfl rfl ?_); simp only [putL, List.set_cons_zero, List.set_cons_succ]) | refine Goes.yes rfl ?_ | refine Goes.no rfl ?_ | refine Goes.drawR [] (by kernel_rfl) ?_)
  ((first | refine qp1 rfl rfl fun K hK => ?_ | refine qp3 rfl rfl fun K hK => ?_); simp (disch := (first | omega | (simp only [sz] <;> omega) | fail)) only [go_sem]; refine ⟨_, _, qpu fun w => gWords_any N T w, ?_⟩; (try simp only [go_sem]); with_reducible refine hK _ _ ?_; clear hK K)
  repeat (first | refine Goes.reg ?_ | refine Goes.ctl2 rfl ?_ | ((first | refine qv1 rfl rfl rfl fun K hK => ?_ | refine qv3 rfl rfl rfl fun K hK => ?_ | refine qv2 rfl rfl rfl rfl rfl rfl fun K hK => ?_ | refine qv4 rfl rfl rfl rfl rfl rfl fun K hK => ?_ | refine qn1 rfl rfl rfl fun K hK => ?_ | refine qn3 rfl rfl rfl fun K hK => ?_ | refine qt1 rfl rfl rfl fun K hK => ?_ | refine qt3 rfl rfl rfl fun K hK => ?_); simp (disch := (first | omega | (simp only [sz] <;> omega) | fail)) only [go_sem]; with_reducible refine hK _ _ ?_; clear hK K) | refine At.nil rfl ?_ | refine RG.nil rfl ?_ | ((first | refine AtL.skipg rfl rfl rfl rfl rfl ?_ | refine RGL.skipg rfl rfl rfl rfl rfl ?_ | refine AtL.skipu rfl rfl rfl rfl ?_ | refine RGL.skipu rfl rfl rfl rfl ?_); simp only [putL, List.set_cons_zero, List.set_cons_succ]) | refine Goes.yes rfl ?_ | refine Goes.no rfl ?_ | refine Goes.drawR [] (by kernel_rfl) ?_)
  ((first | refine qp1 rfl rfl fun K hK => ?_ | refine qp3 rfl rfl fun K hK => ?_); simp (disch := (first | omega | (simp only [sz] <;> omega) | fail)) only [go_sem]; refine ⟨_, _, qpu fun w => gPages_any N T w, ?_⟩; (try simp only [go_sem]); with_reducible refine hK _ _ ?_; clear hK K)
  repeat (first | refine Goes.reg ?_ | refine Goes.ctl2 rfl ?_ | ((first | refine qv1 rfl rfl rfl fun K hK => ?_ | refine qv3 rfl rfl rfl fun K hK => ?_ | refine qv2 rfl rfl rfl rfl rfl rfl fun K hK => ?_ | refine qv4 rfl rfl rfl rfl rfl rfl fun K hK => ?_ | refine qn1 rfl rfl rfl fun K hK => ?_ | refine qn3 rfl rfl rfl fun K hK => ?_ | refine qt1 rfl rfl rfl fun K hK => ?_ | refine qt3 rfl rfl rfl fun K hK => ?_); simp (disch := (first | omega | (simp only [sz] <;> omega) | fail)) only [go_sem]; with_reducible refine hK _ _ ?_; clear hK K) | refine At.nil rfl ?_ | refine RG.nil rfl ?_ | ((first | refine AtL.skipg rfl rfl rfl rfl rfl ?_ | refine RGL.skipg rfl rfl rfl rfl rfl ?_ | refine AtL.skipu rfl rfl rfl rfl ?_ | refine RGL.skipu rfl rfl rfl rfl ?_); simp only [putL, List.set_cons_zero, List.set_cons_succ]) | refine Goes.yes rfl ?_ | refine Goes.no rfl ?_ | refine Goes.drawR [] (by kernel_rfl) ?_)
  have e : (64 * (N : Int)) = ((64 * N : Nat) : Int) := by push_cast; rfl
  rw [e]
  ((first | refine qp1 rfl rfl fun K hK => ?_ | refine qp3 rfl rfl fun K hK => ?_); simp (disch := (first | omega | (simp only [sz] <;> omega) | fail)) only [go_sem]; refine ⟨_, _, .mnew _ _ hw (by omega), ?_⟩; (try simp only [go_sem]); with_reducible refine hK _ _ ?_; clear hK K)
  repeat (first | refine Goes.reg ?_ | refine Goes.ctl2 rfl ?_ | ((first | refine qv1 rfl rfl rfl fun K hK => ?_ | refine qv3 rfl rfl rfl fun K hK => ?_ | refine qv2 rfl rfl rfl rfl rfl rfl fun K hK => ?_ | refine qv4 rfl rfl rfl rfl rfl rfl fun K hK => ?_ | refine qn1 rfl rfl rfl fun K hK => ?_ | refine qn3 rfl rfl rfl fun K hK => ?_ | refine qt1 rfl rfl rfl fun K hK => ?_ | refine qt3 rfl rfl rfl fun K hK => ?_); simp (disch := (first | omega | (simp only [sz] <;> omega) | fail)) only [go_sem]; with_reducible refine hK _ _ ?_; clear hK K) | refine At.nil rfl ?_ | refine RG.nil rfl ?_ | ((first | refine AtL.skipg rfl rfl rfl rfl rfl ?_ | refine RGL.skipg rfl rfl rfl rfl rfl ?_ | refine AtL.skipu rfl rfl rfl rfl ?_ | refine RGL.skipu rfl rfl rfl rfl ?_); simp only [putL, List.set_cons_zero, List.set_cons_succ]) | refine Goes.yes rfl ?_ | refine Goes.no rfl ?_ | refine Goes.drawR [] (by kernel_rfl) ?_)
  refine Goes.fin rfl (by simp (disch := (first | omega | (simp only [heapL_next, List.length_cons, List.length_nil, List.size_toArray, geo_len] <;> omega) | fail)) only [go_sem, resA, res1A, Try.results99] <;> rfl) ?_
  rfl
end Go.Proofs.Ytceddijolfpppaa
