/-
  Layer 10 over the abstract machine: contracts of package runs: Mark, Collect.
  Conditions: those of each contract.
-/
import Derived.Test.YtceddijolfpppaaRunsF
namespace Go.Proofs.Ytceddijolfpppaa
open Go Go.RowKit
set_option linter.unusedSimpArgs false
set_option linter.unusedVariables false

theorem wS_miss {ws : List UInt64} {n : Int} {x A B : UInt64} (h : wAt ws n = some x) (hx : x ≠ A) : wS 3 n A B ws = ws := by
  unfold wS
  rw [h]
  simp only [kNow, if_neg hx]
  unfold wAt at h
  split at h
  · cases h
  · obtain ⟨hl, rfl⟩ := List.getElem?_eq_some_iff.1 h
    exact set_same hl
theorem wT_cas {ws : List UInt64} {n : Int} {x A : UInt64} (h : wAt ws n = some x) : (wT 3 n A ws == 1) = decide (x = A) := by
  unfold wT
  rw [h]
  simp only [kTold]
  by_cases e : x = A
  · rw [if_pos e, decide_eq_true e]; rfl
  · rw [if_neg e, decide_eq_false e]; rfl

/-- Two ways to cut the same runs. -/
theorem cut_lt : ∀ {A A' C C' : List Rn} {r r' : Rn}, A ++ r :: C = A' ++ r' :: C' → Pos (A ++ r :: C) → tot A < tot A' → tot A + r.2 ≤ tot A'
  | [], [], _, _, _, _, _, _, h => by simp [tot] at h
  | [], y :: A', C, C', r, r', e, _, _ => by
    simp only [List.nil_append, List.cons_append, List.cons.injEq] at e
    obtain ⟨rfl, _⟩ := e
    simp only [tot]; omega
  | y :: A, [], C, C', r, r', e, _, h => by simp [tot] at h
  | y :: A, y' :: A', C, C', r, r', e, hp, h => by
    simp only [List.cons_append, List.cons.injEq] at e
    obtain ⟨rfl, e⟩ := e
    simp only [tot] at h ⊢
    have := cut_lt e (Pos.cons.1 hp).2 (by omega)
    omega
theorem cut_eq : ∀ {A A' C C' : List Rn} {r r' : Rn}, A ++ r :: C = A' ++ r' :: C' → Pos (A ++ r :: C) → tot A = tot A' → A = A' ∧ r = r' ∧ C = C'
  | [], [], _, _, _, _, e, _, _ => by
    simp only [List.nil_append, List.cons.injEq] at e
    exact ⟨rfl, e.1, e.2⟩
  | [], y :: A', C, C', r, r', e, hp, h => by
    simp only [List.nil_append, List.cons_append, List.cons.injEq] at e
    obtain ⟨rfl, _⟩ := e
    have := (Pos.cons.1 hp).1.1
    simp only [tot] at h; omega
  | y :: A, [], C, C', r, r', e, hp, h => by
    have := (Pos.cons.1 hp).1.1
    simp only [tot] at h; omega
  | y :: A, y' :: A', C, C', r, r', e, hp, h => by
    simp only [List.cons_append, List.cons.injEq] at e
    obtain ⟨rfl, e⟩ := e
    simp only [tot] at h
    obtain ⟨h1, h2, h3⟩ := cut_eq e (Pos.cons.1 hp).2 (by omega)
    exact ⟨by rw [h1], h2, h3⟩
theorem cut_in {A C0 A2 C2 : List Rn} {r2 : Rn} (h : A ++ C0 = A2 ++ r2 :: C2) (hlt : tot A2 < tot A) : ∃ X, A = A2 ++ r2 :: X := by
  rcases List.append_eq_append_iff.1 h with ⟨X, h1, h2⟩ | ⟨X, h1, h2⟩
  · rw [h1, tot_append] at hlt; omega
  · cases X with
    | nil => rw [h1, List.append_nil] at hlt; omega
    | cons y X =>
      simp only [List.cons_append, List.cons.injEq] at h2
      exact ⟨X, by rw [h1, h2.1]⟩
/-- A page's word names its run. -/
theorem word_head {L : List Rn} {x : Nat} (hp : Pos L) (hx : x < tot L) (ht : tot L ≤ 256) (h : kd (pw L x) ≠ 0) (h2 : kd (pw L x) ≠ 2) : ∃ A r C, L = A ++ r :: C ∧ x = tot A ∧ kd (pw L x) = r.1 ∧ ln (pw L x) = r.2 ∧ pw L x = pgU r.1 r.2 := by
  obtain ⟨A, r, C, z, rfl, rfl, hz⟩ := pw_cut hx
  obtain ⟨hA, hC⟩ := Pos.append.1 hp
  obtain ⟨hr, _⟩ := Pos.cons.1 hC
  have htt : tot A + r.2 ≤ 256 := by rw [tot_append] at ht; simp only [tot] at ht; omega
  by_cases h0 : z = 0
  · subst h0
    refine ⟨A, r, C, rfl, by simp, ?_⟩
    rw [Nat.add_zero, pw_head hA, ln_pgU (by omega) (by omega), kd_pgU (by omega) (by omega)]
    exact ⟨rfl, rfl, rfl⟩
  · exfalso
    rw [pw_in hA (by omega) hz] at h h2
    split at h2
    · rw [kd_pgU (by decide) (by omega)] at h2; omega
    · rename_i hc; rw [if_neg hc, kd_zero] at h; omega
theorem pw_kind {A C : List Rn} {q q' n : Nat} (hp : Pos A) (hn : 1 ≤ n) (h1 : q ≠ 1) (h2 : q' ≠ 1) (y : Nat) : up (pw (A ++ (q, n) :: C)) (tot A) (pgU q' n) y = pw (A ++ (q', n) :: C) y := by
  by_cases hy : y < tot A
  · rw [up_ne (by omega), pw_left _ hp hy, pw_left _ hp hy]
  · obtain ⟨z, rfl⟩ : ∃ z, y = tot A + z := ⟨y - tot A, by omega⟩
    rw [pw_right _ z hp]
    by_cases hz : z < n
    · rw [pw_use h2 hz]
      by_cases h0 : z = 0
      · rw [up_eq (by omega), if_pos h0]
      · rw [up_ne (by omega), if_neg h0, pw_right _ z hp, pw_use h1 hz, if_neg h0]
    · obtain ⟨z, rfl⟩ : ∃ y, z = n + y := ⟨z - n, by omega⟩
      rw [up_ne (by omega), pw_right _ _ hp, pw_past _ hn, pw_past _ hn]
theorem bw_kind {A C : List Rn} {q q' n : Nat} (h1 : q ≠ 1) (h2 : q' ≠ 1) (b : Nat) : bw (A ++ (q, n) :: C) b = bw (A ++ (q', n) :: C) b := by
  unfold bw
  rw [bn_append, bn_append, bn_cons, bn_cons]
  simp [h1, h2]

/-- What Mark says and leaves. -/
def MarkSaid (page k : Int) (L : List Rn) (v : Bool) (L' : List Rn) : Prop :=
  (v = false ∧ L' = L ∧ ∀ A n C, L = A ++ (4, n) :: C → page = (tot A : Nat) → k = (n : Nat) → False) ∨
  (v = true ∧ ∃ A n C, L = A ++ (4, n) :: C ∧ page = (tot A : Nat) ∧ k = (n : Nat) ∧ 1 ≤ n ∧ L' = A ++ (5, n) :: C)

set_option maxHeartbeats 2000000 in
theorem mark_does (S : St) (p m me : Nat) (steps : Nat) (ws0 ws : List UInt64) (bs : List UInt8) (N T : Nat) (page k : Int) {L : List Rn} (hp : S[p]? = some (.port m me steps)) (hm : S[m]? = some (.mem ws bs)) (hst : steps ≤ 1000000000) (h1 : 1 ≤ N) (hN : N ≤ 256) (hT : T ≤ 64) (hP : Pg N T ws0 ws (pw L) (bw L)) (hpos : Pos L) (htot : tot L = N) :
    ∃ v S', (∃ st' ws' L' t, v = .bool t ∧ st' ≤ steps + 1 ∧ S' = accS S p m me st' ws' bs ∧ Pg N T ws0 ws' (pw L') (bw L') ∧ MarkSaid page k L t L') ∧ Does OF 68 #[prtV p, .agg (geoC N T), .int .i64 page, .int .i64 k] [] S v S' := by
  have hne := hne_of hp hm
  refine Does.ex Try.func68 rfl rfl ?clo ?hand ?_
  case clo => exact clo4 (pclo (hlt_of hp)) (Clo.plain (geo_plain _ _)) iclo iclo
  case hand => rintro v S' ⟨_, _, _, _, rfl, _⟩; exact Hand.plain rfl
  rw [Try.ntmps68]; simp only [List.size_toArray, List.length_cons, List.length_nil, List.replicate, List.cons_append, List.nil_append]
  have hout : ∀ A n C, L = A ++ (4, n) :: C → (tot A : Int) < N ∧ 1 ≤ n ∧ n ≤ N := by
    rintro A n C rfl
    have := (Pos.cons.1 (Pos.append.1 hpos).2).1.1
    rw [tot_append] at htot; simp only [tot] at htot
    simp only at this
    omega
  by_cases b1 : page < 0
  · repeat (first | refine Goes.reg ?_ | refine Goes.ctl2 rfl ?_ | ((first | refine qv1 rfl rfl rfl fun K hK => ?_ | refine qv3 rfl rfl rfl fun K hK => ?_ | refine qv2 rfl rfl rfl rfl rfl rfl fun K hK => ?_ | refine qv4 rfl rfl rfl rfl rfl rfl fun K hK => ?_ | refine qn1 rfl rfl rfl fun K hK => ?_ | refine qn3 rfl rfl rfl fun K hK => ?_ | refine qt1 rfl rfl rfl fun K hK => ?_ | refine qt3 rfl rfl rfl fun K hK => ?_); simp (disch := (first | omega | (simp only [sz] <;> omega) | fail)) only [go_sem]; with_reducible refine hK _ _ ?_; clear hK K) | refine At.nil rfl ?_ | refine RG.nil rfl ?_ | ((first | refine AtL.skipg rfl rfl rfl rfl rfl ?_ | refine RGL.skipg rfl rfl rfl rfl rfl ?_ | refine AtL.skipu rfl rfl rfl rfl ?_ | refine RGL.skipu rfl rfl rfl rfl ?_); simp only [putL, List.set_cons_zero, List.set_cons_succ]) | refine Goes.yes rfl ?_ | refine Goes.no rfl ?_ | refine Goes.drawR [] (by kernel_rfl) ?_)
    refine Goes.finE rfl (by simp (disch := (first | omega | (simp only [heapL_next, List.length_cons, List.length_nil, List.size_toArray, geo_len] <;> omega) | fail)) only [go_sem, resA, res1A, Try.results68] <;> rfl) ?_
    exact ⟨steps, ws, L, _, rfl, by omega, (acc_same hp hm).symm, hP, .inl ⟨rfl, rfl, fun A n C h h2 h3 => by have := hout A n C h; omega⟩⟩
  by_cases b3 : (N : Int) ≤ page
  · repeat (first | refine Goes.reg ?_ | refine Goes.ctl2 rfl ?_ | ((first | refine qv1 rfl rfl rfl fun K hK => ?_ | refine qv3 rfl rfl rfl fun K hK => ?_ | refine qv2 rfl rfl rfl rfl rfl rfl fun K hK => ?_ | refine qv4 rfl rfl rfl rfl rfl rfl fun K hK => ?_ | refine qn1 rfl rfl rfl fun K hK => ?_ | refine qn3 rfl rfl rfl fun K hK => ?_ | refine qt1 rfl rfl rfl fun K hK => ?_ | refine qt3 rfl rfl rfl fun K hK => ?_); simp (disch := (first | omega | (simp only [sz] <;> omega) | fail)) only [go_sem]; with_reducible refine hK _ _ ?_; clear hK K) | refine At.nil rfl ?_ | refine RG.nil rfl ?_ | ((first | refine AtL.skipg rfl rfl rfl rfl rfl ?_ | refine RGL.skipg rfl rfl rfl rfl rfl ?_ | refine AtL.skipu rfl rfl rfl rfl ?_ | refine RGL.skipu rfl rfl rfl rfl ?_); simp only [putL, List.set_cons_zero, List.set_cons_succ]) | refine Goes.yes rfl ?_ | refine Goes.no rfl ?_ | refine Goes.drawR [] (by kernel_rfl) ?_)
    ((first | refine qp1 rfl rfl fun K hK => ?_ | refine qp3 rfl rfl fun K hK => ?_); simp (disch := (first | omega | (simp only [sz] <;> omega) | fail)) only [go_sem]; refine ⟨_, _, qpu fun w => gPages_any N T w, ?_⟩; (try simp only [go_sem]); with_reducible refine hK _ _ ?_; clear hK K)
    repeat (first | refine Goes.reg ?_ | refine Goes.ctl2 rfl ?_ | ((first | refine qv1 rfl rfl rfl fun K hK => ?_ | refine qv3 rfl rfl rfl fun K hK => ?_ | refine qv2 rfl rfl rfl rfl rfl rfl fun K hK => ?_ | refine qv4 rfl rfl rfl rfl rfl rfl fun K hK => ?_ | refine qn1 rfl rfl rfl fun K hK => ?_ | refine qn3 rfl rfl rfl fun K hK => ?_ | refine qt1 rfl rfl rfl fun K hK => ?_ | refine qt3 rfl rfl rfl fun K hK => ?_); simp (disch := (first | omega | (simp only [sz] <;> omega) | fail)) only [go_sem]; with_reducible refine hK _ _ ?_; clear hK K) | refine At.nil rfl ?_ | refine RG.nil rfl ?_ | ((first | refine AtL.skipg rfl rfl rfl rfl rfl ?_ | refine RGL.skipg rfl rfl rfl rfl rfl ?_ | refine AtL.skipu rfl rfl rfl rfl ?_ | refine RGL.skipu rfl rfl rfl rfl ?_); simp only [putL, List.set_cons_zero, List.set_cons_succ]) | refine Goes.yes rfl ?_ | refine Goes.no rfl ?_ | refine Goes.drawR [] (by kernel_rfl) ?_)
    refine Goes.finE rfl (by simp (disch := (first | omega | (simp only [heapL_next, List.length_cons, List.length_nil, List.size_toArray, geo_len] <;> omega) | fail)) only [go_sem, resA, res1A, Try.results68] <;> rfl) ?_
    exact ⟨steps, ws, L, _, rfl, by omega, (acc_same hp hm).symm, hP, .inl ⟨rfl, rfl, fun A n C h h2 h3 => by have := hout A n C h; omega⟩⟩
  by_cases b2 : k < 1
  · repeat (first | refine Goes.reg ?_ | refine Goes.ctl2 rfl ?_ | ((first | refine qv1 rfl rfl rfl fun K hK => ?_ | refine qv3 rfl rfl rfl fun K hK => ?_ | refine qv2 rfl rfl rfl rfl rfl rfl fun K hK => ?_ | refine qv4 rfl rfl rfl rfl rfl rfl fun K hK => ?_ | refine qn1 rfl rfl rfl fun K hK => ?_ | refine qn3 rfl rfl rfl fun K hK => ?_ | refine qt1 rfl rfl rfl fun K hK => ?_ | refine qt3 rfl rfl rfl fun K hK => ?_); simp (disch := (first | omega | (simp only [sz] <;> omega) | fail)) only [go_sem]; with_reducible refine hK _ _ ?_; clear hK K) | refine At.nil rfl ?_ | refine RG.nil rfl ?_ | ((first | refine AtL.skipg rfl rfl rfl rfl rfl ?_ | refine RGL.skipg rfl rfl rfl rfl rfl ?_ | refine AtL.skipu rfl rfl rfl rfl ?_ | refine RGL.skipu rfl rfl rfl rfl ?_); simp only [putL, List.set_cons_zero, List.set_cons_succ]) | refine Goes.yes rfl ?_ | refine Goes.no rfl ?_ | refine Goes.drawR [] (by kernel_rfl) ?_)
    ((first | refine qp1 rfl rfl fun K hK => ?_ | refine qp3 rfl rfl fun K hK => ?_); simp (disch := (first | omega | (simp only [sz] <;> omega) | fail)) only [go_sem]; refine ⟨_, _, qpu fun w => gPages_any N T w, ?_⟩; (try simp only [go_sem]); with_reducible refine hK _ _ ?_; clear hK K)
    repeat (first | refine Goes.reg ?_ | refine Goes.ctl2 rfl ?_ | ((first | refine qv1 rfl rfl rfl fun K hK => ?_ | refine qv3 rfl rfl rfl fun K hK => ?_ | refine qv2 rfl rfl rfl rfl rfl rfl fun K hK => ?_ | refine qv4 rfl rfl rfl rfl rfl rfl fun K hK => ?_ | refine qn1 rfl rfl rfl fun K hK => ?_ | refine qn3 rfl rfl rfl fun K hK => ?_ | refine qt1 rfl rfl rfl fun K hK => ?_ | refine qt3 rfl rfl rfl fun K hK => ?_); simp (disch := (first | omega | (simp only [sz] <;> omega) | fail)) only [go_sem]; with_reducible refine hK _ _ ?_; clear hK K) | refine At.nil rfl ?_ | refine RG.nil rfl ?_ | ((first | refine AtL.skipg rfl rfl rfl rfl rfl ?_ | refine RGL.skipg rfl rfl rfl rfl rfl ?_ | refine AtL.skipu rfl rfl rfl rfl ?_ | refine RGL.skipu rfl rfl rfl rfl ?_); simp only [putL, List.set_cons_zero, List.set_cons_succ]) | refine Goes.yes rfl ?_ | refine Goes.no rfl ?_ | refine Goes.drawR [] (by kernel_rfl) ?_)
    refine Goes.finE rfl (by simp (disch := (first | omega | (simp only [heapL_next, List.length_cons, List.length_nil, List.size_toArray, geo_len] <;> omega) | fail)) only [go_sem, resA, res1A, Try.results68] <;> rfl) ?_
    exact ⟨steps, ws, L, _, rfl, by omega, (acc_same hp hm).symm, hP, .inl ⟨rfl, rfl, fun A n C h h2 h3 => by have := hout A n C h; omega⟩⟩
  by_cases b4 : (N : Int) < k
  · repeat (first | refine Goes.reg ?_ | refine Goes.ctl2 rfl ?_ | ((first | refine qv1 rfl rfl rfl fun K hK => ?_ | refine qv3 rfl rfl rfl fun K hK => ?_ | refine qv2 rfl rfl rfl rfl rfl rfl fun K hK => ?_ | refine qv4 rfl rfl rfl rfl rfl rfl fun K hK => ?_ | refine qn1 rfl rfl rfl fun K hK => ?_ | refine qn3 rfl rfl rfl fun K hK => ?_ | refine qt1 rfl rfl rfl fun K hK => ?_ | refine qt3 rfl rfl rfl fun K hK => ?_); simp (disch := (first | omega | (simp only [sz] <;> omega) | fail)) only [go_sem]; with_reducible refine hK _ _ ?_; clear hK K) | refine At.nil rfl ?_ | refine RG.nil rfl ?_ | ((first | refine AtL.skipg rfl rfl rfl rfl rfl ?_ | refine RGL.skipg rfl rfl rfl rfl rfl ?_ | refine AtL.skipu rfl rfl rfl rfl ?_ | refine RGL.skipu rfl rfl rfl rfl ?_); simp only [putL, List.set_cons_zero, List.set_cons_succ]) | refine Goes.yes rfl ?_ | refine Goes.no rfl ?_ | refine Goes.drawR [] (by kernel_rfl) ?_)
    ((first | refine qp1 rfl rfl fun K hK => ?_ | refine qp3 rfl rfl fun K hK => ?_); simp (disch := (first | omega | (simp only [sz] <;> omega) | fail)) only [go_sem]; refine ⟨_, _, qpu fun w => gPages_any N T w, ?_⟩; (try simp only [go_sem]); with_reducible refine hK _ _ ?_; clear hK K)
    repeat (first | refine Goes.reg ?_ | refine Goes.ctl2 rfl ?_ | ((first | refine qv1 rfl rfl rfl fun K hK => ?_ | refine qv3 rfl rfl rfl fun K hK => ?_ | refine qv2 rfl rfl rfl rfl rfl rfl fun K hK => ?_ | refine qv4 rfl rfl rfl rfl rfl rfl fun K hK => ?_ | refine qn1 rfl rfl rfl fun K hK => ?_ | refine qn3 rfl rfl rfl fun K hK => ?_ | refine qt1 rfl rfl rfl fun K hK => ?_ | refine qt3 rfl rfl rfl fun K hK => ?_); simp (disch := (first | omega | (simp only [sz] <;> omega) | fail)) only [go_sem]; with_reducible refine hK _ _ ?_; clear hK K) | refine At.nil rfl ?_ | refine RG.nil rfl ?_ | ((first | refine AtL.skipg rfl rfl rfl rfl rfl ?_ | refine RGL.skipg rfl rfl rfl rfl rfl ?_ | refine AtL.skipu rfl rfl rfl rfl ?_ | refine RGL.skipu rfl rfl rfl rfl ?_); simp only [putL, List.set_cons_zero, List.set_cons_succ]) | refine Goes.yes rfl ?_ | refine Goes.no rfl ?_ | refine Goes.drawR [] (by kernel_rfl) ?_)
    ((first | refine qp1 rfl rfl fun K hK => ?_ | refine qp3 rfl rfl fun K hK => ?_); simp (disch := (first | omega | (simp only [sz] <;> omega) | fail)) only [go_sem]; refine ⟨_, _, qpu fun w => gPages_any N T w, ?_⟩; (try simp only [go_sem]); with_reducible refine hK _ _ ?_; clear hK K)
    repeat (first | refine Goes.reg ?_ | refine Goes.ctl2 rfl ?_ | ((first | refine qv1 rfl rfl rfl fun K hK => ?_ | refine qv3 rfl rfl rfl fun K hK => ?_ | refine qv2 rfl rfl rfl rfl rfl rfl fun K hK => ?_ | refine qv4 rfl rfl rfl rfl rfl rfl fun K hK => ?_ | refine qn1 rfl rfl rfl fun K hK => ?_ | refine qn3 rfl rfl rfl fun K hK => ?_ | refine qt1 rfl rfl rfl fun K hK => ?_ | refine qt3 rfl rfl rfl fun K hK => ?_); simp (disch := (first | omega | (simp only [sz] <;> omega) | fail)) only [go_sem]; with_reducible refine hK _ _ ?_; clear hK K) | refine At.nil rfl ?_ | refine RG.nil rfl ?_ | ((first | refine AtL.skipg rfl rfl rfl rfl rfl ?_ | refine RGL.skipg rfl rfl rfl rfl rfl ?_ | refine AtL.skipu rfl rfl rfl rfl ?_ | refine RGL.skipu rfl rfl rfl rfl ?_); simp only [putL, List.set_cons_zero, List.set_cons_succ]) | refine Goes.yes rfl ?_ | refine Goes.no rfl ?_ | refine Goes.drawR [] (by kernel_rfl) ?_)
    refine Goes.finE rfl (by simp (disch := (first | omega | (simp only [heapL_next, List.length_cons, List.length_nil, List.size_toArray, geo_len] <;> omega) | fail)) only [go_sem, resA, res1A, Try.results68] <;> rfl) ?_
    exact ⟨steps, ws, L, _, rfl, by omega, (acc_same hp hm).symm, hP, .inl ⟨rfl, rfl, fun A n C h h2 h3 => by have := hout A n C h; omega⟩⟩
  obtain ⟨x, rfl⟩ := Int.eq_ofNat_of_zero_le (show 0 ≤ page by omega)
  obtain ⟨n, rfl⟩ := Int.eq_ofNat_of_zero_le (show 0 ≤ k by omega)
  have hu := hP.pg x (by omega)
  repeat (first | refine Goes.reg ?_ | refine Goes.ctl2 rfl ?_ | ((first | refine qv1 rfl rfl rfl fun K hK => ?_ | refine qv3 rfl rfl rfl fun K hK => ?_ | refine qv2 rfl rfl rfl rfl rfl rfl fun K hK => ?_ | refine qv4 rfl rfl rfl rfl rfl rfl fun K hK => ?_ | refine qn1 rfl rfl rfl fun K hK => ?_ | refine qn3 rfl rfl rfl fun K hK => ?_ | refine qt1 rfl rfl rfl fun K hK => ?_ | refine qt3 rfl rfl rfl fun K hK => ?_); simp (disch := (first | omega | (simp only [sz] <;> omega) | fail)) only [go_sem]; with_reducible refine hK _ _ ?_; clear hK K) | refine At.nil rfl ?_ | refine RG.nil rfl ?_ | ((first | refine AtL.skipg rfl rfl rfl rfl rfl ?_ | refine RGL.skipg rfl rfl rfl rfl rfl ?_ | refine AtL.skipu rfl rfl rfl rfl ?_ | refine RGL.skipu rfl rfl rfl rfl ?_); simp only [putL, List.set_cons_zero, List.set_cons_succ]) | refine Goes.yes rfl ?_ | refine Goes.no rfl ?_ | refine Goes.drawR [] (by kernel_rfl) ?_)
  ((first | refine qp1 rfl rfl fun K hK => ?_ | refine qp3 rfl rfl fun K hK => ?_); simp (disch := (first | omega | (simp only [sz] <;> omega) | fail)) only [go_sem]; refine ⟨_, _, qpu fun w => gPages_any N T w, ?_⟩; (try simp only [go_sem]); with_reducible refine hK _ _ ?_; clear hK K)
  repeat (first | refine Goes.reg ?_ | refine Goes.ctl2 rfl ?_ | ((first | refine qv1 rfl rfl rfl fun K hK => ?_ | refine qv3 rfl rfl rfl fun K hK => ?_ | refine qv2 rfl rfl rfl rfl rfl rfl fun K hK => ?_ | refine qv4 rfl rfl rfl rfl rfl rfl fun K hK => ?_ | refine qn1 rfl rfl rfl fun K hK => ?_ | refine qn3 rfl rfl rfl fun K hK => ?_ | refine qt1 rfl rfl rfl fun K hK => ?_ | refine qt3 rfl rfl rfl fun K hK => ?_); simp (disch := (first | omega | (simp only [sz] <;> omega) | fail)) only [go_sem]; with_reducible refine hK _ _ ?_; clear hK K) | refine At.nil rfl ?_ | refine RG.nil rfl ?_ | ((first | refine AtL.skipg rfl rfl rfl rfl rfl ?_ | refine RGL.skipg rfl rfl rfl rfl rfl ?_ | refine AtL.skipu rfl rfl rfl rfl ?_ | refine RGL.skipu rfl rfl rfl rfl ?_); simp only [putL, List.set_cons_zero, List.set_cons_succ]) | refine Goes.yes rfl ?_ | refine Goes.no rfl ?_ | refine Goes.drawR [] (by kernel_rfl) ?_)
  ((first | refine qp1 rfl rfl fun K hK => ?_ | refine qp3 rfl rfl fun K hK => ?_); simp (disch := (first | omega | (simp only [sz] <;> omega) | fail)) only [go_sem]; refine ⟨_, _, qpu fun w => gPages_any N T w, ?_⟩; (try simp only [go_sem]); with_reducible refine hK _ _ ?_; clear hK K)
  repeat (first | refine Goes.reg ?_ | refine Goes.ctl2 rfl ?_ | ((first | refine qv1 rfl rfl rfl fun K hK => ?_ | refine qv3 rfl rfl rfl fun K hK => ?_ | refine qv2 rfl rfl rfl rfl rfl rfl fun K hK => ?_ | refine qv4 rfl rfl rfl rfl rfl rfl fun K hK => ?_ | refine qn1 rfl rfl rfl fun K hK => ?_ | refine qn3 rfl rfl rfl fun K hK => ?_ | refine qt1 rfl rfl rfl fun K hK => ?_ | refine qt3 rfl rfl rfl fun K hK => ?_); simp (disch := (first | omega | (simp only [sz] <;> omega) | fail)) only [go_sem]; with_reducible refine hK _ _ ?_; clear hK K) | refine At.nil rfl ?_ | refine RG.nil rfl ?_ | ((first | refine AtL.skipg rfl rfl rfl rfl rfl ?_ | refine RGL.skipg rfl rfl rfl rfl rfl ?_ | refine AtL.skipu rfl rfl rfl rfl ?_ | refine RGL.skipu rfl rfl rfl rfl ?_); simp only [putL, List.set_cons_zero, List.set_cons_succ]) | refine Goes.yes rfl ?_ | refine Goes.no rfl ?_ | refine Goes.drawR [] (by kernel_rfl) ?_)
  ((first | refine qp1 rfl rfl fun K hK => ?_ | refine qp3 rfl rfl fun K hK => ?_); simp (disch := (first | omega | (simp only [sz] <;> omega) | fail)) only [go_sem]; refine ⟨_, _, qpu fun w => gPage_any N T x w hN hT, ?_⟩; (try simp only [go_sem]); with_reducible refine hK _ _ ?_; clear hK K)
  repeat (first | refine Goes.reg ?_ | refine Goes.ctl2 rfl ?_ | ((first | refine qv1 rfl rfl rfl fun K hK => ?_ | refine qv3 rfl rfl rfl fun K hK => ?_ | refine qv2 rfl rfl rfl rfl rfl rfl fun K hK => ?_ | refine qv4 rfl rfl rfl rfl rfl rfl fun K hK => ?_ | refine qn1 rfl rfl rfl fun K hK => ?_ | refine qn3 rfl rfl rfl fun K hK => ?_ | refine qt1 rfl rfl rfl fun K hK => ?_ | refine qt3 rfl rfl rfl fun K hK => ?_); simp (disch := (first | omega | (simp only [sz] <;> omega) | fail)) only [go_sem]; with_reducible refine hK _ _ ?_; clear hK K) | refine At.nil rfl ?_ | refine RG.nil rfl ?_ | ((first | refine AtL.skipg rfl rfl rfl rfl rfl ?_ | refine RGL.skipg rfl rfl rfl rfl rfl ?_ | refine AtL.skipu rfl rfl rfl rfl ?_ | refine RGL.skipu rfl rfl rfl rfl ?_); simp only [putL, List.set_cons_zero, List.set_cons_succ]) | refine Goes.yes rfl ?_ | refine Goes.no rfl ?_ | refine Goes.drawR [] (by kernel_rfl) ?_)
  ((first | refine qc1 rfl rfl fun K hK => ?_ | refine qc3 rfl rfl fun K hK => ?_); simp (disch := (first | omega | (simp only [sz] <;> omega) | fail)) only [go_sem]; refine ⟨_, _, pgWord_does _ 4 n 0 0 (by decide) (by omega) (by decide) (by decide), ?_⟩; (try simp only [go_sem]); with_reducible refine hK _ _ ?_; clear hK K)
  rw [pgU_int (by decide) (by omega)]
  repeat (first | refine Goes.reg ?_ | refine Goes.ctl2 rfl ?_ | ((first | refine qv1 rfl rfl rfl fun K hK => ?_ | refine qv3 rfl rfl rfl fun K hK => ?_ | refine qv2 rfl rfl rfl rfl rfl rfl fun K hK => ?_ | refine qv4 rfl rfl rfl rfl rfl rfl fun K hK => ?_ | refine qn1 rfl rfl rfl fun K hK => ?_ | refine qn3 rfl rfl rfl fun K hK => ?_ | refine qt1 rfl rfl rfl fun K hK => ?_ | refine qt3 rfl rfl rfl fun K hK => ?_); simp (disch := (first | omega | (simp only [sz] <;> omega) | fail)) only [go_sem]; with_reducible refine hK _ _ ?_; clear hK K) | refine At.nil rfl ?_ | refine RG.nil rfl ?_ | ((first | refine AtL.skipg rfl rfl rfl rfl rfl ?_ | refine RGL.skipg rfl rfl rfl rfl rfl ?_ | refine AtL.skipu rfl rfl rfl rfl ?_ | refine RGL.skipu rfl rfl rfl rfl ?_); simp only [putL, List.set_cons_zero, List.set_cons_succ]) | refine Goes.yes rfl ?_ | refine Goes.no rfl ?_ | refine Goes.drawR [] (by kernel_rfl) ?_)
  ((first | refine qc1 rfl rfl fun K hK => ?_ | refine qc3 rfl rfl fun K hK => ?_); simp (disch := (first | omega | (simp only [sz] <;> omega) | fail)) only [go_sem]; refine ⟨_, _, pgWord_does _ 5 n 0 0 (by decide) (by omega) (by decide) (by decide), ?_⟩; (try simp only [go_sem]); with_reducible refine hK _ _ ?_; clear hK K)
  rw [pgU_int (by decide) (by omega)]
  repeat (first | refine Goes.reg ?_ | refine Goes.ctl2 rfl ?_ | ((first | refine qv1 rfl rfl rfl fun K hK => ?_ | refine qv3 rfl rfl rfl fun K hK => ?_ | refine qv2 rfl rfl rfl rfl rfl rfl fun K hK => ?_ | refine qv4 rfl rfl rfl rfl rfl rfl fun K hK => ?_ | refine qn1 rfl rfl rfl fun K hK => ?_ | refine qn3 rfl rfl rfl fun K hK => ?_ | refine qt1 rfl rfl rfl fun K hK => ?_ | refine qt3 rfl rfl rfl fun K hK => ?_); simp (disch := (first | omega | (simp only [sz] <;> omega) | fail)) only [go_sem]; with_reducible refine hK _ _ ?_; clear hK K) | refine At.nil rfl ?_ | refine RG.nil rfl ?_ | ((first | refine AtL.skipg rfl rfl rfl rfl rfl ?_ | refine RGL.skipg rfl rfl rfl rfl rfl ?_ | refine AtL.skipu rfl rfl rfl rfl ?_ | refine RGL.skipu rfl rfl rfl rfl ?_); simp only [putL, List.set_cons_zero, List.set_cons_succ]) | refine Goes.yes rfl ?_ | refine Goes.no rfl ?_ | refine Goes.drawR [] (by kernel_rfl) ?_)
  ((first | refine qp1 rfl rfl fun K hK => ?_ | refine qp3 rfl rfl fun K hK => ?_); simp (disch := (first | omega | (simp only [sz] <;> omega) | fail)) only [go_sem]; refine ⟨_, _, .cas _ (pgU 4 n) (pgU 5 n) hp hm (by omega), ?_⟩; (try simp only [go_sem]); with_reducible refine hK _ _ ?_; clear hK K)
  rw [wT_cas hu]
  repeat (first | refine Goes.reg ?_ | refine Goes.ctl2 rfl ?_ | ((first | refine qv1 rfl rfl rfl fun K hK => ?_ | refine qv3 rfl rfl rfl fun K hK => ?_ | refine qv2 rfl rfl rfl rfl rfl rfl fun K hK => ?_ | refine qv4 rfl rfl rfl rfl rfl rfl fun K hK => ?_ | refine qn1 rfl rfl rfl fun K hK => ?_ | refine qn3 rfl rfl rfl fun K hK => ?_ | refine qt1 rfl rfl rfl fun K hK => ?_ | refine qt3 rfl rfl rfl fun K hK => ?_); simp (disch := (first | omega | (simp only [sz] <;> omega) | fail)) only [go_sem]; with_reducible refine hK _ _ ?_; clear hK K) | refine At.nil rfl ?_ | refine RG.nil rfl ?_ | ((first | refine AtL.skipg rfl rfl rfl rfl rfl ?_ | refine RGL.skipg rfl rfl rfl rfl rfl ?_ | refine AtL.skipu rfl rfl rfl rfl ?_ | refine RGL.skipu rfl rfl rfl rfl ?_); simp only [putL, List.set_cons_zero, List.set_cons_succ]) | refine Goes.yes rfl ?_ | refine Goes.no rfl ?_ | refine Goes.drawR [] (by kernel_rfl) ?_)
  refine Goes.finE rfl (by simp (disch := (first | omega | (simp only [heapL_next, List.length_cons, List.length_nil, List.size_toArray, geo_len] <;> omega) | fail)) only [go_sem, resA, res1A, Try.results68] <;> rfl) ?_
  by_cases hw : pw L x = pgU 4 n
  · have hk : kd (pw L x) = 4 := by rw [hw, kd_pgU (by decide) (by omega)]
    have hl : ln (pw L x) = n := by rw [hw, ln_pgU (by decide) (by omega)]
    obtain ⟨A, r, C, rfl, rfl, h3, h4, h5⟩ := word_head (L := L) (x := x) hpos (by omega) (by omega) (by omega) (by omega)
    have hr1 : r.1 = 4 := by omega
    have hr2 : r.2 = n := by omega
    obtain ⟨r1, r2⟩ := r
    simp only at hr1 hr2
    subst hr1 hr2
    have hP1 := hP.put h1 (x := tot A) (by omega) 3 (pgU 4 r2) (pgU 5 r2)
    refine ⟨steps + 1, _, A ++ (5, r2) :: C, _, rfl, by omega, rfl, hP1.congr (fun y _ => ?_) (fun b _ => bw_kind (by decide) (by decide) b), .inr ⟨decide_eq_true hw, A, r2, C, rfl, rfl, rfl, by omega, rfl⟩⟩
    rw [← pw_kind (q := 4) (Pos.append.1 hpos).1 (by omega) (by decide) (by decide) y, hw]
    simp only [kNow, if_true]
  · refine ⟨steps + 1, ws, L, _, rfl, by omega, by rw [wS_miss hu hw], hP, .inl ⟨decide_eq_false hw, rfl, fun A n' C h2 h3 h4 => hw ?_⟩⟩
    obtain rfl : x = tot A := by omega
    obtain rfl : n = n' := by omega
    rw [h2, pw_head (Pos.append.1 (h2 ▸ hpos)).1]

/-- A run that is to be freed is freed. -/
def FreStep (L L' : List Rn) : Prop := ∃ A b n c C, L = A ++ (fr b ++ (5, n) :: (fr c ++ C)) ∧ lastF A = false ∧ headF C = false ∧ 1 ≤ n ∧ L' = A ++ (1, b + n + c) :: C
inductive FreN : Nat → List Rn → List Rn → Prop
  | refl (L) : FreN 0 L L
  | step {k L L1 L'} (h : FreN k L L1) (s : FreStep L1 L') : FreN (k + 1) L L'
theorem FreStep.inv {L L' : List Rn} (h : FreStep L L') (hp : Pos L) (hn : nadj L) : Pos L' ∧ nadj L' ∧ tot L' = tot L := by
  obtain ⟨A, b, n, c, C, rfl, h1, h2, h3, rfl⟩ := h
  have hC : Pos C := (Pos.append.1 (Pos.cons.1 (Pos.append.1 (Pos.append.1 hp).2).2).2).2
  refine ⟨Pos.append.2 ⟨(Pos.append.1 hp).1, Pos.cons.2 ⟨⟨by simp only; omega, .inl rfl⟩, hC⟩⟩, nadj_freed hn h1 h2, ?_⟩
  simp only [tot_append, tot_fr, tot]; omega
theorem FreN.inv {k : Nat} {L L' : List Rn} (h : FreN k L L') (hp : Pos L) (hn : nadj L) : Pos L' ∧ nadj L' ∧ tot L' = tot L := by
  induction h with
  | refl => exact ⟨hp, hn, rfl⟩
  | step h s ih =>
    obtain ⟨h1, h2, h3⟩ := ih hp hn
    obtain ⟨h4, h5, h6⟩ := s.inv h1 h2
    exact ⟨h4, h5, h6.trans h3⟩

set_option maxHeartbeats 2000000 in
theorem collect_does (S : St) (p m me : Nat) (steps : Nat) (ws0 ws : List UInt64) (bs : List UInt8) (N T : Nat) {L : List Rn} (hp : S[p]? = some (.port m me steps)) (hm : S[m]? = some (.mem ws bs)) (hst : steps ≤ 100000000) (h1 : 1 ≤ N) (hN : N ≤ 256) (hT : T ≤ 64) (hP : Pg N T ws0 ws (pw L) (bw L)) (hpos : Pos L) (hna : nadj L) (htot : tot L = N) :
    ∃ v S', (∃ st' ws' L' n, v = .int .i64 (n : Nat) ∧ n ≤ N ∧ st' ≤ steps + 21 * N ∧ S' = accS S p m me st' ws' bs ∧ Pg N T ws0 ws' (pw L') (bw L') ∧ FreN n L L' ∧ ∀ r ∈ L', r.1 ≠ 5) ∧ Does OF 69 #[prtV p, .agg (geoC N T)] [] S v S' := by
  have hne := hne_of hp hm
  refine Does.ex Try.func69 rfl rfl ?clo ?hand ?_
  case clo => exact clo2 (pclo (hlt_of hp)) (Clo.plain (geo_plain _ _))
  case hand => rintro v S' ⟨_, _, _, _, rfl, _⟩; exact Hand.plain rfl
  rw [Try.ntmps69]; simp only [List.size_toArray, List.length_cons, List.length_nil, List.replicate, List.cons_append, List.nil_append]
  repeat (first | refine Goes.reg ?_ | refine Goes.ctl2 rfl ?_ | ((first | refine qv1 rfl rfl rfl fun K hK => ?_ | refine qv3 rfl rfl rfl fun K hK => ?_ | refine qv2 rfl rfl rfl rfl rfl rfl fun K hK => ?_ | refine qv4 rfl rfl rfl rfl rfl rfl fun K hK => ?_ | refine qn1 rfl rfl rfl fun K hK => ?_ | refine qn3 rfl rfl rfl fun K hK => ?_ | refine qt1 rfl rfl rfl fun K hK => ?_ | refine qt3 rfl rfl rfl fun K hK => ?_); simp (disch := (first | omega | (simp only [sz] <;> omega) | fail)) only [go_sem]; with_reducible refine hK _ _ ?_; clear hK K) | refine At.nil rfl ?_ | refine RG.nil rfl ?_ | ((first | refine AtL.skipg rfl rfl rfl rfl rfl ?_ | refine RGL.skipg rfl rfl rfl rfl rfl ?_ | refine AtL.skipu rfl rfl rfl rfl ?_ | refine RGL.skipu rfl rfl rfl rfl ?_); simp only [putL, List.set_cons_zero, List.set_cons_succ]) | refine Goes.yes rfl ?_ | refine Goes.no rfl ?_ | refine Goes.drawR [] (by kernel_rfl) ?_)
  refine Goes.wh (fun z tmps h S' => ∃ (x q st cnt : Nat) (wj : List UInt64) (L1 : List Rn), z = N - x ∧ x ≤ N ∧ 2 ≤ q ∧ q ≤ 2 + x ∧ cnt ≤ x ∧ st ≤ steps + 21 * x ∧ S' = accS S p m me st wj bs ∧ Pg N T ws0 wj (pw L1) (bw L1) ∧ FreN cnt L L1 ∧ (∀ A r C, L1 = A ++ r :: C → r.1 = 5 → x ≤ tot A) ∧
      h = heapJ [some { cells := (geoC N T).toList, elem := 26 }, some { cells := (dkC p N T).toList, elem := 152 }] q [] ∧ tmps.length = 37 ∧
      tmps.getD 0 undef = prtV p ∧ tmps.getD 3 undef = .pointer (some ⟨0, 0, none⟩) ∧ tmps.getD 5 undef = .pointer (some ⟨1, 0, none⟩) ∧ tmps.getD 6 undef = .int .i64 cnt ∧ tmps.getD 7 undef = .int .i64 x) (m := N)
      ⟨0, 2, steps, 0, ws, L, rfl, by omega, by omega, by omega, by omega, by omega, (acc_same hp hm).symm, hP, .refl L, fun _ _ _ _ _ => Nat.zero_le _, gap_of _, rfl, rfl, rfl, rfl, rfl, rfl⟩ ?_
  rintro z tmps h S' ih ⟨x, q, st, cnt, wj, L1, rfl, hx, hq1, hq2, hcnt, hst', rfl, hPj, hfre, hno, rfl, hl, f0, f3, f5, f6, f7⟩
  obtain ⟨V, hV, hT⟩ := frame_lit hl; replace hT : _ = ([V 0, V 1, V 2, V 3, V 4, V 5, V 6, V 7, V 8, V 9, V 10, V 11, V 12, V 13, V 14, V 15, V 16, V 17, V 18, V 19, V 20, V 21, V 22, V 23, V 24, V 25, V 26, V 27, V 28, V 29, V 30, V 31, V 32, V 33, V 34, V 35, V 36] : List Value) := hT; rw [hV] at f0 f3 f5 f6 f7; subst hT; simp only [f0, f3, f5, f6, f7]; clear hV hl
  obtain ⟨hpos1, hna1, htot1⟩ := hfre.inv hpos hna
  by_cases hlt : x < N
  case neg =>
    obtain rfl : x = N := by omega
    repeat (first | refine Goes.reg ?_ | refine Goes.ctl2 rfl ?_ | ((first | refine qv1 rfl rfl rfl fun K hK => ?_ | refine qv3 rfl rfl rfl fun K hK => ?_ | refine qv2 rfl rfl rfl rfl rfl rfl fun K hK => ?_ | refine qv4 rfl rfl rfl rfl rfl rfl fun K hK => ?_ | refine qn1 rfl rfl rfl fun K hK => ?_ | refine qn3 rfl rfl rfl fun K hK => ?_ | refine qt1 rfl rfl rfl fun K hK => ?_ | refine qt3 rfl rfl rfl fun K hK => ?_); simp (disch := (first | omega | (simp only [sz] <;> omega) | fail)) only [go_sem]; with_reducible refine hK _ _ ?_; clear hK K) | refine At.nil rfl ?_ | refine RG.nil rfl ?_ | ((first | refine AtL.skipg rfl rfl rfl rfl rfl ?_ | refine RGL.skipg rfl rfl rfl rfl rfl ?_ | refine AtL.skipu rfl rfl rfl rfl ?_ | refine RGL.skipu rfl rfl rfl rfl ?_); simp only [putL, List.set_cons_zero, List.set_cons_succ]) | refine Goes.yes rfl ?_ | refine Goes.no rfl ?_ | refine Goes.drawR [] (by kernel_rfl) ?_)
    ((first | refine qp1 rfl rfl fun K hK => ?_ | refine qp3 rfl rfl fun K hK => ?_); simp (disch := (first | omega | (simp only [sz] <;> omega) | fail)) only [go_sem]; refine ⟨_, _, qpu fun w => gPages_any x T w, ?_⟩; (try simp only [go_sem]); with_reducible refine hK _ _ ?_; clear hK K)
    repeat (first | refine Goes.reg ?_ | refine Goes.ctl2 rfl ?_ | ((first | refine qv1 rfl rfl rfl fun K hK => ?_ | refine qv3 rfl rfl rfl fun K hK => ?_ | refine qv2 rfl rfl rfl rfl rfl rfl fun K hK => ?_ | refine qv4 rfl rfl rfl rfl rfl rfl fun K hK => ?_ | refine qn1 rfl rfl rfl fun K hK => ?_ | refine qn3 rfl rfl rfl fun K hK => ?_ | refine qt1 rfl rfl rfl fun K hK => ?_ | refine qt3 rfl rfl rfl fun K hK => ?_); simp (disch := (first | omega | (simp only [sz] <;> omega) | fail)) only [go_sem]; with_reducible refine hK _ _ ?_; clear hK K) | refine At.nil rfl ?_ | refine RG.nil rfl ?_ | ((first | refine AtL.skipg rfl rfl rfl rfl rfl ?_ | refine RGL.skipg rfl rfl rfl rfl rfl ?_ | refine AtL.skipu rfl rfl rfl rfl ?_ | refine RGL.skipu rfl rfl rfl rfl ?_); simp only [putL, List.set_cons_zero, List.set_cons_succ]) | refine Goes.yes rfl ?_ | refine Goes.no rfl ?_ | refine Goes.drawR [] (by kernel_rfl) ?_)
    refine Goes.finE rfl (by simp (disch := (first | omega | (simp only [heapL_next, List.length_cons, List.length_nil, List.size_toArray, geo_len] <;> omega) | fail)) only [go_sem, resA, res1A, Try.results69] <;> rfl) ?_
    refine ⟨st, wj, L1, cnt, rfl, hcnt, by omega, rfl, hPj, hfre, fun r hr h5 => ?_⟩
    obtain ⟨A, C, rfl⟩ := List.append_of_mem hr
    have := hno A r C rfl h5
    have := (Pos.cons.1 (Pos.append.1 hpos1).2).1.1
    rw [tot_append] at htot1; simp only [tot] at htot1; omega
  have hu := hPj.pg x hlt
  repeat (first | refine Goes.reg ?_ | refine Goes.ctl2 rfl ?_ | ((first | refine qv1 rfl rfl rfl fun K hK => ?_ | refine qv3 rfl rfl rfl fun K hK => ?_ | refine qv2 rfl rfl rfl rfl rfl rfl fun K hK => ?_ | refine qv4 rfl rfl rfl rfl rfl rfl fun K hK => ?_ | refine qn1 rfl rfl rfl fun K hK => ?_ | refine qn3 rfl rfl rfl fun K hK => ?_ | refine qt1 rfl rfl rfl fun K hK => ?_ | refine qt3 rfl rfl rfl fun K hK => ?_); simp (disch := (first | omega | (simp only [sz] <;> omega) | fail)) only [go_sem]; with_reducible refine hK _ _ ?_; clear hK K) | refine At.nil rfl ?_ | refine RG.nil rfl ?_ | ((first | refine AtL.skipg rfl rfl rfl rfl rfl ?_ | refine RGL.skipg rfl rfl rfl rfl rfl ?_ | refine AtL.skipu rfl rfl rfl rfl ?_ | refine RGL.skipu rfl rfl rfl rfl ?_); simp only [putL, List.set_cons_zero, List.set_cons_succ]) | refine Goes.yes rfl ?_ | refine Goes.no rfl ?_ | refine Goes.drawR [] (by kernel_rfl) ?_)
  ((first | refine qp1 rfl rfl fun K hK => ?_ | refine qp3 rfl rfl fun K hK => ?_); simp (disch := (first | omega | (simp only [sz] <;> omega) | fail)) only [go_sem]; refine ⟨_, _, qpu fun w => gPages_any N T w, ?_⟩; (try simp only [go_sem]); with_reducible refine hK _ _ ?_; clear hK K)
  repeat (first | refine Goes.reg ?_ | refine Goes.ctl2 rfl ?_ | ((first | refine qv1 rfl rfl rfl fun K hK => ?_ | refine qv3 rfl rfl rfl fun K hK => ?_ | refine qv2 rfl rfl rfl rfl rfl rfl fun K hK => ?_ | refine qv4 rfl rfl rfl rfl rfl rfl fun K hK => ?_ | refine qn1 rfl rfl rfl fun K hK => ?_ | refine qn3 rfl rfl rfl fun K hK => ?_ | refine qt1 rfl rfl rfl fun K hK => ?_ | refine qt3 rfl rfl rfl fun K hK => ?_); simp (disch := (first | omega | (simp only [sz] <;> omega) | fail)) only [go_sem]; with_reducible refine hK _ _ ?_; clear hK K) | refine At.nil rfl ?_ | refine RG.nil rfl ?_ | ((first | refine AtL.skipg rfl rfl rfl rfl rfl ?_ | refine RGL.skipg rfl rfl rfl rfl rfl ?_ | refine AtL.skipu rfl rfl rfl rfl ?_ | refine RGL.skipu rfl rfl rfl rfl ?_); simp only [putL, List.set_cons_zero, List.set_cons_succ]) | refine Goes.yes rfl ?_ | refine Goes.no rfl ?_ | refine Goes.drawR [] (by kernel_rfl) ?_)
  ((first | refine qc1 rfl rfl fun K hK => ?_ | refine qc3 rfl rfl fun K hK => ?_); simp (disch := (first | omega | (simp only [sz] <;> omega) | fail)) only [go_sem]; refine ⟨_, _, dget_does _ p m me _ _ _ N T _ _ (acc_p hp hm) (acc_m hp hm) (by omega) hN hT hu, ?_⟩; (try simp only [go_sem]); with_reducible refine hK _ _ ?_; clear hK K)
  rw [acc_acc hne]
  unfold pgV
  obtain ⟨u, hu0⟩ : ∃ u, u = pw L1 x := ⟨_, rfl⟩
  rw [← hu0]
  obtain ⟨kk, hkk⟩ : ∃ k, k = kd u := ⟨_, rfl⟩
  obtain ⟨nn, hnn⟩ : ∃ n, n = ln u := ⟨_, rfl⟩
  rw [← hkk, ← hnn]
  have hx2 : x < tot L1 := by omega
  have hx3 : tot L1 ≤ 256 := by omega
  have hkd : kd (pw L1 x) = kk := by rw [hkk, hu0]
  have hln : ln (pw L1 x) = nn := by rw [hnn, hu0]
  by_cases h5 : kk = 5
  · obtain ⟨A, r, C, hL1, hxA, hr1, hr2, _⟩ := word_head hpos1 hx2 hx3 (by omega) (by omega)
    have hrr := (hpos1 r (by rw [hL1]; simp)).1
    obtain ⟨v2, S2, ⟨s2, w2, L2, t2, rfl, hs2, rfl, hP2, hsaid⟩, hd2⟩ := free_does (accS S p m me (st + 1) wj bs) p m me (st + 1) ws0 wj bs N T x nn (acc_p hp hm) (acc_m hp hm) (by omega) h1 hN hT hPj hpos1 hna1 (by omega)
    rcases hsaid with ⟨_, _, hbad⟩ | ⟨rfl, A', b, q', n', c, C', hL1', hlA, hhC, _, _, hn1, hxA', hn', rfl⟩
    · exact absurd ⟨by omega, A, r, C, hL1, by rw [hxA], by omega, by omega⟩ hbad
    have hcut := cut_eq (A := A) (A' := A' ++ fr b) (r := r) (r' := (q', n')) (C := C) (C' := fr c ++ C') (by rw [← hL1, hL1']; simp) (hL1 ▸ hpos1) (by omega)
    have hq5 : q' = 5 := by
      have := congrArg Prod.fst hcut.2.1
      simp only at this
      omega
    subst hq5
    have htx : tot (A' ++ fr b) = tot A' + b := by rw [tot_append, tot_fr]
    have hlen : tot A' + b + n' + c + tot C' = tot L1 := by rw [hL1']; simp only [tot_append, tot_fr, tot]; omega
    have hpos2 : Pos (A' ++ (1, b + n' + c) :: C') := (FreStep.inv ⟨A', b, n', c, C', hL1', hlA, hhC, hn1, rfl⟩ hpos1 hna1).1
    have hlong : (if kk = 0 ∨ kk = 2 then 1 else max nn 1 : Nat) = nn := by rw [if_neg (by omega)]; omega
    repeat (first | refine Goes.reg ?_ | refine Goes.ctl2 rfl ?_ | ((first | refine qv1 rfl rfl rfl fun K hK => ?_ | refine qv3 rfl rfl rfl fun K hK => ?_ | refine qv2 rfl rfl rfl rfl rfl rfl fun K hK => ?_ | refine qv4 rfl rfl rfl rfl rfl rfl fun K hK => ?_ | refine qn1 rfl rfl rfl fun K hK => ?_ | refine qn3 rfl rfl rfl fun K hK => ?_ | refine qt1 rfl rfl rfl fun K hK => ?_ | refine qt3 rfl rfl rfl fun K hK => ?_); simp (disch := (first | omega | (simp only [sz] <;> omega) | fail)) only [go_sem]; with_reducible refine hK _ _ ?_; clear hK K) | refine At.nil rfl ?_ | refine RG.nil rfl ?_ | ((first | refine AtL.skipg rfl rfl rfl rfl rfl ?_ | refine RGL.skipg rfl rfl rfl rfl rfl ?_ | refine AtL.skipu rfl rfl rfl rfl ?_ | refine RGL.skipu rfl rfl rfl rfl ?_); simp only [putL, List.set_cons_zero, List.set_cons_succ]) | refine Goes.yes rfl ?_ | refine Goes.no rfl ?_ | refine Goes.drawR [] (by kernel_rfl) ?_)
    ((first | refine qc1 rfl rfl fun K hK => ?_ | refine qc3 rfl rfl fun K hK => ?_); simp (disch := (first | omega | (simp only [sz] <;> omega) | fail)) only [go_sem]; refine ⟨_, _, hd2, ?_⟩; (try simp only [go_sem]); with_reducible refine hK _ _ ?_; clear hK K)
    rw [acc_acc hne]
    repeat (first | refine Goes.reg ?_ | refine Goes.ctl2 rfl ?_ | ((first | refine qv1 rfl rfl rfl fun K hK => ?_ | refine qv3 rfl rfl rfl fun K hK => ?_ | refine qv2 rfl rfl rfl rfl rfl rfl fun K hK => ?_ | refine qv4 rfl rfl rfl rfl rfl rfl fun K hK => ?_ | refine qn1 rfl rfl rfl fun K hK => ?_ | refine qn3 rfl rfl rfl fun K hK => ?_ | refine qt1 rfl rfl rfl fun K hK => ?_ | refine qt3 rfl rfl rfl fun K hK => ?_); simp (disch := (first | omega | (simp only [sz] <;> omega) | fail)) only [go_sem]; with_reducible refine hK _ _ ?_; clear hK K) | refine At.nil rfl ?_ | refine RG.nil rfl ?_ | ((first | refine AtL.skipg rfl rfl rfl rfl rfl ?_ | refine RGL.skipg rfl rfl rfl rfl rfl ?_ | refine AtL.skipu rfl rfl rfl rfl ?_ | refine RGL.skipu rfl rfl rfl rfl ?_); simp only [putL, List.set_cons_zero, List.set_cons_succ]) | refine Goes.yes rfl ?_ | refine Goes.no rfl ?_ | refine Goes.drawR [] (by kernel_rfl) ?_)
    ((first | refine qc1 rfl rfl fun K hK => ?_ | refine qc3 rfl rfl fun K hK => ?_); simp (disch := (first | omega | (simp only [sz] <;> omega) | fail)) only [go_sem]; refine ⟨_, _, long_does _ kk nn _ _, ?_⟩; (try simp only [go_sem]); with_reducible refine hK _ _ ?_; clear hK K)
    rw [hlong]
    repeat (first | refine Goes.reg ?_ | refine Goes.ctl2 rfl ?_ | ((first | refine qv1 rfl rfl rfl fun K hK => ?_ | refine qv3 rfl rfl rfl fun K hK => ?_ | refine qv2 rfl rfl rfl rfl rfl rfl fun K hK => ?_ | refine qv4 rfl rfl rfl rfl rfl rfl fun K hK => ?_ | refine qn1 rfl rfl rfl fun K hK => ?_ | refine qn3 rfl rfl rfl fun K hK => ?_ | refine qt1 rfl rfl rfl fun K hK => ?_ | refine qt3 rfl rfl rfl fun K hK => ?_); simp (disch := (first | omega | (simp only [sz] <;> omega) | fail)) only [go_sem]; with_reducible refine hK _ _ ?_; clear hK K) | refine At.nil rfl ?_ | refine RG.nil rfl ?_ | ((first | refine AtL.skipg rfl rfl rfl rfl rfl ?_ | refine RGL.skipg rfl rfl rfl rfl rfl ?_ | refine AtL.skipu rfl rfl rfl rfl ?_ | refine RGL.skipu rfl rfl rfl rfl ?_); simp only [putL, List.set_cons_zero, List.set_cons_succ]) | refine Goes.yes rfl ?_ | refine Goes.no rfl ?_ | refine Goes.drawR [] (by kernel_rfl) ?_)
    refine Goes.forget ?_ (by simp only [List.length_cons, List.length_nil]; omega)
    exact ih _ _ _ _ (by omega) ⟨x + nn, q + 1, s2, cnt + 1, w2, _, rfl, by omega, by omega, by omega, by omega, by omega, rfl, hP2, hfre.step ⟨A', b, n', c, C', hL1', hlA, hhC, hn1, rfl⟩, fun A2 r2 C2 h2 h3 => by
      rcases Nat.lt_trichotomy (tot A2) (tot A') with h | h | h
      · obtain ⟨X, rfl⟩ := cut_in h2 h
        have := hno A2 r2 _ (by rw [hL1', List.append_assoc, List.cons_append]) h3
        omega
      · have := (cut_eq h2 hpos2 h.symm).2.1
        rw [← this] at h3
        simp at h3
      · have := cut_lt h2 hpos2 h
        simp only at this
        omega, rfl, rfl, rfl, rfl, rfl, rfl, rfl⟩
  · have hnn2 : nn < 1024 := by rw [hnn]; exact Nat.mod_lt _ (by decide)
    repeat (first | refine Goes.reg ?_ | refine Goes.ctl2 rfl ?_ | ((first | refine qv1 rfl rfl rfl fun K hK => ?_ | refine qv3 rfl rfl rfl fun K hK => ?_ | refine qv2 rfl rfl rfl rfl rfl rfl fun K hK => ?_ | refine qv4 rfl rfl rfl rfl rfl rfl fun K hK => ?_ | refine qn1 rfl rfl rfl fun K hK => ?_ | refine qn3 rfl rfl rfl fun K hK => ?_ | refine qt1 rfl rfl rfl fun K hK => ?_ | refine qt3 rfl rfl rfl fun K hK => ?_); simp (disch := (first | omega | (simp only [sz] <;> omega) | fail)) only [go_sem]; with_reducible refine hK _ _ ?_; clear hK K) | refine At.nil rfl ?_ | refine RG.nil rfl ?_ | ((first | refine AtL.skipg rfl rfl rfl rfl rfl ?_ | refine RGL.skipg rfl rfl rfl rfl rfl ?_ | refine AtL.skipu rfl rfl rfl rfl ?_ | refine RGL.skipu rfl rfl rfl rfl ?_); simp only [putL, List.set_cons_zero, List.set_cons_succ]) | refine Goes.yes rfl ?_ | refine Goes.no rfl ?_ | refine Goes.drawR [] (by kernel_rfl) ?_)
    ((first | refine qc1 rfl rfl fun K hK => ?_ | refine qc3 rfl rfl fun K hK => ?_); simp (disch := (first | omega | (simp only [sz] <;> omega) | fail)) only [go_sem]; refine ⟨_, _, long_does _ kk nn _ _, ?_⟩; (try simp only [go_sem]); with_reducible refine hK _ _ ?_; clear hK K)
    obtain ⟨lg, hlg⟩ : ∃ lg, lg = (if kk = 0 ∨ kk = 2 then 1 else max nn 1) := ⟨_, rfl⟩
    rw [← hlg]
    have hlg2 : lg ≤ 1024 := by rw [hlg]; split <;> omega
    repeat (first | refine Goes.reg ?_ | refine Goes.ctl2 rfl ?_ | ((first | refine qv1 rfl rfl rfl fun K hK => ?_ | refine qv3 rfl rfl rfl fun K hK => ?_ | refine qv2 rfl rfl rfl rfl rfl rfl fun K hK => ?_ | refine qv4 rfl rfl rfl rfl rfl rfl fun K hK => ?_ | refine qn1 rfl rfl rfl fun K hK => ?_ | refine qn3 rfl rfl rfl fun K hK => ?_ | refine qt1 rfl rfl rfl fun K hK => ?_ | refine qt3 rfl rfl rfl fun K hK => ?_); simp (disch := (first | omega | (simp only [sz] <;> omega) | fail)) only [go_sem]; with_reducible refine hK _ _ ?_; clear hK K) | refine At.nil rfl ?_ | refine RG.nil rfl ?_ | ((first | refine AtL.skipg rfl rfl rfl rfl rfl ?_ | refine RGL.skipg rfl rfl rfl rfl rfl ?_ | refine AtL.skipu rfl rfl rfl rfl ?_ | refine RGL.skipu rfl rfl rfl rfl ?_); simp only [putL, List.set_cons_zero, List.set_cons_succ]) | refine Goes.yes rfl ?_ | refine Goes.no rfl ?_ | refine Goes.drawR [] (by kernel_rfl) ?_)
    refine Goes.forget ?_ (by simp only [List.length_cons, List.length_nil]; omega)
    by_cases h02 : kk = 0 ∨ kk = 2
    · rw [if_pos h02] at hlg
      subst hlg
      exact ih _ _ _ _ (by omega) ⟨x + 1, q + 1, st + 1, cnt, wj, L1, rfl, by omega, by omega, by omega, by omega, by omega, rfl, hPj, hfre, fun A2 r2 C2 h2 h3 => by
        have h4 := hno A2 r2 C2 h2 h3
        by_cases h6 : x = tot A2
        · exfalso
          have h7 := (Pos.cons.1 (Pos.append.1 (h2 ▸ hpos1)).2).1.1
          have h8 : tot A2 + r2.2 ≤ 256 := by rw [h2, tot_append] at hx3; simp only [tot] at hx3; omega
          rw [h6, h2, pw_head (Pos.append.1 (h2 ▸ hpos1)).1, kd_pgU (by omega) (by omega)] at hkd
          omega
        · omega, rfl, rfl, rfl, rfl, rfl, rfl, rfl⟩
    · rw [if_neg h02] at hlg
      obtain ⟨A, r, C, hL1, hxA, hr1, hr2, _⟩ := word_head hpos1 hx2 hx3 (by omega) (by omega)
      have hrr := (hpos1 r (by rw [hL1]; simp)).1
      have hlen : tot A + r.2 + tot C = tot L1 := by rw [hL1]; simp only [tot_append, tot]; omega
      obtain rfl : lg = nn := by omega
      exact ih _ _ _ _ (by omega) ⟨x + lg, q + 1, st + 1, cnt, wj, L1, rfl, by omega, by omega, by omega, by omega, by omega, rfl, hPj, hfre, fun A2 r2 C2 h2 h3 => by
        have h4 := hno A2 r2 C2 h2 h3
        rcases Nat.lt_or_eq_of_le h4 with h6 | h6
        · have := cut_lt (hL1.symm.trans h2) (hL1 ▸ hpos1) (by omega)
          omega
        · have := (cut_eq (hL1.symm.trans h2) (hL1 ▸ hpos1) (by omega)).2.1
          rw [← this] at h3
          omega, rfl, rfl, rfl, rfl, rfl, rfl, rfl⟩
end Go.Proofs.Ytceddijolfpppaa
