/-
  Layer 10 over the abstract machine: contracts of package runs: the best fit.
  Conditions: those of each contract.
-/
import Derived.Test.YtceddijolfpppaaURunsB
namespace Go.Proofs.Ytceddijolfpppaa
open Go Go.RowKit
set_option linter.unusedSimpArgs false
set_option linter.unusedVariables false
def rup (x a : Nat) : Nat := (x + a - 1) / a * a
theorem rup_ge {x a : Nat} (ha : 1 ≤ a) : x ≤ rup x a := by
  unfold rup
  have h1 := Nat.div_add_mod (x + a - 1) a
  have h2 := Nat.mod_lt (x + a - 1) (show a > 0 by omega)
  rw [Nat.mul_comm] at h1; omega
theorem rup_le {x a : Nat} (ha : 1 ≤ a) : rup x a < x + a := by
  unfold rup
  have h1 := Nat.div_add_mod (x + a - 1) a
  rw [Nat.mul_comm] at h1; omega
abbrev Fit := Nat × Nat × Nat
def bestL (k a : Nat) : List Rn → Nat → Fit → Fit
  | [], _, o => o
  | r :: L, x, o => bestL k a L (x + r.2) (if r.1 = 1 ∧ rup x a + k ≤ x + r.2 ∧ (o.2.1 = 0 ∨ r.2 < o.2.1) then (x, r.2, rup x a) else o)
theorem bestL_spec {k a : Nat} : ∀ (C : List Rn) (x : Nat) (o : Fit), bestL k a C x o = o ∨ ∃ A1 r C1, C = A1 ++ r :: C1 ∧ r.1 = 1 ∧ bestL k a C x o = (x + tot A1, r.2, rup (x + tot A1) a) ∧ rup (x + tot A1) a + k ≤ x + tot A1 + r.2
  | [], x, o => .inl rfl
  | r :: C, x, o => by
    simp only [bestL]
    rcases bestL_spec C (x + r.2) (if r.1 = 1 ∧ rup x a + k ≤ x + r.2 ∧ (o.2.1 = 0 ∨ r.2 < o.2.1) then (x, r.2, rup x a) else o) with h | ⟨A1, r1, C1, h1, h2, h3, h4⟩
    · rw [h]
      split
      · rename_i hc
        exact .inr ⟨[], r, C, rfl, hc.1, by simp [tot], by simpa [tot] using hc.2.1⟩
      · exact .inl rfl
    · refine .inr ⟨r :: A1, r1, C1, by rw [h1]; rfl, h2, ?_, ?_⟩
      · rw [h3]; simp only [tot, Nat.add_assoc]
      · simp only [tot] at h4 ⊢
        rw [show x + (r.2 + tot A1) = x + r.2 + tot A1 by omega]; exact h4
theorem bestL_none {k a : Nat} (ha : 1 ≤ a) : ∀ (C : List Rn) (x : Nat) (o : Fit), (∀ r ∈ C, r.1 = 1 → r.2 < k) → bestL k a C x o = o
  | [], _, _, _ => rfl
  | r :: C, x, o, h => by
    simp only [bestL]
    rw [if_neg, bestL_none ha C _ _ (fun r' hr' => h r' (List.mem_cons_of_mem _ hr'))]
    rintro ⟨h1, h2, _⟩
    have := h r (List.mem_cons_self) h1
    have := rup_ge (x := x) ha
    omega
theorem bn_le (L : List Rn) (hp : Pos L) (b : Nat) : bn L b ≤ tot L := by
  induction L with
  | nil => simp [bn, tot]
  | cons r L ih =>
    have := ih (Pos.cons.1 hp).2
    have := (Pos.cons.1 hp).1.1
    rw [bn_cons]; simp only [tot]
    split <;> omega
theorem bn_zero {L : List Rn} {b : Nat} (h : bn L b = 0) : ∀ r ∈ L, r.1 = 1 → r.2.log2 ≠ b := by
  intro r hr h1 h2
  unfold bn at h
  rw [List.countP_eq_zero] at h
  exact h r hr (by simp [h1, h2])
theorem log2_mono {a b : Nat} (ha : 1 ≤ a) (h : a ≤ b) : a.log2 ≤ b.log2 := by
  have h1 : 2 ^ a.log2 ≤ a := (Nat.le_log2 (by omega)).1 (Nat.le_refl _)
  exact (Nat.le_log2 (by omega)).2 (by omega)
theorem any_none {L : List Rn} {k : Nat} (hp : Pos L) (ht : tot L ≤ 256) (hk : 1 ≤ k) (h : ∀ b', k.log2 ≤ b' → b' < 9 → bw L b' = 0) : ∀ r ∈ L, r.1 = 1 → r.2 < k := by
  intro r hr h1
  apply Nat.lt_of_not_le
  intro hle
  have hr1 := (hp r hr).1
  have hrt : r.2 ≤ tot L := by
    obtain ⟨A, C, rfl⟩ := List.append_of_mem hr
    rw [tot_append]; simp only [tot]; omega
  have hb := h r.2.log2 (log2_mono hk hle) (log2_lt9 hr1 (by omega))
  have hz : bn L r.2.log2 = 0 := by
    have h3 := bn_le L hp r.2.log2
    unfold bw at hb
    have := congrArg UInt64.toNat hb
    simp at this
    omega
  exact bn_zero hz r hr h1 rfl
theorem rup_int {x a : Nat} (ha : 1 ≤ a) : (((x : Int) + (a : Int) - 1).tdiv (a : Int)) * (a : Int) = ((rup x a : Nat) : Int) := by
  have e : (x : Int) + (a : Int) - 1 = ((x + a - 1 : Nat) : Int) := by omega
  rw [e]
  unfold rup
  rw [show (((x + a - 1 : Nat) : Int)).tdiv (a : Int) = (((x + a - 1) / a : Nat) : Int) from rfl]
  push_cast; rfl
theorem div_int {x a : Nat} (ha : 1 ≤ a) : ((x : Int) + (a : Int) - 1).tdiv (a : Int) = (((x + a - 1) / a : Nat) : Int) := by
  have e : (x : Int) + (a : Int) - 1 = ((x + a - 1 : Nat) : Int) := by omega
  rw [e]; rfl
def fitV (o : Fit) : Value := .agg #[.int .i64 o.1, .int .i64 o.2.1, .int .i64 o.2.2]
theorem fitV_plain (o : Fit) : plainB (fitV o) = true := by simp [fitV, plainB]
set_option maxHeartbeats 1000000 in
theorem best_does (S : St) (p m me : Nat) (steps : Nat) (ws0 ws : List UInt64) (bs : List UInt8) (N T : Nat) (k a : Nat) {L : List Rn} (hp : S[p]? = some (.port m me steps)) (hm : S[m]? = some (.mem ws bs)) (hst : steps ≤ 1000000000) (h1 : 1 ≤ N) (hN : N ≤ 256) (hT : T ≤ 64) (hP : Pg N T ws0 ws (pw L) (bw L)) (hpos : Pos L) (htot : tot L = N) (hk1 : 1 ≤ k) (hk2 : k ≤ 256) (ha1 : 1 ≤ a) (ha2 : a ≤ 256) :
    ∃ v S', (∃ st', st' ≤ steps + 9 + N ∧ v = fitV (bestL k a L 0 (0, 0, 0)) ∧ S' = accS S p m me st' ws bs) ∧ Does OF 102 #[dkV p N T, .int .i64 k, .int .i64 a] [] S v S' := by
  have hne := hne_of hp hm
  obtain ⟨v1, S1, ⟨st1, b1, hst1, rfl, rfl, hb1⟩, hd1⟩ := any_does S p m me steps ws0 ws bs N T k hp hm (by omega) h1 hN hT hP hk1 hk2
  refine Does.ex Try.func102 rfl rfl ?clo ?hand ?_
  case clo => exact clo3 (dk_clo N T (hlt_of hp)) iclo iclo
  case hand => rintro v S' ⟨_, _, rfl, _⟩; exact Hand.plain (fitV_plain _)
  rw [Try.ntmps102]; simp only [List.size_toArray, List.length_cons, List.length_nil, List.replicate, List.cons_append, List.nil_append]
  unfold dkV at *
  repeat (first | refine Goes.reg ?_ | refine Goes.ctl2 rfl ?_ | ((first | refine qv1 rfl rfl rfl fun K hK => ?_ | refine qv3 rfl rfl rfl fun K hK => ?_ | refine qv2 rfl rfl rfl rfl rfl rfl fun K hK => ?_ | refine qv4 rfl rfl rfl rfl rfl rfl fun K hK => ?_ | refine qn1 rfl rfl rfl fun K hK => ?_ | refine qn3 rfl rfl rfl fun K hK => ?_ | refine qt1 rfl rfl rfl fun K hK => ?_ | refine qt3 rfl rfl rfl fun K hK => ?_); simp (disch := (first | omega | (simp only [sz] <;> omega) | fail)) only [go_sem]; with_reducible refine hK _ _ ?_; clear hK K) | refine At.nil rfl ?_ | refine RG.nil rfl ?_ | ((first | refine AtL.skipg rfl rfl rfl rfl rfl ?_ | refine RGL.skipg rfl rfl rfl rfl rfl ?_ | refine AtL.skipu rfl rfl rfl rfl ?_ | refine RGL.skipu rfl rfl rfl rfl ?_); simp only [putL, List.set_cons_zero, List.set_cons_succ]) | refine Goes.yes rfl ?_ | refine Goes.no rfl ?_ | refine Goes.drawR [] (by kernel_rfl) ?_)
  ((first | refine qc1 rfl rfl fun K hK => ?_ | refine qc3 rfl rfl fun K hK => ?_); simp (disch := (first | omega | (simp only [sz] <;> omega) | fail)) only [go_sem]; refine ⟨_, _, hd1, ?_⟩; (try simp only [go_sem]); with_reducible refine hK _ _ ?_; clear hK K)
  cases b1 with
  | false =>
    rw [bestL_none ha1 L 0 _ (any_none hpos (by omega) hk1 (hb1 rfl))]
    repeat (first | refine Goes.reg ?_ | refine Goes.ctl2 rfl ?_ | ((first | refine qv1 rfl rfl rfl fun K hK => ?_ | refine qv3 rfl rfl rfl fun K hK => ?_ | refine qv2 rfl rfl rfl rfl rfl rfl fun K hK => ?_ | refine qv4 rfl rfl rfl rfl rfl rfl fun K hK => ?_ | refine qn1 rfl rfl rfl fun K hK => ?_ | refine qn3 rfl rfl rfl fun K hK => ?_ | refine qt1 rfl rfl rfl fun K hK => ?_ | refine qt3 rfl rfl rfl fun K hK => ?_); simp (disch := (first | omega | (simp only [sz] <;> omega) | fail)) only [go_sem]; with_reducible refine hK _ _ ?_; clear hK K) | refine At.nil rfl ?_ | refine RG.nil rfl ?_ | ((first | refine AtL.skipg rfl rfl rfl rfl rfl ?_ | refine RGL.skipg rfl rfl rfl rfl rfl ?_ | refine AtL.skipu rfl rfl rfl rfl ?_ | refine RGL.skipu rfl rfl rfl rfl ?_); simp only [putL, List.set_cons_zero, List.set_cons_succ]) | refine Goes.yes rfl ?_ | refine Goes.no rfl ?_ | refine Goes.drawR [] (by kernel_rfl) ?_)
    refine Goes.finE rfl (by simp (disch := (first | omega | (simp only [heapL_next, List.length_cons, List.length_nil, List.size_toArray, geo_len] <;> omega) | fail)) only [go_sem, resA, res1A, Try.results102] <;> rfl) ?_
    exact ⟨_, by omega, rfl, rfl⟩
  | true =>
    clear hd1 hb1
    repeat (first | refine Goes.reg ?_ | refine Goes.ctl2 rfl ?_ | ((first | refine qv1 rfl rfl rfl fun K hK => ?_ | refine qv3 rfl rfl rfl fun K hK => ?_ | refine qv2 rfl rfl rfl rfl rfl rfl fun K hK => ?_ | refine qv4 rfl rfl rfl rfl rfl rfl fun K hK => ?_ | refine qn1 rfl rfl rfl fun K hK => ?_ | refine qn3 rfl rfl rfl fun K hK => ?_ | refine qt1 rfl rfl rfl fun K hK => ?_ | refine qt3 rfl rfl rfl fun K hK => ?_); simp (disch := (first | omega | (simp only [sz] <;> omega) | fail)) only [go_sem]; with_reducible refine hK _ _ ?_; clear hK K) | refine At.nil rfl ?_ | refine RG.nil rfl ?_ | ((first | refine AtL.skipg rfl rfl rfl rfl rfl ?_ | refine RGL.skipg rfl rfl rfl rfl rfl ?_ | refine AtL.skipu rfl rfl rfl rfl ?_ | refine RGL.skipu rfl rfl rfl rfl ?_); simp only [putL, List.set_cons_zero, List.set_cons_succ]) | refine Goes.yes rfl ?_ | refine Goes.no rfl ?_ | refine Goes.drawR [] (by kernel_rfl) ?_)
    refine Goes.wh (fun z tmps h S' => ∃ (A C : List Rn) (o : Fit) (q st : Nat), z = N - tot A ∧ L = A ++ C ∧ bestL k a L 0 (0, 0, 0) = bestL k a C (tot A) o ∧ st ≤ steps + 9 + tot A ∧ 3 ≤ q ∧ q ≤ 3 + tot A ∧ S' = accS S p m me st ws bs ∧
      h = heapJ [some { cells := (dkC p N T).toList, elem := 152 }, some { cells := [.int .i64 0, .int .i64 0, .int .i64 0], elem := 154 }, some { cells := [.int .i64 o.1, .int .i64 o.2.1, .int .i64 o.2.2], elem := 154 }] q [] ∧ tmps.length = 67 ∧
      tmps.getD 0 undef = .agg (dkC p N T) ∧ tmps.getD 1 undef = .int .i64 k ∧ tmps.getD 2 undef = .int .i64 a ∧ tmps.getD 3 undef = .pointer (some ⟨0, 0, none⟩) ∧ tmps.getD 6 undef = .pointer (some ⟨1, 0, none⟩) ∧ tmps.getD 7 undef = .pointer (some ⟨2, 0, none⟩) ∧ tmps.getD 8 undef = .int .i64 (tot A : Nat)) (m := N - 0)
      ⟨[], L, (0, 0, 0), 3, st1, rfl, rfl, rfl, by omega, by omega, by omega, rfl, gap_of _, rfl, rfl, rfl, rfl, rfl, rfl, rfl, rfl⟩ ?_
    rintro z tmps h S' ih ⟨A, C, o, q, st, rfl, hL, hbest, hst', hq3, hq, rfl, rfl, hl, f0, f1, f2, f3, f6, f7, f8⟩
    obtain ⟨V, hV, hT⟩ := frame_lit hl; replace hT : _ = ([V 0, V 1, V 2, V 3, V 4, V 5, V 6, V 7, V 8, V 9, V 10, V 11, V 12, V 13, V 14, V 15, V 16, V 17, V 18, V 19, V 20, V 21, V 22, V 23, V 24, V 25, V 26, V 27, V 28, V 29, V 30, V 31, V 32, V 33, V 34, V 35, V 36, V 37, V 38, V 39, V 40, V 41, V 42, V 43, V 44, V 45, V 46, V 47, V 48, V 49, V 50, V 51, V 52, V 53, V 54, V 55, V 56, V 57, V 58, V 59, V 60, V 61, V 62, V 63, V 64, V 65, V 66] : List Value) := hT; rw [hV] at f0 f1 f2 f3 f6 f7 f8; subst hT; simp only [f0, f1, f2, f3, f6, f7, f8]; clear hV hl
    have htA : tot A ≤ N := by rw [← htot, hL, tot_append]; omega
    by_cases hlt : tot A < N
    · cases C with
      | nil => rw [hL, List.append_nil] at htot; omega
      | cons r C =>
      obtain ⟨hr1, hr2⟩ := hpos r (by rw [hL]; simp)
      have hrN : tot A + r.2 ≤ N := by rw [← htot, hL, tot_append]; simp only [tot]; omega
      have hpA : Pos A := (Pos.append.1 (hL ▸ hpos)).1
      have hu := hP.pg (tot A) hlt
      rw [hL, pw_head hpA] at hu
      have hstep : bestL k a L 0 (0, 0, 0) = bestL k a C (tot A + r.2) (if r.1 = 1 ∧ rup (tot A) a + k ≤ tot A + r.2 ∧ (o.2.1 = 0 ∨ r.2 < o.2.1) then (tot A, r.2, rup (tot A) a) else o) := hbest
      have hlong : (if r.1 = 0 ∨ r.1 = 2 then 1 else max r.2 1 : Nat) = r.2 := by rw [if_neg (by omega)]; omega
      have hrup1 := rup_ge (x := tot A) ha1
      have hrup2 := rup_le (x := tot A) ha1
      obtain ⟨R, hR⟩ : ∃ R, R = rup (tot A) a := ⟨_, rfl⟩
      obtain ⟨D, hD⟩ : ∃ D, D = (tot A + a - 1) / a := ⟨_, rfl⟩
      have hdiv := div_int (x := tot A) ha1
      have hdb : (tot A + a - 1) / a ≤ 512 := Nat.le_trans (Nat.div_le_self _ _) (by omega)
      have hmul : (D : Int) * (a : Int) = (R : Int) := by rw [hR, hD]; unfold rup; push_cast; rfl
      rw [← hD] at hdiv hdb
      rw [← hR] at hrup1 hrup2 hstep
      repeat (first | refine Goes.reg ?_ | refine Goes.ctl2 rfl ?_ | ((first | refine qv1 rfl rfl rfl fun K hK => ?_ | refine qv3 rfl rfl rfl fun K hK => ?_ | refine qv2 rfl rfl rfl rfl rfl rfl fun K hK => ?_ | refine qv4 rfl rfl rfl rfl rfl rfl fun K hK => ?_ | refine qn1 rfl rfl rfl fun K hK => ?_ | refine qn3 rfl rfl rfl fun K hK => ?_ | refine qt1 rfl rfl rfl fun K hK => ?_ | refine qt3 rfl rfl rfl fun K hK => ?_); simp (disch := (first | omega | (simp only [sz] <;> omega) | fail)) only [go_sem]; with_reducible refine hK _ _ ?_; clear hK K) | refine At.nil rfl ?_ | refine RG.nil rfl ?_ | ((first | refine AtL.skipg rfl rfl rfl rfl rfl ?_ | refine RGL.skipg rfl rfl rfl rfl rfl ?_ | refine AtL.skipu rfl rfl rfl rfl ?_ | refine RGL.skipu rfl rfl rfl rfl ?_); simp only [putL, List.set_cons_zero, List.set_cons_succ]) | refine Goes.yes rfl ?_ | refine Goes.no rfl ?_ | refine Goes.drawR [] (by kernel_rfl) ?_)
      ((first | refine qp1 rfl rfl fun K hK => ?_ | refine qp3 rfl rfl fun K hK => ?_); simp (disch := (first | omega | (simp only [sz] <;> omega) | fail)) only [go_sem]; refine ⟨_, _, qpu fun w => gPages_any N T w, ?_⟩; (try simp only [go_sem]); with_reducible refine hK _ _ ?_; clear hK K)
      repeat (first | refine Goes.reg ?_ | refine Goes.ctl2 rfl ?_ | ((first | refine qv1 rfl rfl rfl fun K hK => ?_ | refine qv3 rfl rfl rfl fun K hK => ?_ | refine qv2 rfl rfl rfl rfl rfl rfl fun K hK => ?_ | refine qv4 rfl rfl rfl rfl rfl rfl fun K hK => ?_ | refine qn1 rfl rfl rfl fun K hK => ?_ | refine qn3 rfl rfl rfl fun K hK => ?_ | refine qt1 rfl rfl rfl fun K hK => ?_ | refine qt3 rfl rfl rfl fun K hK => ?_); simp (disch := (first | omega | (simp only [sz] <;> omega) | fail)) only [go_sem]; with_reducible refine hK _ _ ?_; clear hK K) | refine At.nil rfl ?_ | refine RG.nil rfl ?_ | ((first | refine AtL.skipg rfl rfl rfl rfl rfl ?_ | refine RGL.skipg rfl rfl rfl rfl rfl ?_ | refine AtL.skipu rfl rfl rfl rfl ?_ | refine RGL.skipu rfl rfl rfl rfl ?_); simp only [putL, List.set_cons_zero, List.set_cons_succ]) | refine Goes.yes rfl ?_ | refine Goes.no rfl ?_ | refine Goes.drawR [] (by kernel_rfl) ?_)
      ((first | refine qc1 rfl rfl fun K hK => ?_ | refine qc3 rfl rfl fun K hK => ?_); simp (disch := (first | omega | (simp only [sz] <;> omega) | fail)) only [go_sem]; refine ⟨_, _, dget_does _ p m me _ _ _ N T _ _ (acc_p hp hm) (acc_m hp hm) (by omega) hN hT hu, ?_⟩; (try simp only [go_sem]); with_reducible refine hK _ _ ?_; clear hK K)
      rw [kd_pgU (by omega) (by omega), ln_pgU (by omega) (by omega), acc_acc hne]
      rw [show (pgU r.1 r.2).toNat / 2 ^ 13 % 2 ^ 2 = 0 by rw [pgU_nat (by omega) (by omega)]; omega, show (pgU r.1 r.2).toNat / 2 ^ 16 % 2 ^ 7 = 0 by rw [pgU_nat (by omega) (by omega)]; omega]
      unfold pgV
      have hz : N - tot (A ++ [r]) < N - tot A := by rw [tot_append]; simp only [tot]; omega
      by_cases c1 : r.1 = 1
      case neg =>
        repeat (first | refine Goes.reg ?_ | refine Goes.ctl2 rfl ?_ | ((first | refine qv1 rfl rfl rfl fun K hK => ?_ | refine qv3 rfl rfl rfl fun K hK => ?_ | refine qv2 rfl rfl rfl rfl rfl rfl fun K hK => ?_ | refine qv4 rfl rfl rfl rfl rfl rfl fun K hK => ?_ | refine qn1 rfl rfl rfl fun K hK => ?_ | refine qn3 rfl rfl rfl fun K hK => ?_ | refine qt1 rfl rfl rfl fun K hK => ?_ | refine qt3 rfl rfl rfl fun K hK => ?_); simp (disch := (first | omega | (simp only [sz] <;> omega) | fail)) only [go_sem, hdiv, hmul]; with_reducible refine hK _ _ ?_; clear hK K) | refine At.nil rfl ?_ | refine RG.nil rfl ?_ | ((first | refine AtL.skipg rfl rfl rfl rfl rfl ?_ | refine RGL.skipg rfl rfl rfl rfl rfl ?_ | refine AtL.skipu rfl rfl rfl rfl ?_ | refine RGL.skipu rfl rfl rfl rfl ?_); simp only [putL, List.set_cons_zero, List.set_cons_succ]) | refine Goes.yes rfl ?_ | refine Goes.no rfl ?_ | refine Goes.drawR [] (by kernel_rfl) ?_)
        ((first | refine qc1 rfl rfl fun K hK => ?_ | refine qc3 rfl rfl fun K hK => ?_); simp (disch := (first | omega | (simp only [sz] <;> omega) | fail)) only [go_sem]; refine ⟨_, _, long_does _ r.1 r.2 0 0, ?_⟩; (try simp only [go_sem]); with_reducible refine hK _ _ ?_; clear hK K)
        rw [hlong]
        repeat (first | refine Goes.reg ?_ | refine Goes.ctl2 rfl ?_ | ((first | refine qv1 rfl rfl rfl fun K hK => ?_ | refine qv3 rfl rfl rfl fun K hK => ?_ | refine qv2 rfl rfl rfl rfl rfl rfl fun K hK => ?_ | refine qv4 rfl rfl rfl rfl rfl rfl fun K hK => ?_ | refine qn1 rfl rfl rfl fun K hK => ?_ | refine qn3 rfl rfl rfl fun K hK => ?_ | refine qt1 rfl rfl rfl fun K hK => ?_ | refine qt3 rfl rfl rfl fun K hK => ?_); simp (disch := (first | omega | (simp only [sz] <;> omega) | fail)) only [go_sem]; with_reducible refine hK _ _ ?_; clear hK K) | refine At.nil rfl ?_ | refine RG.nil rfl ?_ | ((first | refine AtL.skipg rfl rfl rfl rfl rfl ?_ | refine RGL.skipg rfl rfl rfl rfl rfl ?_ | refine AtL.skipu rfl rfl rfl rfl ?_ | refine RGL.skipu rfl rfl rfl rfl ?_); simp only [putL, List.set_cons_zero, List.set_cons_succ]) | refine Goes.yes rfl ?_ | refine Goes.no rfl ?_ | refine Goes.drawR [] (by kernel_rfl) ?_)
        refine Goes.forget ?_ (by simp only [List.length_cons, List.length_nil]; omega)
        exact ih _ _ _ _ hz ⟨A ++ [r], C, o, _, _, rfl, by rw [hL]; simp, hstep.trans (by rw [if_neg (fun h => c1 h.1)]; simp [tot_append, tot]), (by rw [tot_append]; simp only [tot]; omega), by omega, (by rw [tot_append]; simp only [tot, List.length_cons, List.length_nil]; omega), rfl, rfl, rfl, rfl, rfl, rfl, rfl, rfl, rfl, (by rw [tot_append]; simp only [tot, Nat.add_zero]; push_cast; rfl)⟩
      by_cases c2 : R + k ≤ tot A + r.2
      case neg =>
        repeat (first | refine Goes.reg ?_ | refine Goes.ctl2 rfl ?_ | ((first | refine qv1 rfl rfl rfl fun K hK => ?_ | refine qv3 rfl rfl rfl fun K hK => ?_ | refine qv2 rfl rfl rfl rfl rfl rfl fun K hK => ?_ | refine qv4 rfl rfl rfl rfl rfl rfl fun K hK => ?_ | refine qn1 rfl rfl rfl fun K hK => ?_ | refine qn3 rfl rfl rfl fun K hK => ?_ | refine qt1 rfl rfl rfl fun K hK => ?_ | refine qt3 rfl rfl rfl fun K hK => ?_); simp (disch := (first | omega | (simp only [sz] <;> omega) | fail)) only [go_sem, hdiv, hmul]; with_reducible refine hK _ _ ?_; clear hK K) | refine At.nil rfl ?_ | refine RG.nil rfl ?_ | ((first | refine AtL.skipg rfl rfl rfl rfl rfl ?_ | refine RGL.skipg rfl rfl rfl rfl rfl ?_ | refine AtL.skipu rfl rfl rfl rfl ?_ | refine RGL.skipu rfl rfl rfl rfl ?_); simp only [putL, List.set_cons_zero, List.set_cons_succ]) | refine Goes.yes rfl ?_ | refine Goes.no rfl ?_ | refine Goes.drawR [] (by kernel_rfl) ?_)
        ((first | refine qc1 rfl rfl fun K hK => ?_ | refine qc3 rfl rfl fun K hK => ?_); simp (disch := (first | omega | (simp only [sz] <;> omega) | fail)) only [go_sem]; refine ⟨_, _, long_does _ r.1 r.2 0 0, ?_⟩; (try simp only [go_sem]); with_reducible refine hK _ _ ?_; clear hK K)
        rw [hlong]
        repeat (first | refine Goes.reg ?_ | refine Goes.ctl2 rfl ?_ | ((first | refine qv1 rfl rfl rfl fun K hK => ?_ | refine qv3 rfl rfl rfl fun K hK => ?_ | refine qv2 rfl rfl rfl rfl rfl rfl fun K hK => ?_ | refine qv4 rfl rfl rfl rfl rfl rfl fun K hK => ?_ | refine qn1 rfl rfl rfl fun K hK => ?_ | refine qn3 rfl rfl rfl fun K hK => ?_ | refine qt1 rfl rfl rfl fun K hK => ?_ | refine qt3 rfl rfl rfl fun K hK => ?_); simp (disch := (first | omega | (simp only [sz] <;> omega) | fail)) only [go_sem]; with_reducible refine hK _ _ ?_; clear hK K) | refine At.nil rfl ?_ | refine RG.nil rfl ?_ | ((first | refine AtL.skipg rfl rfl rfl rfl rfl ?_ | refine RGL.skipg rfl rfl rfl rfl rfl ?_ | refine AtL.skipu rfl rfl rfl rfl ?_ | refine RGL.skipu rfl rfl rfl rfl ?_); simp only [putL, List.set_cons_zero, List.set_cons_succ]) | refine Goes.yes rfl ?_ | refine Goes.no rfl ?_ | refine Goes.drawR [] (by kernel_rfl) ?_)
        refine Goes.forget ?_ (by simp only [List.length_cons, List.length_nil]; omega)
        exact ih _ _ _ _ hz ⟨A ++ [r], C, o, _, _, rfl, by rw [hL]; simp, hstep.trans (by rw [if_neg (fun h => c2 h.2.1)]; simp [tot_append, tot]), (by rw [tot_append]; simp only [tot]; omega), by omega, (by rw [tot_append]; simp only [tot, List.length_cons, List.length_nil]; omega), rfl, rfl, rfl, rfl, rfl, rfl, rfl, rfl, rfl, (by rw [tot_append]; simp only [tot, Nat.add_zero]; push_cast; rfl)⟩
      by_cases c3 : o.2.1 = 0
      case pos =>
        repeat (first | refine Goes.reg ?_ | refine Goes.ctl2 rfl ?_ | ((first | refine qv1 rfl rfl rfl fun K hK => ?_ | refine qv3 rfl rfl rfl fun K hK => ?_ | refine qv2 rfl rfl rfl rfl rfl rfl fun K hK => ?_ | refine qv4 rfl rfl rfl rfl rfl rfl fun K hK => ?_ | refine qn1 rfl rfl rfl fun K hK => ?_ | refine qn3 rfl rfl rfl fun K hK => ?_ | refine qt1 rfl rfl rfl fun K hK => ?_ | refine qt3 rfl rfl rfl fun K hK => ?_); simp (disch := (first | omega | (simp only [sz] <;> omega) | fail)) only [go_sem, hdiv, hmul]; with_reducible refine hK _ _ ?_; clear hK K) | refine At.nil rfl ?_ | refine RG.nil rfl ?_ | ((first | refine AtL.skipg rfl rfl rfl rfl rfl ?_ | refine RGL.skipg rfl rfl rfl rfl rfl ?_ | refine AtL.skipu rfl rfl rfl rfl ?_ | refine RGL.skipu rfl rfl rfl rfl ?_); simp only [putL, List.set_cons_zero, List.set_cons_succ]) | refine Goes.yes rfl ?_ | refine Goes.no rfl ?_ | refine Goes.drawR [] (by kernel_rfl) ?_)
        ((first | refine qc1 rfl rfl fun K hK => ?_ | refine qc3 rfl rfl fun K hK => ?_); simp (disch := (first | omega | (simp only [sz] <;> omega) | fail)) only [go_sem]; refine ⟨_, _, long_does _ r.1 r.2 0 0, ?_⟩; (try simp only [go_sem]); with_reducible refine hK _ _ ?_; clear hK K)
        rw [hlong]
        repeat (first | refine Goes.reg ?_ | refine Goes.ctl2 rfl ?_ | ((first | refine qv1 rfl rfl rfl fun K hK => ?_ | refine qv3 rfl rfl rfl fun K hK => ?_ | refine qv2 rfl rfl rfl rfl rfl rfl fun K hK => ?_ | refine qv4 rfl rfl rfl rfl rfl rfl fun K hK => ?_ | refine qn1 rfl rfl rfl fun K hK => ?_ | refine qn3 rfl rfl rfl fun K hK => ?_ | refine qt1 rfl rfl rfl fun K hK => ?_ | refine qt3 rfl rfl rfl fun K hK => ?_); simp (disch := (first | omega | (simp only [sz] <;> omega) | fail)) only [go_sem]; with_reducible refine hK _ _ ?_; clear hK K) | refine At.nil rfl ?_ | refine RG.nil rfl ?_ | ((first | refine AtL.skipg rfl rfl rfl rfl rfl ?_ | refine RGL.skipg rfl rfl rfl rfl rfl ?_ | refine AtL.skipu rfl rfl rfl rfl ?_ | refine RGL.skipu rfl rfl rfl rfl ?_); simp only [putL, List.set_cons_zero, List.set_cons_succ]) | refine Goes.yes rfl ?_ | refine Goes.no rfl ?_ | refine Goes.drawR [] (by kernel_rfl) ?_)
        refine Goes.forget ?_ (by simp only [List.length_cons, List.length_nil]; omega)
        exact ih _ _ _ _ hz ⟨A ++ [r], C, (tot A, r.2, R), _, _, rfl, by rw [hL]; simp, hstep.trans (by rw [if_pos ⟨c1, c2, .inl c3⟩]; simp [tot_append, tot]), (by rw [tot_append]; simp only [tot]; omega), by omega, (by rw [tot_append]; simp only [tot, List.length_cons, List.length_nil]; omega), rfl, rfl, rfl, rfl, rfl, rfl, rfl, rfl, rfl, (by rw [tot_append]; simp only [tot, Nat.add_zero]; push_cast; rfl)⟩
      by_cases c4 : r.2 < o.2.1
      case pos =>
        repeat (first | refine Goes.reg ?_ | refine Goes.ctl2 rfl ?_ | ((first | refine qv1 rfl rfl rfl fun K hK => ?_ | refine qv3 rfl rfl rfl fun K hK => ?_ | refine qv2 rfl rfl rfl rfl rfl rfl fun K hK => ?_ | refine qv4 rfl rfl rfl rfl rfl rfl fun K hK => ?_ | refine qn1 rfl rfl rfl fun K hK => ?_ | refine qn3 rfl rfl rfl fun K hK => ?_ | refine qt1 rfl rfl rfl fun K hK => ?_ | refine qt3 rfl rfl rfl fun K hK => ?_); simp (disch := (first | omega | (simp only [sz] <;> omega) | fail)) only [go_sem, hdiv, hmul]; with_reducible refine hK _ _ ?_; clear hK K) | refine At.nil rfl ?_ | refine RG.nil rfl ?_ | ((first | refine AtL.skipg rfl rfl rfl rfl rfl ?_ | refine RGL.skipg rfl rfl rfl rfl rfl ?_ | refine AtL.skipu rfl rfl rfl rfl ?_ | refine RGL.skipu rfl rfl rfl rfl ?_); simp only [putL, List.set_cons_zero, List.set_cons_succ]) | refine Goes.yes rfl ?_ | refine Goes.no rfl ?_ | refine Goes.drawR [] (by kernel_rfl) ?_)
        ((first | refine qc1 rfl rfl fun K hK => ?_ | refine qc3 rfl rfl fun K hK => ?_); simp (disch := (first | omega | (simp only [sz] <;> omega) | fail)) only [go_sem]; refine ⟨_, _, long_does _ r.1 r.2 0 0, ?_⟩; (try simp only [go_sem]); with_reducible refine hK _ _ ?_; clear hK K)
        rw [hlong]
        repeat (first | refine Goes.reg ?_ | refine Goes.ctl2 rfl ?_ | ((first | refine qv1 rfl rfl rfl fun K hK => ?_ | refine qv3 rfl rfl rfl fun K hK => ?_ | refine qv2 rfl rfl rfl rfl rfl rfl fun K hK => ?_ | refine qv4 rfl rfl rfl rfl rfl rfl fun K hK => ?_ | refine qn1 rfl rfl rfl fun K hK => ?_ | refine qn3 rfl rfl rfl fun K hK => ?_ | refine qt1 rfl rfl rfl fun K hK => ?_ | refine qt3 rfl rfl rfl fun K hK => ?_); simp (disch := (first | omega | (simp only [sz] <;> omega) | fail)) only [go_sem]; with_reducible refine hK _ _ ?_; clear hK K) | refine At.nil rfl ?_ | refine RG.nil rfl ?_ | ((first | refine AtL.skipg rfl rfl rfl rfl rfl ?_ | refine RGL.skipg rfl rfl rfl rfl rfl ?_ | refine AtL.skipu rfl rfl rfl rfl ?_ | refine RGL.skipu rfl rfl rfl rfl ?_); simp only [putL, List.set_cons_zero, List.set_cons_succ]) | refine Goes.yes rfl ?_ | refine Goes.no rfl ?_ | refine Goes.drawR [] (by kernel_rfl) ?_)
        refine Goes.forget ?_ (by simp only [List.length_cons, List.length_nil]; omega)
        exact ih _ _ _ _ hz ⟨A ++ [r], C, (tot A, r.2, R), _, _, rfl, by rw [hL]; simp, hstep.trans (by rw [if_pos ⟨c1, c2, .inr c4⟩]; simp [tot_append, tot]), (by rw [tot_append]; simp only [tot]; omega), by omega, (by rw [tot_append]; simp only [tot, List.length_cons, List.length_nil]; omega), rfl, rfl, rfl, rfl, rfl, rfl, rfl, rfl, rfl, (by rw [tot_append]; simp only [tot, Nat.add_zero]; push_cast; rfl)⟩
      case neg =>
        repeat (first | refine Goes.reg ?_ | refine Goes.ctl2 rfl ?_ | ((first | refine qv1 rfl rfl rfl fun K hK => ?_ | refine qv3 rfl rfl rfl fun K hK => ?_ | refine qv2 rfl rfl rfl rfl rfl rfl fun K hK => ?_ | refine qv4 rfl rfl rfl rfl rfl rfl fun K hK => ?_ | refine qn1 rfl rfl rfl fun K hK => ?_ | refine qn3 rfl rfl rfl fun K hK => ?_ | refine qt1 rfl rfl rfl fun K hK => ?_ | refine qt3 rfl rfl rfl fun K hK => ?_); simp (disch := (first | omega | (simp only [sz] <;> omega) | fail)) only [go_sem, hdiv, hmul]; with_reducible refine hK _ _ ?_; clear hK K) | refine At.nil rfl ?_ | refine RG.nil rfl ?_ | ((first | refine AtL.skipg rfl rfl rfl rfl rfl ?_ | refine RGL.skipg rfl rfl rfl rfl rfl ?_ | refine AtL.skipu rfl rfl rfl rfl ?_ | refine RGL.skipu rfl rfl rfl rfl ?_); simp only [putL, List.set_cons_zero, List.set_cons_succ]) | refine Goes.yes rfl ?_ | refine Goes.no rfl ?_ | refine Goes.drawR [] (by kernel_rfl) ?_)
        ((first | refine qc1 rfl rfl fun K hK => ?_ | refine qc3 rfl rfl fun K hK => ?_); simp (disch := (first | omega | (simp only [sz] <;> omega) | fail)) only [go_sem]; refine ⟨_, _, long_does _ r.1 r.2 0 0, ?_⟩; (try simp only [go_sem]); with_reducible refine hK _ _ ?_; clear hK K)
        rw [hlong]
        repeat (first | refine Goes.reg ?_ | refine Goes.ctl2 rfl ?_ | ((first | refine qv1 rfl rfl rfl fun K hK => ?_ | refine qv3 rfl rfl rfl fun K hK => ?_ | refine qv2 rfl rfl rfl rfl rfl rfl fun K hK => ?_ | refine qv4 rfl rfl rfl rfl rfl rfl fun K hK => ?_ | refine qn1 rfl rfl rfl fun K hK => ?_ | refine qn3 rfl rfl rfl fun K hK => ?_ | refine qt1 rfl rfl rfl fun K hK => ?_ | refine qt3 rfl rfl rfl fun K hK => ?_); simp (disch := (first | omega | (simp only [sz] <;> omega) | fail)) only [go_sem]; with_reducible refine hK _ _ ?_; clear hK K) | refine At.nil rfl ?_ | refine RG.nil rfl ?_ | ((first | refine AtL.skipg rfl rfl rfl rfl rfl ?_ | refine RGL.skipg rfl rfl rfl rfl rfl ?_ | refine AtL.skipu rfl rfl rfl rfl ?_ | refine RGL.skipu rfl rfl rfl rfl ?_); simp only [putL, List.set_cons_zero, List.set_cons_succ]) | refine Goes.yes rfl ?_ | refine Goes.no rfl ?_ | refine Goes.drawR [] (by kernel_rfl) ?_)
        refine Goes.forget ?_ (by simp only [List.length_cons, List.length_nil]; omega)
        exact ih _ _ _ _ hz ⟨A ++ [r], C, o, _, _, rfl, by rw [hL]; simp, hstep.trans (by rw [if_neg (fun h => h.2.2.elim c3 c4)]; simp [tot_append, tot]), (by rw [tot_append]; simp only [tot]; omega), by omega, (by rw [tot_append]; simp only [tot, List.length_cons, List.length_nil]; omega), rfl, rfl, rfl, rfl, rfl, rfl, rfl, rfl, rfl, (by rw [tot_append]; simp only [tot, Nat.add_zero]; push_cast; rfl)⟩
    · have hC : C = [] := by
        cases C with
        | nil => rfl
        | cons r C =>
          obtain ⟨hr1, hr2⟩ := hpos r (by rw [hL]; simp)
          rw [hL, tot_append] at htot; simp only [tot] at htot; omega
      subst hC
      rw [hbest]
      repeat (first | refine Goes.reg ?_ | refine Goes.ctl2 rfl ?_ | ((first | refine qv1 rfl rfl rfl fun K hK => ?_ | refine qv3 rfl rfl rfl fun K hK => ?_ | refine qv2 rfl rfl rfl rfl rfl rfl fun K hK => ?_ | refine qv4 rfl rfl rfl rfl rfl rfl fun K hK => ?_ | refine qn1 rfl rfl rfl fun K hK => ?_ | refine qn3 rfl rfl rfl fun K hK => ?_ | refine qt1 rfl rfl rfl fun K hK => ?_ | refine qt3 rfl rfl rfl fun K hK => ?_); simp (disch := (first | omega | (simp only [sz] <;> omega) | fail)) only [go_sem]; with_reducible refine hK _ _ ?_; clear hK K) | refine At.nil rfl ?_ | refine RG.nil rfl ?_ | ((first | refine AtL.skipg rfl rfl rfl rfl rfl ?_ | refine RGL.skipg rfl rfl rfl rfl rfl ?_ | refine AtL.skipu rfl rfl rfl rfl ?_ | refine RGL.skipu rfl rfl rfl rfl ?_); simp only [putL, List.set_cons_zero, List.set_cons_succ]) | refine Goes.yes rfl ?_ | refine Goes.no rfl ?_ | refine Goes.drawR [] (by kernel_rfl) ?_)
      ((first | refine qp1 rfl rfl fun K hK => ?_ | refine qp3 rfl rfl fun K hK => ?_); simp (disch := (first | omega | (simp only [sz] <;> omega) | fail)) only [go_sem]; refine ⟨_, _, qpu fun w => gPages_any N T w, ?_⟩; (try simp only [go_sem]); with_reducible refine hK _ _ ?_; clear hK K)
      repeat (first | refine Goes.reg ?_ | refine Goes.ctl2 rfl ?_ | ((first | refine qv1 rfl rfl rfl fun K hK => ?_ | refine qv3 rfl rfl rfl fun K hK => ?_ | refine qv2 rfl rfl rfl rfl rfl rfl fun K hK => ?_ | refine qv4 rfl rfl rfl rfl rfl rfl fun K hK => ?_ | refine qn1 rfl rfl rfl fun K hK => ?_ | refine qn3 rfl rfl rfl fun K hK => ?_ | refine qt1 rfl rfl rfl fun K hK => ?_ | refine qt3 rfl rfl rfl fun K hK => ?_); simp (disch := (first | omega | (simp only [sz] <;> omega) | fail)) only [go_sem]; with_reducible refine hK _ _ ?_; clear hK K) | refine At.nil rfl ?_ | refine RG.nil rfl ?_ | ((first | refine AtL.skipg rfl rfl rfl rfl rfl ?_ | refine RGL.skipg rfl rfl rfl rfl rfl ?_ | refine AtL.skipu rfl rfl rfl rfl ?_ | refine RGL.skipu rfl rfl rfl rfl ?_); simp only [putL, List.set_cons_zero, List.set_cons_succ]) | refine Goes.yes rfl ?_ | refine Goes.no rfl ?_ | refine Goes.drawR [] (by kernel_rfl) ?_)
      refine Goes.finE rfl (by simp (disch := (first | omega | (simp only [heapL_next, List.length_cons, List.length_nil, List.size_toArray, geo_len] <;> omega) | fail)) only [go_sem, resA, res1A, Try.results102] <;> rfl) ?_
      exact ⟨_, by omega, rfl, rfl⟩
end Go.Proofs.Ytceddijolfpppaa
namespace Go.Proofs.Ytceddijolfpppaa
open Go Go.RowKit
set_option linter.unusedSimpArgs false
set_option linter.unusedVariables false
theorem fill1_geo {off N T : Nat} {cells : List Value} {K : List Value → Option (List Value)} (hl : off + 22 ≤ cells.length) : fill1 (some (off, 22)) (.agg (geoC N T)) cells K = K (spliceA cells off (geoC N T).toList) :=
  fill1_agg (by rw [← Array.length_toList, geo_len]) hl
theorem dk_cells (p N T : Nat) : prtV p :: (geoC N T).toList = (dkC p N T).toList := (dk_list p N T).symm
attribute [go_sem] fill1_geo dk_cells
theorem best_cut {L : List Rn} (k a : Nat) (hp : Pos L) (ha : 1 ≤ a) (hn : (bestL k a L 0 (0, 0, 0)).2.1 ≠ 0) :
    ∃ A C f r, L = A ++ (1, f + k + r) :: C ∧ bestL k a L 0 (0, 0, 0) = (tot A, f + k + r, tot A + f) := by
  rcases bestL_spec (k := k) (a := a) L 0 (0, 0, 0) with h | ⟨A, r, C, h1, h2, h3, h4⟩
  · rw [h] at hn; exact absurd rfl hn
  · rw [Nat.zero_add] at h3 h4
    have h5 := rup_ge (x := tot A) ha
    refine ⟨A, C, rup (tot A) a - tot A, r.2 - (rup (tot A) a - tot A) - k, ?_, ?_⟩
    · rw [h1, show rup (tot A) a - tot A + k + (r.2 - (rup (tot A) a - tot A) - k) = r.2 by omega, ← h2]
    · rw [h3, show rup (tot A) a - tot A + k + (r.2 - (rup (tot A) a - tot A) - k) = r.2 by omega, show tot A + (rup (tot A) a - tot A) = rup (tot A) a by omega]
theorem zer_next {P : Nat → UInt64} {a b : Nat} (h : a ≤ b) (y : Nat) : up (zer P a b) b 0 y = zer P a (b + 1) y := by
  unfold up zer
  by_cases h1 : y = b
  · rw [if_pos h1, if_pos (by omega)]
  · rw [if_neg h1]
    by_cases h2 : a ≤ y ∧ y < b
    · rw [if_pos h2, if_pos (by omega)]
    · rw [if_neg h2, if_neg (by omega)]
theorem zer_none {P : Nat → UInt64} {a : Nat} (y : Nat) : P y = zer P a a y := by unfold zer; rw [if_neg (by omega)]
def AllocSaid (k a : Int) (N T : Nat) (ws0 ws : List UInt64) (L : List Rn) (v : Value) (ws' : List UInt64) (L' : List Rn) : Prop :=
  (v = .tuple #[.int .i64 0, .bool false] ∧ L' = L ∧ ws' = ws ∧ (1 ≤ k → 1 ≤ a → k ≤ N → (bestL k.toNat (min a 256).toNat L 0 (0, 0, 0)).2.1 = 0)) ∨
  (1 ≤ k ∧ 1 ≤ a ∧ ∃ A C f r, L = A ++ (1, f + k.toNat + r) :: C ∧ bestL k.toNat (min a 256).toNat L 0 (0, 0, 0) = (tot A, f + k.toNat + r, tot A + f) ∧ L' = A ++ (fr f ++ (4, k.toNat) :: (fr r ++ C)) ∧ v = .tuple #[.int .i64 ((tot A + f : Nat) : Int), .bool true])
set_option maxHeartbeats 2000000 in
theorem alloc_does (S : St) (p m me : Nat) (steps : Nat) (ws0 ws : List UInt64) (bs : List UInt8) (N T : Nat) (k a : Int) {L : List Rn} (hp : S[p]? = some (.port m me steps)) (hm : S[m]? = some (.mem ws bs)) (hst : steps ≤ 1000000000) (h1 : 1 ≤ N) (hN : N ≤ 256) (hT : T ≤ 64) (hP : Pg N T ws0 ws (pw L) (bw L)) (hpos : Pos L) (htot : tot L = N) :
    ∃ v S', (∃ st' ws' L', st' ≤ steps + 600 ∧ S' = accS S p m me st' ws' bs ∧ Pg N T ws0 ws' (pw L') (bw L') ∧ AllocSaid k a N T ws0 ws L v ws' L') ∧ Does OF 34 #[prtV p, .agg (geoC N T), .int .i64 k, .int .i64 a] [] S v S' := by
  have hne := hne_of hp hm
  refine Does.ex Try.func34 rfl rfl ?clo ?hand ?_
  case clo => exact clo4 (pclo (hlt_of hp)) (Clo.plain (geo_plain _ _)) iclo iclo
  case hand =>
    rintro v S' ⟨_, _, _, _, _, _, h⟩
    rcases h with ⟨rfl, _⟩ | ⟨_, _, _, _, _, _, _, _, _, rfl⟩ <;> exact Hand.plain (by simp [plainB])
  rw [Try.ntmps34]; simp only [List.size_toArray, List.length_cons, List.length_nil, List.replicate, List.cons_append, List.nil_append]
  by_cases hbad : k < 1 ∨ a < 1 ∨ (N : Int) < k
  · by_cases b1 : k < 1
    · repeat (first | refine Goes.reg ?_ | refine Goes.ctl2 rfl ?_ | ((first | refine qv1 rfl rfl rfl fun K hK => ?_ | refine qv3 rfl rfl rfl fun K hK => ?_ | refine qv2 rfl rfl rfl rfl rfl rfl fun K hK => ?_ | refine qv4 rfl rfl rfl rfl rfl rfl fun K hK => ?_ | refine qn1 rfl rfl rfl fun K hK => ?_ | refine qn3 rfl rfl rfl fun K hK => ?_ | refine qt1 rfl rfl rfl fun K hK => ?_ | refine qt3 rfl rfl rfl fun K hK => ?_); simp (disch := (first | omega | (simp only [sz] <;> omega) | fail)) only [go_sem]; with_reducible refine hK _ _ ?_; clear hK K) | refine At.nil rfl ?_ | refine RG.nil rfl ?_ | ((first | refine AtL.skipg rfl rfl rfl rfl rfl ?_ | refine RGL.skipg rfl rfl rfl rfl rfl ?_ | refine AtL.skipu rfl rfl rfl rfl ?_ | refine RGL.skipu rfl rfl rfl rfl ?_); simp only [putL, List.set_cons_zero, List.set_cons_succ]) | refine Goes.yes rfl ?_ | refine Goes.no rfl ?_ | refine Goes.drawR [] (by kernel_rfl) ?_)
      refine Goes.finE rfl (by simp (disch := (first | omega | (simp only [heapL_next, List.length_cons, List.length_nil, List.size_toArray, geo_len] <;> omega) | fail)) only [go_sem, resA, res1A, Try.results34] <;> rfl) ?_
      exact ⟨steps, ws, L, by omega, (acc_same hp hm).symm, hP, .inl ⟨rfl, rfl, rfl, fun _ _ _ => by omega⟩⟩
    by_cases b2 : a < 1
    · repeat (first | refine Goes.reg ?_ | refine Goes.ctl2 rfl ?_ | ((first | refine qv1 rfl rfl rfl fun K hK => ?_ | refine qv3 rfl rfl rfl fun K hK => ?_ | refine qv2 rfl rfl rfl rfl rfl rfl fun K hK => ?_ | refine qv4 rfl rfl rfl rfl rfl rfl fun K hK => ?_ | refine qn1 rfl rfl rfl fun K hK => ?_ | refine qn3 rfl rfl rfl fun K hK => ?_ | refine qt1 rfl rfl rfl fun K hK => ?_ | refine qt3 rfl rfl rfl fun K hK => ?_); simp (disch := (first | omega | (simp only [sz] <;> omega) | fail)) only [go_sem]; with_reducible refine hK _ _ ?_; clear hK K) | refine At.nil rfl ?_ | refine RG.nil rfl ?_ | ((first | refine AtL.skipg rfl rfl rfl rfl rfl ?_ | refine RGL.skipg rfl rfl rfl rfl rfl ?_ | refine AtL.skipu rfl rfl rfl rfl ?_ | refine RGL.skipu rfl rfl rfl rfl ?_); simp only [putL, List.set_cons_zero, List.set_cons_succ]) | refine Goes.yes rfl ?_ | refine Goes.no rfl ?_ | refine Goes.drawR [] (by kernel_rfl) ?_)
      refine Goes.finE rfl (by simp (disch := (first | omega | (simp only [heapL_next, List.length_cons, List.length_nil, List.size_toArray, geo_len] <;> omega) | fail)) only [go_sem, resA, res1A, Try.results34] <;> rfl) ?_
      exact ⟨steps, ws, L, by omega, (acc_same hp hm).symm, hP, .inl ⟨rfl, rfl, rfl, fun _ _ _ => by omega⟩⟩
    · repeat (first | refine Goes.reg ?_ | refine Goes.ctl2 rfl ?_ | ((first | refine qv1 rfl rfl rfl fun K hK => ?_ | refine qv3 rfl rfl rfl fun K hK => ?_ | refine qv2 rfl rfl rfl rfl rfl rfl fun K hK => ?_ | refine qv4 rfl rfl rfl rfl rfl rfl fun K hK => ?_ | refine qn1 rfl rfl rfl fun K hK => ?_ | refine qn3 rfl rfl rfl fun K hK => ?_ | refine qt1 rfl rfl rfl fun K hK => ?_ | refine qt3 rfl rfl rfl fun K hK => ?_); simp (disch := (first | omega | (simp only [sz] <;> omega) | fail)) only [go_sem]; with_reducible refine hK _ _ ?_; clear hK K) | refine At.nil rfl ?_ | refine RG.nil rfl ?_ | ((first | refine AtL.skipg rfl rfl rfl rfl rfl ?_ | refine RGL.skipg rfl rfl rfl rfl rfl ?_ | refine AtL.skipu rfl rfl rfl rfl ?_ | refine RGL.skipu rfl rfl rfl rfl ?_); simp only [putL, List.set_cons_zero, List.set_cons_succ]) | refine Goes.yes rfl ?_ | refine Goes.no rfl ?_ | refine Goes.drawR [] (by kernel_rfl) ?_)
      ((first | refine qp1 rfl rfl fun K hK => ?_ | refine qp3 rfl rfl fun K hK => ?_); simp (disch := (first | omega | (simp only [sz] <;> omega) | fail)) only [go_sem]; refine ⟨_, _, qpu fun w => gPages_any N T w, ?_⟩; (try simp only [go_sem]); with_reducible refine hK _ _ ?_; clear hK K)
      repeat (first | refine Goes.reg ?_ | refine Goes.ctl2 rfl ?_ | ((first | refine qv1 rfl rfl rfl fun K hK => ?_ | refine qv3 rfl rfl rfl fun K hK => ?_ | refine qv2 rfl rfl rfl rfl rfl rfl fun K hK => ?_ | refine qv4 rfl rfl rfl rfl rfl rfl fun K hK => ?_ | refine qn1 rfl rfl rfl fun K hK => ?_ | refine qn3 rfl rfl rfl fun K hK => ?_ | refine qt1 rfl rfl rfl fun K hK => ?_ | refine qt3 rfl rfl rfl fun K hK => ?_); simp (disch := (first | omega | (simp only [sz] <;> omega) | fail)) only [go_sem]; with_reducible refine hK _ _ ?_; clear hK K) | refine At.nil rfl ?_ | refine RG.nil rfl ?_ | ((first | refine AtL.skipg rfl rfl rfl rfl rfl ?_ | refine RGL.skipg rfl rfl rfl rfl rfl ?_ | refine AtL.skipu rfl rfl rfl rfl ?_ | refine RGL.skipu rfl rfl rfl rfl ?_); simp only [putL, List.set_cons_zero, List.set_cons_succ]) | refine Goes.yes rfl ?_ | refine Goes.no rfl ?_ | refine Goes.drawR [] (by kernel_rfl) ?_)
      refine Goes.finE rfl (by simp (disch := (first | omega | (simp only [heapL_next, List.length_cons, List.length_nil, List.size_toArray, geo_len] <;> omega) | fail)) only [go_sem, resA, res1A, Try.results34] <;> rfl) ?_
      exact ⟨steps, ws, L, by omega, (acc_same hp hm).symm, hP, .inl ⟨rfl, rfl, rfl, fun _ _ _ => by omega⟩⟩
  obtain ⟨kn, rfl⟩ := Int.eq_ofNat_of_zero_le (show 0 ≤ k by omega)
  obtain ⟨an, han⟩ := Int.eq_ofNat_of_zero_le (show 0 ≤ min a 256 by omega)
  have hmin : (if a > 256 then (256 : Int) else a) = (an : Int) := by rw [← han]; split <;> omega
  have ha1 : 1 ≤ an := by omega
  have ha2 : an ≤ 256 := by omega
  obtain ⟨v1, S1, ⟨st1, hst1, rfl, rfl⟩, hd1⟩ := best_does S p m me steps ws0 ws bs N T kn an hp hm hst h1 hN hT hP hpos htot (by omega) (by omega) ha1 ha2
  repeat (first | refine Goes.reg ?_ | refine Goes.ctl2 rfl ?_ | ((first | refine qv1 rfl rfl rfl fun K hK => ?_ | refine qv3 rfl rfl rfl fun K hK => ?_ | refine qv2 rfl rfl rfl rfl rfl rfl fun K hK => ?_ | refine qv4 rfl rfl rfl rfl rfl rfl fun K hK => ?_ | refine qn1 rfl rfl rfl fun K hK => ?_ | refine qn3 rfl rfl rfl fun K hK => ?_ | refine qt1 rfl rfl rfl fun K hK => ?_ | refine qt3 rfl rfl rfl fun K hK => ?_); simp (disch := (first | omega | (simp only [sz] <;> omega) | fail)) only [go_sem]; with_reducible refine hK _ _ ?_; clear hK K) | refine At.nil rfl ?_ | refine RG.nil rfl ?_ | ((first | refine AtL.skipg rfl rfl rfl rfl rfl ?_ | refine RGL.skipg rfl rfl rfl rfl rfl ?_ | refine AtL.skipu rfl rfl rfl rfl ?_ | refine RGL.skipu rfl rfl rfl rfl ?_); simp only [putL, List.set_cons_zero, List.set_cons_succ]) | refine Goes.yes rfl ?_ | refine Goes.no rfl ?_ | refine Goes.drawR [] (by kernel_rfl) ?_)
  ((first | refine qp1 rfl rfl fun K hK => ?_ | refine qp3 rfl rfl fun K hK => ?_); simp (disch := (first | omega | (simp only [sz] <;> omega) | fail)) only [go_sem]; refine ⟨_, _, qpu fun w => gPages_any N T w, ?_⟩; (try simp only [go_sem]); with_reducible refine hK _ _ ?_; clear hK K)
  repeat (first | refine Goes.reg ?_ | refine Goes.ctl2 rfl ?_ | ((first | refine qv1 rfl rfl rfl fun K hK => ?_ | refine qv3 rfl rfl rfl fun K hK => ?_ | refine qv2 rfl rfl rfl rfl rfl rfl fun K hK => ?_ | refine qv4 rfl rfl rfl rfl rfl rfl fun K hK => ?_ | refine qn1 rfl rfl rfl fun K hK => ?_ | refine qn3 rfl rfl rfl fun K hK => ?_ | refine qt1 rfl rfl rfl fun K hK => ?_ | refine qt3 rfl rfl rfl fun K hK => ?_); simp (disch := (first | omega | (simp only [sz] <;> omega) | fail)) only [go_sem, hmin]; with_reducible refine hK _ _ ?_; clear hK K) | refine At.nil rfl ?_ | refine RG.nil rfl ?_ | ((first | refine AtL.skipg rfl rfl rfl rfl rfl ?_ | refine RGL.skipg rfl rfl rfl rfl rfl ?_ | refine AtL.skipu rfl rfl rfl rfl ?_ | refine RGL.skipu rfl rfl rfl rfl ?_); simp only [putL, List.set_cons_zero, List.set_cons_succ]) | refine Goes.yes rfl ?_ | refine Goes.no rfl ?_ | refine Goes.drawR [] (by kernel_rfl) ?_)
  ((first | refine qc1 rfl rfl fun K hK => ?_ | refine qc3 rfl rfl fun K hK => ?_); simp (disch := (first | omega | (simp only [sz] <;> omega) | fail)) only [go_sem]; refine ⟨_, _, hd1, ?_⟩; (try simp only [go_sem]); with_reducible refine hK _ _ ?_; clear hK K)
  unfold fitV
  obtain ⟨o, ho⟩ : ∃ o, o = bestL kn an L 0 (0, 0, 0) := ⟨_, rfl⟩
  rw [← ho]
  by_cases h0 : o.2.1 = 0
  · repeat (first | refine Goes.reg ?_ | refine Goes.ctl2 rfl ?_ | ((first | refine qv1 rfl rfl rfl fun K hK => ?_ | refine qv3 rfl rfl rfl fun K hK => ?_ | refine qv2 rfl rfl rfl rfl rfl rfl fun K hK => ?_ | refine qv4 rfl rfl rfl rfl rfl rfl fun K hK => ?_ | refine qn1 rfl rfl rfl fun K hK => ?_ | refine qn3 rfl rfl rfl fun K hK => ?_ | refine qt1 rfl rfl rfl fun K hK => ?_ | refine qt3 rfl rfl rfl fun K hK => ?_); simp (disch := (first | omega | (simp only [sz] <;> omega) | fail)) only [go_sem]; with_reducible refine hK _ _ ?_; clear hK K) | refine At.nil rfl ?_ | refine RG.nil rfl ?_ | ((first | refine AtL.skipg rfl rfl rfl rfl rfl ?_ | refine RGL.skipg rfl rfl rfl rfl rfl ?_ | refine AtL.skipu rfl rfl rfl rfl ?_ | refine RGL.skipu rfl rfl rfl rfl ?_); simp only [putL, List.set_cons_zero, List.set_cons_succ]) | refine Goes.yes rfl ?_ | refine Goes.no rfl ?_ | refine Goes.drawR [] (by kernel_rfl) ?_)
    refine Goes.finE rfl (by simp (disch := (first | omega | (simp only [heapL_next, List.length_cons, List.length_nil, List.size_toArray, geo_len] <;> omega) | fail)) only [go_sem, resA, res1A, Try.results34] <;> rfl) ?_
    refine ⟨st1, ws, L, by omega, rfl, hP, .inl ⟨rfl, rfl, rfl, fun _ _ _ => ?_⟩⟩
    rw [show (min a 256).toNat = an by omega, Int.toNat_natCast, ← ho]; exact h0
  obtain ⟨A, C, f, r, hL, hb⟩ := best_cut kn an hpos ha1 (ho ▸ h0)
  rw [← ho] at hb
  subst hb
  have hlen : tot A + (f + kn + r) + tot C = N := by rw [← htot, hL, tot_append]; simp only [tot]; omega
  repeat (first | refine Goes.reg ?_ | refine Goes.ctl2 rfl ?_ | ((first | refine qv1 rfl rfl rfl fun K hK => ?_ | refine qv3 rfl rfl rfl fun K hK => ?_ | refine qv2 rfl rfl rfl rfl rfl rfl fun K hK => ?_ | refine qv4 rfl rfl rfl rfl rfl rfl fun K hK => ?_ | refine qn1 rfl rfl rfl fun K hK => ?_ | refine qn3 rfl rfl rfl fun K hK => ?_ | refine qt1 rfl rfl rfl fun K hK => ?_ | refine qt3 rfl rfl rfl fun K hK => ?_); simp (disch := (first | omega | (simp only [sz] <;> omega) | fail)) only [go_sem]; with_reducible refine hK _ _ ?_; clear hK K) | refine At.nil rfl ?_ | refine RG.nil rfl ?_ | ((first | refine AtL.skipg rfl rfl rfl rfl rfl ?_ | refine RGL.skipg rfl rfl rfl rfl rfl ?_ | refine AtL.skipu rfl rfl rfl rfl ?_ | refine RGL.skipu rfl rfl rfl rfl ?_); simp only [putL, List.set_cons_zero, List.set_cons_succ]) | refine Goes.yes rfl ?_ | refine Goes.no rfl ?_ | refine Goes.drawR [] (by kernel_rfl) ?_)
  ((first | refine qc1 rfl rfl fun K hK => ?_ | refine qc3 rfl rfl fun K hK => ?_); simp (disch := (first | omega | (simp only [sz] <;> omega) | fail)) only [go_sem]; refine ⟨_, _, dcount_does _ p m me _ _ _ N T (f + kn + r) true (acc_p hp hm) (acc_m hp hm) (by omega) hN hT (by omega) (by omega), ?_⟩; (try simp only [go_sem]); with_reducible refine hK _ _ ?_; clear hK K)
  rw [acc_acc hne]
  have hP1 := hP.add h1 (log2_lt9 (n := f + kn + r) (by omega) (by omega)) (0 - 1)
  repeat (first | refine Goes.reg ?_ | refine Goes.ctl2 rfl ?_ | ((first | refine qv1 rfl rfl rfl fun K hK => ?_ | refine qv3 rfl rfl rfl fun K hK => ?_ | refine qv2 rfl rfl rfl rfl rfl rfl fun K hK => ?_ | refine qv4 rfl rfl rfl rfl rfl rfl fun K hK => ?_ | refine qn1 rfl rfl rfl fun K hK => ?_ | refine qn3 rfl rfl rfl fun K hK => ?_ | refine qt1 rfl rfl rfl fun K hK => ?_ | refine qt3 rfl rfl rfl fun K hK => ?_); simp (disch := (first | omega | (simp only [sz] <;> omega) | fail)) only [go_sem]; with_reducible refine hK _ _ ?_; clear hK K) | refine At.nil rfl ?_ | refine RG.nil rfl ?_ | ((first | refine AtL.skipg rfl rfl rfl rfl rfl ?_ | refine RGL.skipg rfl rfl rfl rfl rfl ?_ | refine AtL.skipu rfl rfl rfl rfl ?_ | refine RGL.skipu rfl rfl rfl rfl ?_); simp only [putL, List.set_cons_zero, List.set_cons_succ]) | refine Goes.yes rfl ?_ | refine Goes.no rfl ?_ | refine Goes.drawR [] (by kernel_rfl) ?_)
  refine Goes.wh (fun z tmps h S' => ∃ (j st : Nat) (wj : List UInt64), z = kn - 1 - j ∧ j ≤ kn - 1 ∧ st ≤ steps + 10 + N + j ∧ S' = accS S p m me st wj bs ∧ Pg N T ws0 wj (zer (pw L) (tot A + f + 1) (tot A + f + 1 + j)) (lessB (bw L) (f + kn + r)) ∧
      h = heapL [some { cells := (geoC N T).toList, elem := 26 }, some { cells := (dkC p N T).toList, elem := 152 }, some { cells := [.int .i64 ((tot A : Nat) : Int), .int .i64 ((f + kn + r : Nat) : Int), .int .i64 ((tot A + f : Nat) : Int)], elem := 154 }] ∧ tmps.length = 86 ∧
      tmps.getD 2 undef = .int .i64 kn ∧ tmps.getD 10 undef = .pointer (some ⟨1, 0, none⟩) ∧ tmps.getD 11 undef = .pointer (some ⟨2, 0, none⟩) ∧ tmps.getD 12 undef = .int .i64 ((tot A + f + 1 + j : Nat) : Int)) (m := kn - 1)
      ⟨0, st1 + 1, _, rfl, by omega, by omega, rfl, hP1.congr (fun y _ => zer_none y) (fun b _ => rfl), rfl, rfl, rfl, rfl, rfl, rfl⟩ ?_
  clear hP1 hd1
  rintro z tmps h S' ih ⟨j, st, wj, rfl, hj, hst', rfl, hPj, rfl, hl, f2, f10, f11, f12⟩
  obtain ⟨V, hV, hT⟩ := frame_lit hl; replace hT : _ = ([V 0, V 1, V 2, V 3, V 4, V 5, V 6, V 7, V 8, V 9, V 10, V 11, V 12, V 13, V 14, V 15, V 16, V 17, V 18, V 19, V 20, V 21, V 22, V 23, V 24, V 25, V 26, V 27, V 28, V 29, V 30, V 31, V 32, V 33, V 34, V 35, V 36, V 37, V 38, V 39, V 40, V 41, V 42, V 43, V 44, V 45, V 46, V 47, V 48, V 49, V 50, V 51, V 52, V 53, V 54, V 55, V 56, V 57, V 58, V 59, V 60, V 61, V 62, V 63, V 64, V 65, V 66, V 67, V 68, V 69, V 70, V 71, V 72, V 73, V 74, V 75, V 76, V 77, V 78, V 79, V 80, V 81, V 82, V 83, V 84, V 85] : List Value) := hT; rw [hV] at f2 f10 f11 f12; subst hT; simp only [f2, f10, f11, f12]; clear hV hl
  by_cases hlt : j < kn - 1
  · repeat (first | refine Goes.reg ?_ | refine Goes.ctl2 rfl ?_ | ((first | refine qv1 rfl rfl rfl fun K hK => ?_ | refine qv3 rfl rfl rfl fun K hK => ?_ | refine qv2 rfl rfl rfl rfl rfl rfl fun K hK => ?_ | refine qv4 rfl rfl rfl rfl rfl rfl fun K hK => ?_ | refine qn1 rfl rfl rfl fun K hK => ?_ | refine qn3 rfl rfl rfl fun K hK => ?_ | refine qt1 rfl rfl rfl fun K hK => ?_ | refine qt3 rfl rfl rfl fun K hK => ?_); simp (disch := (first | omega | (simp only [sz] <;> omega) | fail)) only [go_sem]; with_reducible refine hK _ _ ?_; clear hK K) | refine At.nil rfl ?_ | refine RG.nil rfl ?_ | ((first | refine AtL.skipg rfl rfl rfl rfl rfl ?_ | refine RGL.skipg rfl rfl rfl rfl rfl ?_ | refine AtL.skipu rfl rfl rfl rfl ?_ | refine RGL.skipu rfl rfl rfl rfl ?_); simp only [putL, List.set_cons_zero, List.set_cons_succ]) | refine Goes.yes rfl ?_ | refine Goes.no rfl ?_ | refine Goes.drawR [] (by kernel_rfl) ?_)
    ((first | refine qc1 rfl rfl fun K hK => ?_ | refine qc3 rfl rfl fun K hK => ?_); simp (disch := (first | omega | (simp only [sz] <;> omega) | fail)) only [go_sem]; refine ⟨_, _, dput_does _ p m me _ _ _ N T _ 0 0 (acc_p hp hm) (acc_m hp hm) (by omega) hN hT (by decide) (by decide), ?_⟩; (try simp only [go_sem]); with_reducible refine hK _ _ ?_; clear hK K)
    rw [acc_acc hne]
    repeat (first | refine Goes.reg ?_ | refine Goes.ctl2 rfl ?_ | ((first | refine qv1 rfl rfl rfl fun K hK => ?_ | refine qv3 rfl rfl rfl fun K hK => ?_ | refine qv2 rfl rfl rfl rfl rfl rfl fun K hK => ?_ | refine qv4 rfl rfl rfl rfl rfl rfl fun K hK => ?_ | refine qn1 rfl rfl rfl fun K hK => ?_ | refine qn3 rfl rfl rfl fun K hK => ?_ | refine qt1 rfl rfl rfl fun K hK => ?_ | refine qt3 rfl rfl rfl fun K hK => ?_); simp (disch := (first | omega | (simp only [sz] <;> omega) | fail)) only [go_sem]; with_reducible refine hK _ _ ?_; clear hK K) | refine At.nil rfl ?_ | refine RG.nil rfl ?_ | ((first | refine AtL.skipg rfl rfl rfl rfl rfl ?_ | refine RGL.skipg rfl rfl rfl rfl rfl ?_ | refine AtL.skipu rfl rfl rfl rfl ?_ | refine RGL.skipu rfl rfl rfl rfl ?_); simp only [putL, List.set_cons_zero, List.set_cons_succ]) | refine Goes.yes rfl ?_ | refine Goes.no rfl ?_ | refine Goes.drawR [] (by kernel_rfl) ?_)
    have hP2 := hPj.put h1 (x := tot A + f + 1 + j) (by omega) 2 (pgU 0 0) 0
    exact ih _ _ _ _ (by omega) ⟨j + 1, st + 1, _, rfl, by omega, by omega, rfl, hP2.congr (fun y _ => (zer_next (by omega) y)) (fun b _ => rfl), rfl, rfl, rfl, rfl, rfl, rfl⟩
  obtain rfl : j = kn - 1 := by omega
  repeat (first | refine Goes.reg ?_ | refine Goes.ctl2 rfl ?_ | ((first | refine qv1 rfl rfl rfl fun K hK => ?_ | refine qv3 rfl rfl rfl fun K hK => ?_ | refine qv2 rfl rfl rfl rfl rfl rfl fun K hK => ?_ | refine qv4 rfl rfl rfl rfl rfl rfl fun K hK => ?_ | refine qn1 rfl rfl rfl fun K hK => ?_ | refine qn3 rfl rfl rfl fun K hK => ?_ | refine qt1 rfl rfl rfl fun K hK => ?_ | refine qt3 rfl rfl rfl fun K hK => ?_); simp (disch := (first | omega | (simp only [sz] <;> omega) | fail)) only [go_sem]; with_reducible refine hK _ _ ?_; clear hK K) | refine At.nil rfl ?_ | refine RG.nil rfl ?_ | ((first | refine AtL.skipg rfl rfl rfl rfl rfl ?_ | refine RGL.skipg rfl rfl rfl rfl rfl ?_ | refine AtL.skipu rfl rfl rfl rfl ?_ | refine RGL.skipu rfl rfl rfl rfl ?_); simp only [putL, List.set_cons_zero, List.set_cons_succ]) | refine Goes.yes rfl ?_ | refine Goes.no rfl ?_ | refine Goes.drawR [] (by kernel_rfl) ?_)
  ((first | refine qc1 rfl rfl fun K hK => ?_ | refine qc3 rfl rfl fun K hK => ?_); simp (disch := (first | omega | (simp only [sz] <;> omega) | fail)) only [go_sem]; refine ⟨_, _, dput_does _ p m me _ _ _ N T _ 4 kn (acc_p hp hm) (acc_m hp hm) (by omega) hN hT (by decide) (by omega), ?_⟩; (try simp only [go_sem]); with_reducible refine hK _ _ ?_; clear hK K)
  rw [acc_acc hne]
  have hP2 := hPj.put h1 (x := tot A + f) (by omega) 2 (pgU 4 kn) 0
  have e1 : ((tot A + f : Nat) : Int) - ((tot A : Nat) : Int) = (f : Int) := by omega
  have e2 : ((tot A + f : Nat) : Int) + (kn : Int) = ((tot A + f + kn : Nat) : Int) := by omega
  have e3 : ((tot A : Nat) : Int) + ((f + kn + r : Nat) : Int) = ((tot A + (f + kn + r) : Nat) : Int) := by omega
  have e4 : ((tot A + (f + kn + r) : Nat) : Int) - ((tot A + f : Nat) : Int) = ((kn + r : Nat) : Int) := by omega
  have e5 : ((kn + r : Nat) : Int) - (kn : Int) = (r : Int) := by omega
  obtain ⟨w3, s3, hs3, hP3, hd3⟩ := dlay_does _ p m me (st + 1) ws0 _ bs N T (tot A) f (acc_p (S := S) (me' := me) (s' := st + 1) (bs' := bs) hp hm) (acc_m (S := S) hp hm) (by omega) h1 hN hT hP2 (by omega)
  repeat (first | refine Goes.reg ?_ | refine Goes.ctl2 rfl ?_ | ((first | refine qv1 rfl rfl rfl fun K hK => ?_ | refine qv3 rfl rfl rfl fun K hK => ?_ | refine qv2 rfl rfl rfl rfl rfl rfl fun K hK => ?_ | refine qv4 rfl rfl rfl rfl rfl rfl fun K hK => ?_ | refine qn1 rfl rfl rfl fun K hK => ?_ | refine qn3 rfl rfl rfl fun K hK => ?_ | refine qt1 rfl rfl rfl fun K hK => ?_ | refine qt3 rfl rfl rfl fun K hK => ?_); simp (disch := (first | omega | (simp only [sz] <;> omega) | fail)) only [go_sem, e1]; with_reducible refine hK _ _ ?_; clear hK K) | refine At.nil rfl ?_ | refine RG.nil rfl ?_ | ((first | refine AtL.skipg rfl rfl rfl rfl rfl ?_ | refine RGL.skipg rfl rfl rfl rfl rfl ?_ | refine AtL.skipu rfl rfl rfl rfl ?_ | refine RGL.skipu rfl rfl rfl rfl ?_); simp only [putL, List.set_cons_zero, List.set_cons_succ]) | refine Goes.yes rfl ?_ | refine Goes.no rfl ?_ | refine Goes.drawR [] (by kernel_rfl) ?_)
  ((first | refine qc1 rfl rfl fun K hK => ?_ | refine qc3 rfl rfl fun K hK => ?_); simp (disch := (first | omega | (simp only [sz] <;> omega) | fail)) only [go_sem]; refine ⟨_, _, hd3, ?_⟩; (try simp only [go_sem]); with_reducible refine hK _ _ ?_; clear hK K)
  rw [acc_acc hne]
  obtain ⟨w4, s4, hs4, hP4, hd4⟩ := dlay_does _ p m me s3 ws0 _ bs N T (tot A + f + kn) r (acc_p (S := S) (me' := me) (s' := s3) (bs' := bs) hp hm) (acc_m (S := S) hp hm) (by omega) h1 hN hT hP3 (by omega)
  repeat (first | refine Goes.reg ?_ | refine Goes.ctl2 rfl ?_ | ((first | refine qv1 rfl rfl rfl fun K hK => ?_ | refine qv3 rfl rfl rfl fun K hK => ?_ | refine qv2 rfl rfl rfl rfl rfl rfl fun K hK => ?_ | refine qv4 rfl rfl rfl rfl rfl rfl fun K hK => ?_ | refine qn1 rfl rfl rfl fun K hK => ?_ | refine qn3 rfl rfl rfl fun K hK => ?_ | refine qt1 rfl rfl rfl fun K hK => ?_ | refine qt3 rfl rfl rfl fun K hK => ?_); simp (disch := (first | omega | (simp only [sz] <;> omega) | fail)) only [go_sem, e2, e3, e4, e5]; with_reducible refine hK _ _ ?_; clear hK K) | refine At.nil rfl ?_ | refine RG.nil rfl ?_ | ((first | refine AtL.skipg rfl rfl rfl rfl rfl ?_ | refine RGL.skipg rfl rfl rfl rfl rfl ?_ | refine AtL.skipu rfl rfl rfl rfl ?_ | refine RGL.skipu rfl rfl rfl rfl ?_); simp only [putL, List.set_cons_zero, List.set_cons_succ]) | refine Goes.yes rfl ?_ | refine Goes.no rfl ?_ | refine Goes.drawR [] (by kernel_rfl) ?_)
  ((first | refine qc1 rfl rfl fun K hK => ?_ | refine qc3 rfl rfl fun K hK => ?_); simp (disch := (first | omega | (simp only [sz] <;> omega) | fail)) only [go_sem]; refine ⟨_, _, hd4, ?_⟩; (try simp only [go_sem]); with_reducible refine hK _ _ ?_; clear hK K)
  rw [acc_acc hne]
  repeat (first | refine Goes.reg ?_ | refine Goes.ctl2 rfl ?_ | ((first | refine qv1 rfl rfl rfl fun K hK => ?_ | refine qv3 rfl rfl rfl fun K hK => ?_ | refine qv2 rfl rfl rfl rfl rfl rfl fun K hK => ?_ | refine qv4 rfl rfl rfl rfl rfl rfl fun K hK => ?_ | refine qn1 rfl rfl rfl fun K hK => ?_ | refine qn3 rfl rfl rfl fun K hK => ?_ | refine qt1 rfl rfl rfl fun K hK => ?_ | refine qt3 rfl rfl rfl fun K hK => ?_); simp (disch := (first | omega | (simp only [sz] <;> omega) | fail)) only [go_sem]; with_reducible refine hK _ _ ?_; clear hK K) | refine At.nil rfl ?_ | refine RG.nil rfl ?_ | ((first | refine AtL.skipg rfl rfl rfl rfl rfl ?_ | refine RGL.skipg rfl rfl rfl rfl rfl ?_ | refine AtL.skipu rfl rfl rfl rfl ?_ | refine RGL.skipu rfl rfl rfl rfl ?_); simp only [putL, List.set_cons_zero, List.set_cons_succ]) | refine Goes.yes rfl ?_ | refine Goes.no rfl ?_ | refine Goes.drawR [] (by kernel_rfl) ?_)
  refine Goes.finE rfl (by simp (disch := (first | omega | (simp only [heapL_next, List.length_cons, List.length_nil, List.size_toArray, geo_len] <;> omega) | fail)) only [go_sem, resA, res1A, Try.results34] <;> rfl) ?_
  refine ⟨s4, w4, A ++ (fr f ++ (4, kn) :: (fr r ++ C)), by omega, rfl, hP4.congr (fun x _ => ?_) (fun b _ => ?_), .inr ⟨by omega, by omega, A, C, f, r, by rw [hL]; rfl, ?_, rfl, rfl⟩⟩
  · have := alloc_pw (A := A) (C := C) (f := f) (k := kn) (r := r) (Pos.append.1 (hL ▸ hpos)).1 (by omega) x
    rw [← this, hL, show tot A + f + 1 + (kn - 1) = tot A + f + kn by omega]
    rfl
  · rw [hL]; exact alloc_bw (by omega) b
  · rw [show (min a 256).toNat = an by omega, Int.toNat_natCast, ← ho]
end Go.Proofs.Ytceddijolfpppaa
