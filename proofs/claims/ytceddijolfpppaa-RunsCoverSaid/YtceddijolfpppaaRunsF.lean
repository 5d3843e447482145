/-
  Layer 10 over the abstract machine: contracts of package runs: Free, Mark.
  Conditions: those of each contract.
-/
import Derived.Test.YtceddijolfpppaaRunsE
namespace Go.Proofs.Ytceddijolfpppaa
open Go Go.RowKit
set_option linter.unusedSimpArgs false
set_option linter.unusedVariables false

theorem ahead0_does (S : St) (p N T : Nat) (hp : p < S.length) : Does OF 118 #[dkV p N T, .int .i64 0] [] S (.int .i64 0) S := by
  refine Does.mk Try.func118 rfl rfl ?clo ?hand ?_
  case clo => exact clo2 (dk_clo N T hp) iclo
  case hand => exact Hand.plain rfl
  rw [Try.ntmps118]; simp only [List.size_toArray, List.length_cons, List.length_nil, List.replicate, List.cons_append, List.nil_append]
  unfold dkV
  repeat (first | refine Goes.reg ?_ | refine Goes.ctl2 rfl ?_ | ((first | refine qv1 rfl rfl rfl fun K hK => ?_ | refine qv3 rfl rfl rfl fun K hK => ?_ | refine qv2 rfl rfl rfl rfl rfl rfl fun K hK => ?_ | refine qv4 rfl rfl rfl rfl rfl rfl fun K hK => ?_ | refine qn1 rfl rfl rfl fun K hK => ?_ | refine qn3 rfl rfl rfl fun K hK => ?_ | refine qt1 rfl rfl rfl fun K hK => ?_ | refine qt3 rfl rfl rfl fun K hK => ?_); simp (disch := (first | omega | (simp only [sz] <;> omega) | fail)) only [go_sem]; with_reducible refine hK _ _ ?_; clear hK K) | refine At.nil rfl ?_ | refine RG.nil rfl ?_ | ((first | refine AtL.skipg rfl rfl rfl rfl rfl ?_ | refine RGL.skipg rfl rfl rfl rfl rfl ?_ | refine AtL.skipu rfl rfl rfl rfl ?_ | refine RGL.skipu rfl rfl rfl rfl ?_); simp only [putL, List.set_cons_zero, List.set_cons_succ]) | refine Goes.yes rfl ?_ | refine Goes.no rfl ?_ | refine Goes.drawR [] (by kernel_rfl) ?_)
  refine Goes.fin rfl (by simp (disch := (first | omega | (simp only [heapL_next, List.length_cons, List.length_nil, List.size_toArray, geo_len] <;> omega) | fail)) only [go_sem, resA, res1A, Try.results118] <;> rfl) ?_
  rfl
theorem ahead_said (S : St) (p m me : Nat) (steps : Nat) (ws0 ws : List UInt64) (bs : List UInt8) (N T : Nat) {A C : List Rn} {b : Nat} {B : Nat → UInt64} (hp : S[p]? = some (.port m me steps)) (hm : S[m]? = some (.mem ws bs)) (hst : steps ≤ 100000000000) (hN : N ≤ 256) (hT : T ≤ 64)
    (hP : Pg N T ws0 ws (pw (A ++ fr b ++ C)) B) (hA : Pos A) (hl : lastF A = false) (hx : tot (A ++ fr b) ≤ N) :
    ∃ st', st' ≤ steps + 1 ∧ Does OF 118 #[dkV p N T, .int .i64 (tot (A ++ fr b) : Nat)] [] S (.int .i64 b) (accS S p m me st' ws bs) := by
  by_cases h0 : tot (A ++ fr b) = 0
  · have hb : b = 0 := by rw [tot_append, tot_fr] at h0; omega
    refine ⟨steps, by omega, ?_⟩
    rw [h0, hb, acc_same hp hm]
    exact ahead0_does S p N T (hlt_of hp)
  · obtain ⟨h1, h2⟩ := ahead_word (A := A) (C := C) (b := b) hA hl (by omega) (by omega)
    have hu := hP.pg (tot (A ++ fr b) - 1) (by omega)
    have h3 := ahead_does S p m me steps ws bs N T (tot (A ++ fr b)) _ hp hm hst hN hT (by omega) (by omega) hu
    refine ⟨steps + 1, by omega, ?_⟩
    rw [show (if kd (pw (A ++ fr b ++ C) (tot (A ++ fr b) - 1)) = 2 ∨ kd (pw (A ++ fr b ++ C) (tot (A ++ fr b) - 1)) = 1 then ln (pw (A ++ fr b ++ C) (tot (A ++ fr b) - 1)) else 0) = b from ?_] at h3
    · exact h3
    · by_cases hb : 0 < b
      · obtain ⟨k1, k2⟩ := h1 hb
        rw [if_pos k1, k2]
      · obtain ⟨k1, k2⟩ := h2 (by omega)
        rw [if_neg (by rintro (h | h); exact k1 h; exact k2 h)]; omega
theorem behindN_does (S : St) (p N T : Nat) (hp : p < S.length) : Does OF 119 #[dkV p N T, .int .i64 N] [] S (.int .i64 0) S := by
  refine Does.mk Try.func119 rfl rfl ?clo ?hand ?_
  case clo => exact clo2 (dk_clo N T hp) iclo
  case hand => exact Hand.plain rfl
  rw [Try.ntmps119]; simp only [List.size_toArray, List.length_cons, List.length_nil, List.replicate, List.cons_append, List.nil_append]
  unfold dkV
  repeat (first | refine Goes.reg ?_ | refine Goes.ctl2 rfl ?_ | ((first | refine qv1 rfl rfl rfl fun K hK => ?_ | refine qv3 rfl rfl rfl fun K hK => ?_ | refine qv2 rfl rfl rfl rfl rfl rfl fun K hK => ?_ | refine qv4 rfl rfl rfl rfl rfl rfl fun K hK => ?_ | refine qn1 rfl rfl rfl fun K hK => ?_ | refine qn3 rfl rfl rfl fun K hK => ?_ | refine qt1 rfl rfl rfl fun K hK => ?_ | refine qt3 rfl rfl rfl fun K hK => ?_); simp (disch := (first | omega | (simp only [sz] <;> omega) | fail)) only [go_sem]; with_reducible refine hK _ _ ?_; clear hK K) | refine At.nil rfl ?_ | refine RG.nil rfl ?_ | ((first | refine AtL.skipg rfl rfl rfl rfl rfl ?_ | refine RGL.skipg rfl rfl rfl rfl rfl ?_ | refine AtL.skipu rfl rfl rfl rfl ?_ | refine RGL.skipu rfl rfl rfl rfl ?_); simp only [putL, List.set_cons_zero, List.set_cons_succ]) | refine Goes.yes rfl ?_ | refine Goes.no rfl ?_ | refine Goes.drawR [] (by kernel_rfl) ?_)
  ((first | refine qp1 rfl rfl fun K hK => ?_ | refine qp3 rfl rfl fun K hK => ?_); simp (disch := (first | omega | (simp only [sz] <;> omega) | fail)) only [go_sem]; refine ⟨_, _, qpu fun w => gPages_any N T w, ?_⟩; (try simp only [go_sem]); with_reducible refine hK _ _ ?_; clear hK K)
  repeat (first | refine Goes.reg ?_ | refine Goes.ctl2 rfl ?_ | ((first | refine qv1 rfl rfl rfl fun K hK => ?_ | refine qv3 rfl rfl rfl fun K hK => ?_ | refine qv2 rfl rfl rfl rfl rfl rfl fun K hK => ?_ | refine qv4 rfl rfl rfl rfl rfl rfl fun K hK => ?_ | refine qn1 rfl rfl rfl fun K hK => ?_ | refine qn3 rfl rfl rfl fun K hK => ?_ | refine qt1 rfl rfl rfl fun K hK => ?_ | refine qt3 rfl rfl rfl fun K hK => ?_); simp (disch := (first | omega | (simp only [sz] <;> omega) | fail)) only [go_sem]; with_reducible refine hK _ _ ?_; clear hK K) | refine At.nil rfl ?_ | refine RG.nil rfl ?_ | ((first | refine AtL.skipg rfl rfl rfl rfl rfl ?_ | refine RGL.skipg rfl rfl rfl rfl rfl ?_ | refine AtL.skipu rfl rfl rfl rfl ?_ | refine RGL.skipu rfl rfl rfl rfl ?_); simp only [putL, List.set_cons_zero, List.set_cons_succ]) | refine Goes.yes rfl ?_ | refine Goes.no rfl ?_ | refine Goes.drawR [] (by kernel_rfl) ?_)
  refine Goes.fin rfl (by simp (disch := (first | omega | (simp only [heapL_next, List.length_cons, List.length_nil, List.size_toArray, geo_len] <;> omega) | fail)) only [go_sem, resA, res1A, Try.results119] <;> rfl) ?_
  rfl
theorem behind_said (S : St) (p m me : Nat) (steps : Nat) (ws0 ws : List UInt64) (bs : List UInt8) (N T : Nat) {A C : List Rn} {c : Nat} {B : Nat → UInt64} (hp : S[p]? = some (.port m me steps)) (hm : S[m]? = some (.mem ws bs)) (hst : steps ≤ 100000000000) (hN : N ≤ 256) (hT : T ≤ 64)
    (hP : Pg N T ws0 ws (pw (A ++ (fr c ++ C))) B) (hA : Pos A) (hC : Pos C) (hl : headF C = false) (hx : tot (A ++ (fr c ++ C)) = N) :
    ∃ st', st' ≤ steps + 1 ∧ Does OF 119 #[dkV p N T, .int .i64 (tot A : Nat)] [] S (.int .i64 c) (accS S p m me st' ws bs) := by
  have hx' := hx
  rw [tot_append] at hx'
  by_cases h0 : tot A = N
  · have hb : c = 0 := by rw [tot_append, tot_fr] at hx'; omega
    refine ⟨steps, by omega, ?_⟩
    rw [h0, hb, acc_same hp hm]
    exact behindN_does S p N T (hlt_of hp)
  · obtain ⟨h1, h2⟩ := behind_word (A := A) (C := C) (c := c) hA hC hl (by omega) (by omega)
    have hu := hP.pg (tot A) (by omega)
    have h3 := behind_does S p m me steps ws bs N T (tot A) _ hp hm hst hN hT (by omega) hu
    refine ⟨steps + 1, by omega, ?_⟩
    rw [show (if kd (pw (A ++ (fr c ++ C)) (tot A)) = 1 then ln (pw (A ++ (fr c ++ C)) (tot A)) else 0) = c from ?_] at h3
    · exact h3
    · by_cases hb : 0 < c
      · obtain ⟨k1, k2⟩ := h1 hb
        rw [if_pos k1, k2]
      · rw [if_neg (h2 (by omega))]; omega

/-- Is there a run that may be freed? -/
def IsRun (L : List Rn) (page k : Int) : Prop := ∃ A r C, L = A ++ r :: C ∧ page = (tot A : Nat) ∧ k = (r.2 : Nat) ∧ 3 ≤ r.1
theorem used_run {L : List Rn} {x k : Nat} (hp : Pos L) (hx : x < tot L) (ht : tot L ≤ 256) (hk : 1 ≤ k) : (ln (pw L x) = k ∧ 3 ≤ kd (pw L x) ∧ kd (pw L x) ≤ 5) ↔ IsRun L x k := by
  obtain ⟨A, r, C, z, rfl, rfl, hz⟩ := pw_cut hx
  obtain ⟨hA, hC⟩ := Pos.append.1 hp
  obtain ⟨hr, _⟩ := Pos.cons.1 hC
  have htt : tot A + r.2 ≤ 256 := by rw [tot_append] at ht; simp only [tot] at ht; omega
  constructor
  · rintro ⟨h1, h2, h3⟩
    by_cases h0 : z = 0
    · subst h0
      rw [Nat.add_zero, pw_head hA, ln_pgU (by omega) (by omega)] at h1
      rw [Nat.add_zero, pw_head hA, kd_pgU (by omega) (by omega)] at h2
      exact ⟨A, r, C, rfl, by simp, by rw [← h1], h2⟩
    · rw [pw_in hA (by omega) hz] at h2
      split at h2
      · rw [kd_pgU (by decide) (by omega)] at h2; omega
      · rw [kd_zero] at h2; omega
  · rintro ⟨A', r', C', h1, h2, h3, h4⟩
    have hA' : Pos (A' ++ r' :: C') := h1 ▸ hp
    obtain ⟨k1, k2⟩ := Pos.append.1 hA'
    have k3 := (Pos.cons.1 k2).1
    have htt' : tot A' + r'.2 ≤ 256 := by rw [h1, tot_append] at ht; simp only [tot] at ht; omega
    have hx' : tot A + z = tot A' := by omega
    rw [h1, hx', pw_head k1, ln_pgU (by omega) (by omega), kd_pgU (by omega) (by omega)]
    omega
theorem IsRun.cut {L : List Rn} {page k : Int} (h : IsRun L page k) (hp : Pos L) (hn : nadj L) : ∃ A b q n c C, L = A ++ (fr b ++ (q, n) :: (fr c ++ C)) ∧ lastF A = false ∧ headF C = false ∧ 3 ≤ q ∧ q ≤ 5 ∧ 1 ≤ n ∧ page = (tot (A ++ fr b) : Nat) ∧ k = (n : Nat) := by
  obtain ⟨A, r, C, rfl, h1, h2, h3⟩ := h
  obtain ⟨hA, hC⟩ := Pos.append.1 hp
  obtain ⟨hr, hC⟩ := Pos.cons.1 hC
  obtain ⟨n1, n2, _⟩ := nadj_append.1 hn
  obtain ⟨A', b, rfl, e1⟩ := splitLast hA n1
  obtain ⟨c, C', rfl, e2⟩ := splitHead hC n2.2
  exact ⟨A', b, r.1, r.2, c, C', by simp, e1, e2, h3, by omega, hr.1, h1, h2⟩
theorem nadj_freed {A C : List Rn} {b q n c m : Nat} (h : nadj (A ++ (fr b ++ (q, n) :: (fr c ++ C)))) (h1 : lastF A = false) (h2 : headF C = false) : nadj (A ++ (1, m) :: C) := by
  obtain ⟨n1, n2, _⟩ := nadj_append.1 h
  obtain ⟨_, n3, _⟩ := nadj_append.1 n2
  obtain ⟨_, n4, _⟩ := nadj_append.1 n3.2
  exact nadj_append.2 ⟨n1, ⟨fun h => by rw [h2] at h; simp at h, n4⟩, fun h => by rw [h1] at h; simp at h⟩

/-- What Free says and leaves. -/
def FreeSaid (page k : Int) (L : List Rn) (v : Bool) (L' : List Rn) : Prop :=
  (v = false ∧ L' = L ∧ ¬ (1 ≤ k ∧ IsRun L page k)) ∨
  (v = true ∧ ∃ A b q n c C, L = A ++ (fr b ++ (q, n) :: (fr c ++ C)) ∧ lastF A = false ∧ headF C = false ∧ 3 ≤ q ∧ q ≤ 5 ∧ 1 ≤ n ∧ page = (tot (A ++ fr b) : Nat) ∧ k = (n : Nat) ∧ L' = A ++ (1, b + n + c) :: C)

set_option maxHeartbeats 2000000 in
theorem free_does (S : St) (p m me : Nat) (steps : Nat) (ws0 ws : List UInt64) (bs : List UInt8) (N T : Nat) (page k : Int) {L : List Rn} (hp : S[p]? = some (.port m me steps)) (hm : S[m]? = some (.mem ws bs)) (hst : steps ≤ 1000000000) (h1 : 1 ≤ N) (hN : N ≤ 256) (hT : T ≤ 64) (hP : Pg N T ws0 ws (pw L) (bw L)) (hpos : Pos L) (hna : nadj L) (htot : tot L = N) :
    ∃ v S', (∃ st' ws' L' t, v = .bool t ∧ st' ≤ steps + 20 ∧ S' = accS S p m me st' ws' bs ∧ Pg N T ws0 ws' (pw L') (bw L') ∧ FreeSaid page k L t L') ∧ Does OF 67 #[prtV p, .agg (geoC N T), .int .i64 page, .int .i64 k] [] S v S' := by
  have hne := hne_of hp hm
  refine Does.ex Try.func67 rfl rfl ?clo ?hand ?_
  case clo => exact clo4 (pclo (hlt_of hp)) (Clo.plain (geo_plain _ _)) iclo iclo
  case hand => rintro v S' ⟨_, _, _, _, rfl, _⟩; exact Hand.plain rfl
  rw [Try.ntmps67]; simp only [List.size_toArray, List.length_cons, List.length_nil, List.replicate, List.cons_append, List.nil_append]
  have hout : ∀ {q n : Int}, IsRun L q n → 0 ≤ q ∧ q < N ∧ 1 ≤ n := by
    rintro q n ⟨A, r, C, rfl, rfl, rfl, _⟩
    have := (Pos.cons.1 (Pos.append.1 hpos).2).1.1
    rw [tot_append] at htot; simp only [tot] at htot
    omega
  by_cases b1 : page < 0
  · repeat (first | refine Goes.reg ?_ | refine Goes.ctl2 rfl ?_ | ((first | refine qv1 rfl rfl rfl fun K hK => ?_ | refine qv3 rfl rfl rfl fun K hK => ?_ | refine qv2 rfl rfl rfl rfl rfl rfl fun K hK => ?_ | refine qv4 rfl rfl rfl rfl rfl rfl fun K hK => ?_ | refine qn1 rfl rfl rfl fun K hK => ?_ | refine qn3 rfl rfl rfl fun K hK => ?_ | refine qt1 rfl rfl rfl fun K hK => ?_ | refine qt3 rfl rfl rfl fun K hK => ?_); simp (disch := (first | omega | (simp only [sz] <;> omega) | fail)) only [go_sem]; with_reducible refine hK _ _ ?_; clear hK K) | refine At.nil rfl ?_ | refine RG.nil rfl ?_ | ((first | refine AtL.skipg rfl rfl rfl rfl rfl ?_ | refine RGL.skipg rfl rfl rfl rfl rfl ?_ | refine AtL.skipu rfl rfl rfl rfl ?_ | refine RGL.skipu rfl rfl rfl rfl ?_); simp only [putL, List.set_cons_zero, List.set_cons_succ]) | refine Goes.yes rfl ?_ | refine Goes.no rfl ?_ | refine Goes.drawR [] (by kernel_rfl) ?_)
    refine Goes.finE rfl (by simp (disch := (first | omega | (simp only [heapL_next, List.length_cons, List.length_nil, List.size_toArray, geo_len] <;> omega) | fail)) only [go_sem, resA, res1A, Try.results67] <;> rfl) ?_
    exact ⟨steps, ws, L, _, rfl, by omega, (acc_same hp hm).symm, hP, .inl ⟨rfl, rfl, fun h => by have := hout h.2; omega⟩⟩
  by_cases b2 : k < 1
  · repeat (first | refine Goes.reg ?_ | refine Goes.ctl2 rfl ?_ | ((first | refine qv1 rfl rfl rfl fun K hK => ?_ | refine qv3 rfl rfl rfl fun K hK => ?_ | refine qv2 rfl rfl rfl rfl rfl rfl fun K hK => ?_ | refine qv4 rfl rfl rfl rfl rfl rfl fun K hK => ?_ | refine qn1 rfl rfl rfl fun K hK => ?_ | refine qn3 rfl rfl rfl fun K hK => ?_ | refine qt1 rfl rfl rfl fun K hK => ?_ | refine qt3 rfl rfl rfl fun K hK => ?_); simp (disch := (first | omega | (simp only [sz] <;> omega) | fail)) only [go_sem]; with_reducible refine hK _ _ ?_; clear hK K) | refine At.nil rfl ?_ | refine RG.nil rfl ?_ | ((first | refine AtL.skipg rfl rfl rfl rfl rfl ?_ | refine RGL.skipg rfl rfl rfl rfl rfl ?_ | refine AtL.skipu rfl rfl rfl rfl ?_ | refine RGL.skipu rfl rfl rfl rfl ?_); simp only [putL, List.set_cons_zero, List.set_cons_succ]) | refine Goes.yes rfl ?_ | refine Goes.no rfl ?_ | refine Goes.drawR [] (by kernel_rfl) ?_)
    refine Goes.finE rfl (by simp (disch := (first | omega | (simp only [heapL_next, List.length_cons, List.length_nil, List.size_toArray, geo_len] <;> omega) | fail)) only [go_sem, resA, res1A, Try.results67] <;> rfl) ?_
    exact ⟨steps, ws, L, _, rfl, by omega, (acc_same hp hm).symm, hP, .inl ⟨rfl, rfl, fun h => by omega⟩⟩
  by_cases b3 : (N : Int) ≤ page
  · repeat (first | refine Goes.reg ?_ | refine Goes.ctl2 rfl ?_ | ((first | refine qv1 rfl rfl rfl fun K hK => ?_ | refine qv3 rfl rfl rfl fun K hK => ?_ | refine qv2 rfl rfl rfl rfl rfl rfl fun K hK => ?_ | refine qv4 rfl rfl rfl rfl rfl rfl fun K hK => ?_ | refine qn1 rfl rfl rfl fun K hK => ?_ | refine qn3 rfl rfl rfl fun K hK => ?_ | refine qt1 rfl rfl rfl fun K hK => ?_ | refine qt3 rfl rfl rfl fun K hK => ?_); simp (disch := (first | omega | (simp only [sz] <;> omega) | fail)) only [go_sem]; with_reducible refine hK _ _ ?_; clear hK K) | refine At.nil rfl ?_ | refine RG.nil rfl ?_ | ((first | refine AtL.skipg rfl rfl rfl rfl rfl ?_ | refine RGL.skipg rfl rfl rfl rfl rfl ?_ | refine AtL.skipu rfl rfl rfl rfl ?_ | refine RGL.skipu rfl rfl rfl rfl ?_); simp only [putL, List.set_cons_zero, List.set_cons_succ]) | refine Goes.yes rfl ?_ | refine Goes.no rfl ?_ | refine Goes.drawR [] (by kernel_rfl) ?_)
    ((first | refine qp1 rfl rfl fun K hK => ?_ | refine qp3 rfl rfl fun K hK => ?_); simp (disch := (first | omega | (simp only [sz] <;> omega) | fail)) only [go_sem]; refine ⟨_, _, qpu fun w => gPages_any N T w, ?_⟩; (try simp only [go_sem]); with_reducible refine hK _ _ ?_; clear hK K)
    repeat (first | refine Goes.reg ?_ | refine Goes.ctl2 rfl ?_ | ((first | refine qv1 rfl rfl rfl fun K hK => ?_ | refine qv3 rfl rfl rfl fun K hK => ?_ | refine qv2 rfl rfl rfl rfl rfl rfl fun K hK => ?_ | refine qv4 rfl rfl rfl rfl rfl rfl fun K hK => ?_ | refine qn1 rfl rfl rfl fun K hK => ?_ | refine qn3 rfl rfl rfl fun K hK => ?_ | refine qt1 rfl rfl rfl fun K hK => ?_ | refine qt3 rfl rfl rfl fun K hK => ?_); simp (disch := (first | omega | (simp only [sz] <;> omega) | fail)) only [go_sem]; with_reducible refine hK _ _ ?_; clear hK K) | refine At.nil rfl ?_ | refine RG.nil rfl ?_ | ((first | refine AtL.skipg rfl rfl rfl rfl rfl ?_ | refine RGL.skipg rfl rfl rfl rfl rfl ?_ | refine AtL.skipu rfl rfl rfl rfl ?_ | refine RGL.skipu rfl rfl rfl rfl ?_); simp only [putL, List.set_cons_zero, List.set_cons_succ]) | refine Goes.yes rfl ?_ | refine Goes.no rfl ?_ | refine Goes.drawR [] (by kernel_rfl) ?_)
    refine Goes.finE rfl (by simp (disch := (first | omega | (simp only [heapL_next, List.length_cons, List.length_nil, List.size_toArray, geo_len] <;> omega) | fail)) only [go_sem, resA, res1A, Try.results67] <;> rfl) ?_
    exact ⟨steps, ws, L, _, rfl, by omega, (acc_same hp hm).symm, hP, .inl ⟨rfl, rfl, fun h => by have := hout h.2; omega⟩⟩
  obtain ⟨x, rfl⟩ := Int.eq_ofNat_of_zero_le (show 0 ≤ page by omega)
  obtain ⟨n, rfl⟩ := Int.eq_ofNat_of_zero_le (show 0 ≤ k by omega)
  have hu := hP.pg x (by omega)
  have hiff := used_run (L := L) (x := x) (k := n) hpos (by omega) (by omega) (by omega)
  repeat (first | refine Goes.reg ?_ | refine Goes.ctl2 rfl ?_ | ((first | refine qv1 rfl rfl rfl fun K hK => ?_ | refine qv3 rfl rfl rfl fun K hK => ?_ | refine qv2 rfl rfl rfl rfl rfl rfl fun K hK => ?_ | refine qv4 rfl rfl rfl rfl rfl rfl fun K hK => ?_ | refine qn1 rfl rfl rfl fun K hK => ?_ | refine qn3 rfl rfl rfl fun K hK => ?_ | refine qt1 rfl rfl rfl fun K hK => ?_ | refine qt3 rfl rfl rfl fun K hK => ?_); simp (disch := (first | omega | (simp only [sz] <;> omega) | fail)) only [go_sem]; with_reducible refine hK _ _ ?_; clear hK K) | refine At.nil rfl ?_ | refine RG.nil rfl ?_ | ((first | refine AtL.skipg rfl rfl rfl rfl rfl ?_ | refine RGL.skipg rfl rfl rfl rfl rfl ?_ | refine AtL.skipu rfl rfl rfl rfl ?_ | refine RGL.skipu rfl rfl rfl rfl ?_); simp only [putL, List.set_cons_zero, List.set_cons_succ]) | refine Goes.yes rfl ?_ | refine Goes.no rfl ?_ | refine Goes.drawR [] (by kernel_rfl) ?_)
  ((first | refine qp1 rfl rfl fun K hK => ?_ | refine qp3 rfl rfl fun K hK => ?_); simp (disch := (first | omega | (simp only [sz] <;> omega) | fail)) only [go_sem]; refine ⟨_, _, qpu fun w => gPages_any N T w, ?_⟩; (try simp only [go_sem]); with_reducible refine hK _ _ ?_; clear hK K)
  repeat (first | refine Goes.reg ?_ | refine Goes.ctl2 rfl ?_ | ((first | refine qv1 rfl rfl rfl fun K hK => ?_ | refine qv3 rfl rfl rfl fun K hK => ?_ | refine qv2 rfl rfl rfl rfl rfl rfl fun K hK => ?_ | refine qv4 rfl rfl rfl rfl rfl rfl fun K hK => ?_ | refine qn1 rfl rfl rfl fun K hK => ?_ | refine qn3 rfl rfl rfl fun K hK => ?_ | refine qt1 rfl rfl rfl fun K hK => ?_ | refine qt3 rfl rfl rfl fun K hK => ?_); simp (disch := (first | omega | (simp only [sz] <;> omega) | fail)) only [go_sem]; with_reducible refine hK _ _ ?_; clear hK K) | refine At.nil rfl ?_ | refine RG.nil rfl ?_ | ((first | refine AtL.skipg rfl rfl rfl rfl rfl ?_ | refine RGL.skipg rfl rfl rfl rfl rfl ?_ | refine AtL.skipu rfl rfl rfl rfl ?_ | refine RGL.skipu rfl rfl rfl rfl ?_); simp only [putL, List.set_cons_zero, List.set_cons_succ]) | refine Goes.yes rfl ?_ | refine Goes.no rfl ?_ | refine Goes.drawR [] (by kernel_rfl) ?_)
  ((first | refine qc1 rfl rfl fun K hK => ?_ | refine qc3 rfl rfl fun K hK => ?_); simp (disch := (first | omega | (simp only [sz] <;> omega) | fail)) only [go_sem]; refine ⟨_, _, dget_does _ p m me _ _ _ N T _ _ hp hm (by omega) hN hT hu, ?_⟩; (try simp only [go_sem]); with_reducible refine hK _ _ ?_; clear hK K)
  repeat (first | refine Goes.reg ?_ | refine Goes.ctl2 rfl ?_ | ((first | refine qv1 rfl rfl rfl fun K hK => ?_ | refine qv3 rfl rfl rfl fun K hK => ?_ | refine qv2 rfl rfl rfl rfl rfl rfl fun K hK => ?_ | refine qv4 rfl rfl rfl rfl rfl rfl fun K hK => ?_ | refine qn1 rfl rfl rfl fun K hK => ?_ | refine qn3 rfl rfl rfl fun K hK => ?_ | refine qt1 rfl rfl rfl fun K hK => ?_ | refine qt3 rfl rfl rfl fun K hK => ?_); simp (disch := (first | omega | (simp only [sz] <;> omega) | fail)) only [go_sem]; with_reducible refine hK _ _ ?_; clear hK K) | refine At.nil rfl ?_ | refine RG.nil rfl ?_ | ((first | refine AtL.skipg rfl rfl rfl rfl rfl ?_ | refine RGL.skipg rfl rfl rfl rfl rfl ?_ | refine AtL.skipu rfl rfl rfl rfl ?_ | refine RGL.skipu rfl rfl rfl rfl ?_); simp only [putL, List.set_cons_zero, List.set_cons_succ]) | refine Goes.yes rfl ?_ | refine Goes.no rfl ?_ | refine Goes.drawR [] (by kernel_rfl) ?_)
  ((first | refine qc1 rfl rfl fun K hK => ?_ | refine qc3 rfl rfl fun K hK => ?_); simp (disch := (first | omega | (simp only [sz] <;> omega) | fail)) only [go_sem]; refine ⟨_, _, used_does _ _ _ _ _ n, ?_⟩; (try simp only [go_sem]); with_reducible refine hK _ _ ?_; clear hK K)
  by_cases hrun : ¬ IsRun L x n
  · rw [show decide (ln (pw L x) = n ∧ 3 ≤ kd (pw L x) ∧ kd (pw L x) ≤ 5) = false from decide_eq_false (fun h => hrun (hiff.1 h))]
    repeat (first | refine Goes.reg ?_ | refine Goes.ctl2 rfl ?_ | ((first | refine qv1 rfl rfl rfl fun K hK => ?_ | refine qv3 rfl rfl rfl fun K hK => ?_ | refine qv2 rfl rfl rfl rfl rfl rfl fun K hK => ?_ | refine qv4 rfl rfl rfl rfl rfl rfl fun K hK => ?_ | refine qn1 rfl rfl rfl fun K hK => ?_ | refine qn3 rfl rfl rfl fun K hK => ?_ | refine qt1 rfl rfl rfl fun K hK => ?_ | refine qt3 rfl rfl rfl fun K hK => ?_); simp (disch := (first | omega | (simp only [sz] <;> omega) | fail)) only [go_sem]; with_reducible refine hK _ _ ?_; clear hK K) | refine At.nil rfl ?_ | refine RG.nil rfl ?_ | ((first | refine AtL.skipg rfl rfl rfl rfl rfl ?_ | refine RGL.skipg rfl rfl rfl rfl rfl ?_ | refine AtL.skipu rfl rfl rfl rfl ?_ | refine RGL.skipu rfl rfl rfl rfl ?_); simp only [putL, List.set_cons_zero, List.set_cons_succ]) | refine Goes.yes rfl ?_ | refine Goes.no rfl ?_ | refine Goes.drawR [] (by kernel_rfl) ?_)
    refine Goes.finE rfl (by simp (disch := (first | omega | (simp only [heapL_next, List.length_cons, List.length_nil, List.size_toArray, geo_len] <;> omega) | fail)) only [go_sem, resA, res1A, Try.results67] <;> rfl) ?_
    exact ⟨steps + 1, ws, L, _, rfl, by omega, rfl, hP, .inl ⟨rfl, rfl, fun h => hrun h.2⟩⟩
  have hrun : IsRun L x n := Classical.not_not.1 hrun
  rw [show decide (ln (pw L x) = n ∧ 3 ≤ kd (pw L x) ∧ kd (pw L x) ≤ 5) = true from decide_eq_true (hiff.2 hrun)]
  obtain ⟨A, b, q, n', c, C, hL, hlA, hhC, hq3, hq5, hn1, hx, hnn⟩ := hrun.cut hpos hna
  obtain rfl : n = n' := by omega
  obtain rfl : x = tot (A ++ fr b) := by omega
  clear hiff hu b1 b2 b3 hout
  have hposA : Pos A := (Pos.append.1 (hL ▸ hpos)).1
  have hposC : Pos C := (Pos.append.1 (Pos.cons.1 (Pos.append.1 (Pos.append.1 (hL ▸ hpos)).2).2).2).2
  have hlen : tot A + b + n + c + tot C = N := by rw [← htot, hL]; simp only [tot_append, tot_fr, tot]; omega
  have htx : tot (A ++ fr b) = tot A + b := by rw [tot_append, tot_fr]
  obtain ⟨s1, hs1, hd1⟩ := ahead_said (accS S p m me (steps + 1) ws bs) p m me (steps + 1) ws0 ws bs N T (A := A) (C := (q, n) :: (fr c ++ C)) (b := b) (acc_p hp hm) (acc_m hp hm) (by omega) hN hT (by rw [List.append_assoc, ← hL]; exact hP) hposA hlA (by omega)
  obtain ⟨s2, hs2, hd2⟩ := behind_said (accS S p m me s1 ws bs) p m me s1 ws0 ws bs N T (A := A ++ fr b ++ [(q, n)]) (C := C) (c := c) (acc_p hp hm) (acc_m hp hm) (by omega) hN hT (by rw [show A ++ fr b ++ [(q, n)] ++ (fr c ++ C) = L by rw [hL]; simp]; exact hP)
    (Pos.append.2 ⟨Pos.append.2 ⟨hposA, pos_fr b⟩, fun r hr => by rw [List.mem_singleton.1 hr]; exact ⟨hn1, .inr ⟨hq3, hq5⟩⟩⟩) hposC hhC (by rw [show A ++ fr b ++ [(q, n)] ++ (fr c ++ C) = L by rw [hL]; simp]; exact htot)
  have e2 : tot (A ++ fr b ++ [(q, n)]) = tot (A ++ fr b) + n := by rw [tot_append]; simp [tot]
  rw [e2] at hd2
  have e3 : ((tot (A ++ fr b) : Nat) : Int) + (n : Int) = ((tot (A ++ fr b) + n : Nat) : Int) := by omega
  have e4 : ((tot (A ++ fr b) : Nat) : Int) - 1 + 1 = ((tot (A ++ fr b) : Nat) : Int) := by omega
  repeat (first | refine Goes.reg ?_ | refine Goes.ctl2 rfl ?_ | ((first | refine qv1 rfl rfl rfl fun K hK => ?_ | refine qv3 rfl rfl rfl fun K hK => ?_ | refine qv2 rfl rfl rfl rfl rfl rfl fun K hK => ?_ | refine qv4 rfl rfl rfl rfl rfl rfl fun K hK => ?_ | refine qn1 rfl rfl rfl fun K hK => ?_ | refine qn3 rfl rfl rfl fun K hK => ?_ | refine qt1 rfl rfl rfl fun K hK => ?_ | refine qt3 rfl rfl rfl fun K hK => ?_); simp (disch := (first | omega | (simp only [sz] <;> omega) | fail)) only [go_sem]; with_reducible refine hK _ _ ?_; clear hK K) | refine At.nil rfl ?_ | refine RG.nil rfl ?_ | ((first | refine AtL.skipg rfl rfl rfl rfl rfl ?_ | refine RGL.skipg rfl rfl rfl rfl rfl ?_ | refine AtL.skipu rfl rfl rfl rfl ?_ | refine RGL.skipu rfl rfl rfl rfl ?_); simp only [putL, List.set_cons_zero, List.set_cons_succ]) | refine Goes.yes rfl ?_ | refine Goes.no rfl ?_ | refine Goes.drawR [] (by kernel_rfl) ?_)
  ((first | refine qc1 rfl rfl fun K hK => ?_ | refine qc3 rfl rfl fun K hK => ?_); simp (disch := (first | omega | (simp only [sz] <;> omega) | fail)) only [go_sem]; refine ⟨_, _, hd1, ?_⟩; (try simp only [go_sem]); with_reducible refine hK _ _ ?_; clear hK K)
  rw [acc_acc hne]
  repeat (first | refine Goes.reg ?_ | refine Goes.ctl2 rfl ?_ | ((first | refine qv1 rfl rfl rfl fun K hK => ?_ | refine qv3 rfl rfl rfl fun K hK => ?_ | refine qv2 rfl rfl rfl rfl rfl rfl fun K hK => ?_ | refine qv4 rfl rfl rfl rfl rfl rfl fun K hK => ?_ | refine qn1 rfl rfl rfl fun K hK => ?_ | refine qn3 rfl rfl rfl fun K hK => ?_ | refine qt1 rfl rfl rfl fun K hK => ?_ | refine qt3 rfl rfl rfl fun K hK => ?_); simp (disch := (first | omega | (simp only [sz] <;> omega) | fail)) only [go_sem, e3]; with_reducible refine hK _ _ ?_; clear hK K) | refine At.nil rfl ?_ | refine RG.nil rfl ?_ | ((first | refine AtL.skipg rfl rfl rfl rfl rfl ?_ | refine RGL.skipg rfl rfl rfl rfl rfl ?_ | refine AtL.skipu rfl rfl rfl rfl ?_ | refine RGL.skipu rfl rfl rfl rfl ?_); simp only [putL, List.set_cons_zero, List.set_cons_succ]) | refine Goes.yes rfl ?_ | refine Goes.no rfl ?_ | refine Goes.drawR [] (by kernel_rfl) ?_)
  ((first | refine qc1 rfl rfl fun K hK => ?_ | refine qc3 rfl rfl fun K hK => ?_); simp (disch := (first | omega | (simp only [sz] <;> omega) | fail)) only [go_sem]; refine ⟨_, _, hd2, ?_⟩; (try simp only [go_sem]); with_reducible refine hK _ _ ?_; clear hK K)
  rw [acc_acc hne]
  repeat (first | refine Goes.reg ?_ | refine Goes.ctl2 rfl ?_ | ((first | refine qv1 rfl rfl rfl fun K hK => ?_ | refine qv3 rfl rfl rfl fun K hK => ?_ | refine qv2 rfl rfl rfl rfl rfl rfl fun K hK => ?_ | refine qv4 rfl rfl rfl rfl rfl rfl fun K hK => ?_ | refine qn1 rfl rfl rfl fun K hK => ?_ | refine qn3 rfl rfl rfl fun K hK => ?_ | refine qt1 rfl rfl rfl fun K hK => ?_ | refine qt3 rfl rfl rfl fun K hK => ?_); simp (disch := (first | omega | (simp only [sz] <;> omega) | fail)) only [go_sem]; with_reducible refine hK _ _ ?_; clear hK K) | refine At.nil rfl ?_ | refine RG.nil rfl ?_ | ((first | refine AtL.skipg rfl rfl rfl rfl rfl ?_ | refine RGL.skipg rfl rfl rfl rfl rfl ?_ | refine AtL.skipu rfl rfl rfl rfl ?_ | refine RGL.skipu rfl rfl rfl rfl ?_); simp only [putL, List.set_cons_zero, List.set_cons_succ]) | refine Goes.yes rfl ?_ | refine Goes.no rfl ?_ | refine Goes.drawR [] (by kernel_rfl) ?_)
  ((first | refine qc1 rfl rfl fun K hK => ?_ | refine qc3 rfl rfl fun K hK => ?_); simp (disch := (first | omega | (simp only [sz] <;> omega) | fail)) only [go_sem]; refine ⟨_, _, dput_does _ p m me _ _ _ N T _ 0 0 (acc_p hp hm) (acc_m hp hm) (by omega) hN hT (by decide) (by decide), ?_⟩; (try simp only [go_sem]); with_reducible refine hK _ _ ?_; clear hK K)
  rw [acc_acc hne]
  have hP1 := hP.put h1 (x := tot (A ++ fr b)) (by omega) 2 (pgU 0 0) 0
  have e5 : ((tot (A ++ fr b) : Nat) : Int) - (b : Int) = ((tot A : Nat) : Int) := by omega
  have e6 : (b : Int) + (n : Int) = ((b + n : Nat) : Int) := by omega
  have e7 : ((b + n : Nat) : Int) + (c : Int) = ((b + n + c : Nat) : Int) := by omega
  by_cases hb : b = 0
  · by_cases hc : c = 0
    · repeat (first | refine Goes.reg ?_ | refine Goes.ctl2 rfl ?_ | ((first | refine qv1 rfl rfl rfl fun K hK => ?_ | refine qv3 rfl rfl rfl fun K hK => ?_ | refine qv2 rfl rfl rfl rfl rfl rfl fun K hK => ?_ | refine qv4 rfl rfl rfl rfl rfl rfl fun K hK => ?_ | refine qn1 rfl rfl rfl fun K hK => ?_ | refine qn3 rfl rfl rfl fun K hK => ?_ | refine qt1 rfl rfl rfl fun K hK => ?_ | refine qt3 rfl rfl rfl fun K hK => ?_); simp (disch := (first | omega | (simp only [sz] <;> omega) | fail)) only [go_sem, e5, e6, e7]; with_reducible refine hK _ _ ?_; clear hK K) | refine At.nil rfl ?_ | refine RG.nil rfl ?_ | ((first | refine AtL.skipg rfl rfl rfl rfl rfl ?_ | refine RGL.skipg rfl rfl rfl rfl rfl ?_ | refine AtL.skipu rfl rfl rfl rfl ?_ | refine RGL.skipu rfl rfl rfl rfl ?_); simp only [putL, List.set_cons_zero, List.set_cons_succ]) | refine Goes.yes rfl ?_ | refine Goes.no rfl ?_ | refine Goes.drawR [] (by kernel_rfl) ?_)
      obtain ⟨w3, s3, hs3, hP3, hd3⟩ := dlay_does _ p m me (s2 + 1) ws0 _ bs N T (tot A) (b + n + c) (acc_p (S := S) (me' := me) (s' := s2 + 1) (bs' := bs) hp hm) (acc_m (S := S) hp hm) (by omega) h1 hN hT hP1 (by omega)
      ((first | refine qc1 rfl rfl fun K hK => ?_ | refine qc3 rfl rfl fun K hK => ?_); simp (disch := (first | omega | (simp only [sz] <;> omega) | fail)) only [go_sem]; refine ⟨_, _, hd3, ?_⟩; (try simp only [go_sem]); with_reducible refine hK _ _ ?_; clear hK K)
      rw [acc_acc hne]
      repeat (first | refine Goes.reg ?_ | refine Goes.ctl2 rfl ?_ | ((first | refine qv1 rfl rfl rfl fun K hK => ?_ | refine qv3 rfl rfl rfl fun K hK => ?_ | refine qv2 rfl rfl rfl rfl rfl rfl fun K hK => ?_ | refine qv4 rfl rfl rfl rfl rfl rfl fun K hK => ?_ | refine qn1 rfl rfl rfl fun K hK => ?_ | refine qn3 rfl rfl rfl fun K hK => ?_ | refine qt1 rfl rfl rfl fun K hK => ?_ | refine qt3 rfl rfl rfl fun K hK => ?_); simp (disch := (first | omega | (simp only [sz] <;> omega) | fail)) only [go_sem]; with_reducible refine hK _ _ ?_; clear hK K) | refine At.nil rfl ?_ | refine RG.nil rfl ?_ | ((first | refine AtL.skipg rfl rfl rfl rfl rfl ?_ | refine RGL.skipg rfl rfl rfl rfl rfl ?_ | refine AtL.skipu rfl rfl rfl rfl ?_ | refine RGL.skipu rfl rfl rfl rfl ?_); simp only [putL, List.set_cons_zero, List.set_cons_succ]) | refine Goes.yes rfl ?_ | refine Goes.no rfl ?_ | refine Goes.drawR [] (by kernel_rfl) ?_)
      refine Goes.finE rfl (by simp (disch := (first | omega | (simp only [heapL_next, List.length_cons, List.length_nil, List.size_toArray, geo_len] <;> omega) | fail)) only [go_sem, resA, res1A, Try.results67] <;> rfl) ?_
      refine ⟨s3, w3, A ++ (1, b + n + c) :: C, _, rfl, by omega, rfl, hP3.congr (fun y _ => ?_) (fun y _ => ?_), .inr ⟨rfl, A, b, q, n, c, C, hL, hlA, hhC, hq3, hq5, hn1, rfl, rfl, rfl⟩⟩
      · rw [← free_pw (A := A) (C := C) (k := q) (b := b) (n := n) (c := c) hposA hn1 (by omega) y, hL]
        unfold freeP
        rw [if_pos hc, if_pos hb, ← htx]
        all_goals rfl
      · rw [← free_bw (A := A) (C := C) (k := q) (b := b) (n := n) (c := c) hn1 (by omega) y, hL]
        unfold freeB
        rw [if_pos hc, if_pos hb]
        all_goals rfl
    · repeat (first | refine Goes.reg ?_ | refine Goes.ctl2 rfl ?_ | ((first | refine qv1 rfl rfl rfl fun K hK => ?_ | refine qv3 rfl rfl rfl fun K hK => ?_ | refine qv2 rfl rfl rfl rfl rfl rfl fun K hK => ?_ | refine qv4 rfl rfl rfl rfl rfl rfl fun K hK => ?_ | refine qn1 rfl rfl rfl fun K hK => ?_ | refine qn3 rfl rfl rfl fun K hK => ?_ | refine qt1 rfl rfl rfl fun K hK => ?_ | refine qt3 rfl rfl rfl fun K hK => ?_); simp (disch := (first | omega | (simp only [sz] <;> omega) | fail)) only [go_sem]; with_reducible refine hK _ _ ?_; clear hK K) | refine At.nil rfl ?_ | refine RG.nil rfl ?_ | ((first | refine AtL.skipg rfl rfl rfl rfl rfl ?_ | refine RGL.skipg rfl rfl rfl rfl rfl ?_ | refine AtL.skipu rfl rfl rfl rfl ?_ | refine RGL.skipu rfl rfl rfl rfl ?_); simp only [putL, List.set_cons_zero, List.set_cons_succ]) | refine Goes.yes rfl ?_ | refine Goes.no rfl ?_ | refine Goes.drawR [] (by kernel_rfl) ?_)
      ((first | refine qc1 rfl rfl fun K hK => ?_ | refine qc3 rfl rfl fun K hK => ?_); simp (disch := (first | omega | (simp only [sz] <;> omega) | fail)) only [go_sem]; refine ⟨_, _, dcount_does _ p m me _ _ _ N T c true (acc_p hp hm) (acc_m hp hm) (by omega) hN hT (by omega) (by omega), ?_⟩; (try simp only [go_sem]); with_reducible refine hK _ _ ?_; clear hK K)
      rw [acc_acc hne]
      have hP2 := hP1.add h1 (log2_lt9 (n := c) (by omega) (by omega)) (0 - 1)
      repeat (first | refine Goes.reg ?_ | refine Goes.ctl2 rfl ?_ | ((first | refine qv1 rfl rfl rfl fun K hK => ?_ | refine qv3 rfl rfl rfl fun K hK => ?_ | refine qv2 rfl rfl rfl rfl rfl rfl fun K hK => ?_ | refine qv4 rfl rfl rfl rfl rfl rfl fun K hK => ?_ | refine qn1 rfl rfl rfl fun K hK => ?_ | refine qn3 rfl rfl rfl fun K hK => ?_ | refine qt1 rfl rfl rfl fun K hK => ?_ | refine qt3 rfl rfl rfl fun K hK => ?_); simp (disch := (first | omega | (simp only [sz] <;> omega) | fail)) only [go_sem, e3]; with_reducible refine hK _ _ ?_; clear hK K) | refine At.nil rfl ?_ | refine RG.nil rfl ?_ | ((first | refine AtL.skipg rfl rfl rfl rfl rfl ?_ | refine RGL.skipg rfl rfl rfl rfl rfl ?_ | refine AtL.skipu rfl rfl rfl rfl ?_ | refine RGL.skipu rfl rfl rfl rfl ?_); simp only [putL, List.set_cons_zero, List.set_cons_succ]) | refine Goes.yes rfl ?_ | refine Goes.no rfl ?_ | refine Goes.drawR [] (by kernel_rfl) ?_)
      ((first | refine qc1 rfl rfl fun K hK => ?_ | refine qc3 rfl rfl fun K hK => ?_); simp (disch := (first | omega | (simp only [sz] <;> omega) | fail)) only [go_sem]; refine ⟨_, _, dput_does _ p m me _ _ _ N T _ 0 0 (acc_p hp hm) (acc_m hp hm) (by omega) hN hT (by decide) (by decide), ?_⟩; (try simp only [go_sem]); with_reducible refine hK _ _ ?_; clear hK K)
      rw [acc_acc hne]
      have hP3 := hP2.put h1 (x := tot (A ++ fr b) + n) (by omega) 2 (pgU 0 0) 0
      repeat (first | refine Goes.reg ?_ | refine Goes.ctl2 rfl ?_ | ((first | refine qv1 rfl rfl rfl fun K hK => ?_ | refine qv3 rfl rfl rfl fun K hK => ?_ | refine qv2 rfl rfl rfl rfl rfl rfl fun K hK => ?_ | refine qv4 rfl rfl rfl rfl rfl rfl fun K hK => ?_ | refine qn1 rfl rfl rfl fun K hK => ?_ | refine qn3 rfl rfl rfl fun K hK => ?_ | refine qt1 rfl rfl rfl fun K hK => ?_ | refine qt3 rfl rfl rfl fun K hK => ?_); simp (disch := (first | omega | (simp only [sz] <;> omega) | fail)) only [go_sem, e5, e6, e7]; with_reducible refine hK _ _ ?_; clear hK K) | refine At.nil rfl ?_ | refine RG.nil rfl ?_ | ((first | refine AtL.skipg rfl rfl rfl rfl rfl ?_ | refine RGL.skipg rfl rfl rfl rfl rfl ?_ | refine AtL.skipu rfl rfl rfl rfl ?_ | refine RGL.skipu rfl rfl rfl rfl ?_); simp only [putL, List.set_cons_zero, List.set_cons_succ]) | refine Goes.yes rfl ?_ | refine Goes.no rfl ?_ | refine Goes.drawR [] (by kernel_rfl) ?_)
      obtain ⟨w3, s3, hs3, hP3, hd3⟩ := dlay_does _ p m me (s2 + 1 + 1 + 1) ws0 _ bs N T (tot A) (b + n + c) (acc_p (S := S) (me' := me) (s' := s2 + 1 + 1 + 1) (bs' := bs) hp hm) (acc_m (S := S) hp hm) (by omega) h1 hN hT hP3 (by omega)
      ((first | refine qc1 rfl rfl fun K hK => ?_ | refine qc3 rfl rfl fun K hK => ?_); simp (disch := (first | omega | (simp only [sz] <;> omega) | fail)) only [go_sem]; refine ⟨_, _, hd3, ?_⟩; (try simp only [go_sem]); with_reducible refine hK _ _ ?_; clear hK K)
      rw [acc_acc hne]
      repeat (first | refine Goes.reg ?_ | refine Goes.ctl2 rfl ?_ | ((first | refine qv1 rfl rfl rfl fun K hK => ?_ | refine qv3 rfl rfl rfl fun K hK => ?_ | refine qv2 rfl rfl rfl rfl rfl rfl fun K hK => ?_ | refine qv4 rfl rfl rfl rfl rfl rfl fun K hK => ?_ | refine qn1 rfl rfl rfl fun K hK => ?_ | refine qn3 rfl rfl rfl fun K hK => ?_ | refine qt1 rfl rfl rfl fun K hK => ?_ | refine qt3 rfl rfl rfl fun K hK => ?_); simp (disch := (first | omega | (simp only [sz] <;> omega) | fail)) only [go_sem]; with_reducible refine hK _ _ ?_; clear hK K) | refine At.nil rfl ?_ | refine RG.nil rfl ?_ | ((first | refine AtL.skipg rfl rfl rfl rfl rfl ?_ | refine RGL.skipg rfl rfl rfl rfl rfl ?_ | refine AtL.skipu rfl rfl rfl rfl ?_ | refine RGL.skipu rfl rfl rfl rfl ?_); simp only [putL, List.set_cons_zero, List.set_cons_succ]) | refine Goes.yes rfl ?_ | refine Goes.no rfl ?_ | refine Goes.drawR [] (by kernel_rfl) ?_)
      refine Goes.finE rfl (by simp (disch := (first | omega | (simp only [heapL_next, List.length_cons, List.length_nil, List.size_toArray, geo_len] <;> omega) | fail)) only [go_sem, resA, res1A, Try.results67] <;> rfl) ?_
      refine ⟨s3, w3, A ++ (1, b + n + c) :: C, _, rfl, by omega, rfl, hP3.congr (fun y _ => ?_) (fun y _ => ?_), .inr ⟨rfl, A, b, q, n, c, C, hL, hlA, hhC, hq3, hq5, hn1, rfl, rfl, rfl⟩⟩
      · rw [← free_pw (A := A) (C := C) (k := q) (b := b) (n := n) (c := c) hposA hn1 (by omega) y, hL]
        unfold freeP
        rw [if_neg hc, if_pos hb, ← htx]
        all_goals rfl
      · rw [← free_bw (A := A) (C := C) (k := q) (b := b) (n := n) (c := c) hn1 (by omega) y, hL]
        unfold freeB
        rw [if_neg hc, if_pos hb]
        all_goals rfl
  · have e8 : ((tot (A ++ fr b) : Nat) : Int) - 1 = ((tot (A ++ fr b) - 1 : Nat) : Int) := by omega
    repeat (first | refine Goes.reg ?_ | refine Goes.ctl2 rfl ?_ | ((first | refine qv1 rfl rfl rfl fun K hK => ?_ | refine qv3 rfl rfl rfl fun K hK => ?_ | refine qv2 rfl rfl rfl rfl rfl rfl fun K hK => ?_ | refine qv4 rfl rfl rfl rfl rfl rfl fun K hK => ?_ | refine qn1 rfl rfl rfl fun K hK => ?_ | refine qn3 rfl rfl rfl fun K hK => ?_ | refine qt1 rfl rfl rfl fun K hK => ?_ | refine qt3 rfl rfl rfl fun K hK => ?_); simp (disch := (first | omega | (simp only [sz] <;> omega) | fail)) only [go_sem]; with_reducible refine hK _ _ ?_; clear hK K) | refine At.nil rfl ?_ | refine RG.nil rfl ?_ | ((first | refine AtL.skipg rfl rfl rfl rfl rfl ?_ | refine RGL.skipg rfl rfl rfl rfl rfl ?_ | refine AtL.skipu rfl rfl rfl rfl ?_ | refine RGL.skipu rfl rfl rfl rfl ?_); simp only [putL, List.set_cons_zero, List.set_cons_succ]) | refine Goes.yes rfl ?_ | refine Goes.no rfl ?_ | refine Goes.drawR [] (by kernel_rfl) ?_)
    ((first | refine qc1 rfl rfl fun K hK => ?_ | refine qc3 rfl rfl fun K hK => ?_); simp (disch := (first | omega | (simp only [sz] <;> omega) | fail)) only [go_sem]; refine ⟨_, _, dcount_does _ p m me _ _ _ N T b true (acc_p hp hm) (acc_m hp hm) (by omega) hN hT (by omega) (by omega), ?_⟩; (try simp only [go_sem]); with_reducible refine hK _ _ ?_; clear hK K)
    rw [acc_acc hne]
    have hP2 := hP1.add h1 (log2_lt9 (n := b) (by omega) (by omega)) (0 - 1)
    repeat (first | refine Goes.reg ?_ | refine Goes.ctl2 rfl ?_ | ((first | refine qv1 rfl rfl rfl fun K hK => ?_ | refine qv3 rfl rfl rfl fun K hK => ?_ | refine qv2 rfl rfl rfl rfl rfl rfl fun K hK => ?_ | refine qv4 rfl rfl rfl rfl rfl rfl fun K hK => ?_ | refine qn1 rfl rfl rfl fun K hK => ?_ | refine qn3 rfl rfl rfl fun K hK => ?_ | refine qt1 rfl rfl rfl fun K hK => ?_ | refine qt3 rfl rfl rfl fun K hK => ?_); simp (disch := (first | omega | (simp only [sz] <;> omega) | fail)) only [go_sem, e8]; with_reducible refine hK _ _ ?_; clear hK K) | refine At.nil rfl ?_ | refine RG.nil rfl ?_ | ((first | refine AtL.skipg rfl rfl rfl rfl rfl ?_ | refine RGL.skipg rfl rfl rfl rfl rfl ?_ | refine AtL.skipu rfl rfl rfl rfl ?_ | refine RGL.skipu rfl rfl rfl rfl ?_); simp only [putL, List.set_cons_zero, List.set_cons_succ]) | refine Goes.yes rfl ?_ | refine Goes.no rfl ?_ | refine Goes.drawR [] (by kernel_rfl) ?_)
    ((first | refine qc1 rfl rfl fun K hK => ?_ | refine qc3 rfl rfl fun K hK => ?_); simp (disch := (first | omega | (simp only [sz] <;> omega) | fail)) only [go_sem]; refine ⟨_, _, dput_does _ p m me _ _ _ N T _ 0 0 (acc_p hp hm) (acc_m hp hm) (by omega) hN hT (by decide) (by decide), ?_⟩; (try simp only [go_sem]); with_reducible refine hK _ _ ?_; clear hK K)
    rw [acc_acc hne]
    have hP3 := hP2.put h1 (x := tot (A ++ fr b) - 1) (by omega) 2 (pgU 0 0) 0
    by_cases hc : c = 0
    · repeat (first | refine Goes.reg ?_ | refine Goes.ctl2 rfl ?_ | ((first | refine qv1 rfl rfl rfl fun K hK => ?_ | refine qv3 rfl rfl rfl fun K hK => ?_ | refine qv2 rfl rfl rfl rfl rfl rfl fun K hK => ?_ | refine qv4 rfl rfl rfl rfl rfl rfl fun K hK => ?_ | refine qn1 rfl rfl rfl fun K hK => ?_ | refine qn3 rfl rfl rfl fun K hK => ?_ | refine qt1 rfl rfl rfl fun K hK => ?_ | refine qt3 rfl rfl rfl fun K hK => ?_); simp (disch := (first | omega | (simp only [sz] <;> omega) | fail)) only [go_sem, e5, e6, e7]; with_reducible refine hK _ _ ?_; clear hK K) | refine At.nil rfl ?_ | refine RG.nil rfl ?_ | ((first | refine AtL.skipg rfl rfl rfl rfl rfl ?_ | refine RGL.skipg rfl rfl rfl rfl rfl ?_ | refine AtL.skipu rfl rfl rfl rfl ?_ | refine RGL.skipu rfl rfl rfl rfl ?_); simp only [putL, List.set_cons_zero, List.set_cons_succ]) | refine Goes.yes rfl ?_ | refine Goes.no rfl ?_ | refine Goes.drawR [] (by kernel_rfl) ?_)
      obtain ⟨w3, s3, hs3, hP3, hd3⟩ := dlay_does _ p m me (s2 + 1 + 1 + 1) ws0 _ bs N T (tot A) (b + n + c) (acc_p (S := S) (me' := me) (s' := s2 + 1 + 1 + 1) (bs' := bs) hp hm) (acc_m (S := S) hp hm) (by omega) h1 hN hT hP3 (by omega)
      ((first | refine qc1 rfl rfl fun K hK => ?_ | refine qc3 rfl rfl fun K hK => ?_); simp (disch := (first | omega | (simp only [sz] <;> omega) | fail)) only [go_sem]; refine ⟨_, _, hd3, ?_⟩; (try simp only [go_sem]); with_reducible refine hK _ _ ?_; clear hK K)
      rw [acc_acc hne]
      repeat (first | refine Goes.reg ?_ | refine Goes.ctl2 rfl ?_ | ((first | refine qv1 rfl rfl rfl fun K hK => ?_ | refine qv3 rfl rfl rfl fun K hK => ?_ | refine qv2 rfl rfl rfl rfl rfl rfl fun K hK => ?_ | refine qv4 rfl rfl rfl rfl rfl rfl fun K hK => ?_ | refine qn1 rfl rfl rfl fun K hK => ?_ | refine qn3 rfl rfl rfl fun K hK => ?_ | refine qt1 rfl rfl rfl fun K hK => ?_ | refine qt3 rfl rfl rfl fun K hK => ?_); simp (disch := (first | omega | (simp only [sz] <;> omega) | fail)) only [go_sem]; with_reducible refine hK _ _ ?_; clear hK K) | refine At.nil rfl ?_ | refine RG.nil rfl ?_ | ((first | refine AtL.skipg rfl rfl rfl rfl rfl ?_ | refine RGL.skipg rfl rfl rfl rfl rfl ?_ | refine AtL.skipu rfl rfl rfl rfl ?_ | refine RGL.skipu rfl rfl rfl rfl ?_); simp only [putL, List.set_cons_zero, List.set_cons_succ]) | refine Goes.yes rfl ?_ | refine Goes.no rfl ?_ | refine Goes.drawR [] (by kernel_rfl) ?_)
      refine Goes.finE rfl (by simp (disch := (first | omega | (simp only [heapL_next, List.length_cons, List.length_nil, List.size_toArray, geo_len] <;> omega) | fail)) only [go_sem, resA, res1A, Try.results67] <;> rfl) ?_
      refine ⟨s3, w3, A ++ (1, b + n + c) :: C, _, rfl, by omega, rfl, hP3.congr (fun y _ => ?_) (fun y _ => ?_), .inr ⟨rfl, A, b, q, n, c, C, hL, hlA, hhC, hq3, hq5, hn1, rfl, rfl, rfl⟩⟩
      · rw [← free_pw (A := A) (C := C) (k := q) (b := b) (n := n) (c := c) hposA hn1 (by omega) y, hL]
        unfold freeP
        rw [if_pos hc, if_neg hb, ← htx]
        all_goals rfl
      · rw [← free_bw (A := A) (C := C) (k := q) (b := b) (n := n) (c := c) hn1 (by omega) y, hL]
        unfold freeB
        rw [if_pos hc, if_neg hb]
        all_goals rfl
    · repeat (first | refine Goes.reg ?_ | refine Goes.ctl2 rfl ?_ | ((first | refine qv1 rfl rfl rfl fun K hK => ?_ | refine qv3 rfl rfl rfl fun K hK => ?_ | refine qv2 rfl rfl rfl rfl rfl rfl fun K hK => ?_ | refine qv4 rfl rfl rfl rfl rfl rfl fun K hK => ?_ | refine qn1 rfl rfl rfl fun K hK => ?_ | refine qn3 rfl rfl rfl fun K hK => ?_ | refine qt1 rfl rfl rfl fun K hK => ?_ | refine qt3 rfl rfl rfl fun K hK => ?_); simp (disch := (first | omega | (simp only [sz] <;> omega) | fail)) only [go_sem]; with_reducible refine hK _ _ ?_; clear hK K) | refine At.nil rfl ?_ | refine RG.nil rfl ?_ | ((first | refine AtL.skipg rfl rfl rfl rfl rfl ?_ | refine RGL.skipg rfl rfl rfl rfl rfl ?_ | refine AtL.skipu rfl rfl rfl rfl ?_ | refine RGL.skipu rfl rfl rfl rfl ?_); simp only [putL, List.set_cons_zero, List.set_cons_succ]) | refine Goes.yes rfl ?_ | refine Goes.no rfl ?_ | refine Goes.drawR [] (by kernel_rfl) ?_)
      ((first | refine qc1 rfl rfl fun K hK => ?_ | refine qc3 rfl rfl fun K hK => ?_); simp (disch := (first | omega | (simp only [sz] <;> omega) | fail)) only [go_sem]; refine ⟨_, _, dcount_does _ p m me _ _ _ N T c true (acc_p hp hm) (acc_m hp hm) (by omega) hN hT (by omega) (by omega), ?_⟩; (try simp only [go_sem]); with_reducible refine hK _ _ ?_; clear hK K)
      rw [acc_acc hne]
      have hP4 := hP3.add h1 (log2_lt9 (n := c) (by omega) (by omega)) (0 - 1)
      repeat (first | refine Goes.reg ?_ | refine Goes.ctl2 rfl ?_ | ((first | refine qv1 rfl rfl rfl fun K hK => ?_ | refine qv3 rfl rfl rfl fun K hK => ?_ | refine qv2 rfl rfl rfl rfl rfl rfl fun K hK => ?_ | refine qv4 rfl rfl rfl rfl rfl rfl fun K hK => ?_ | refine qn1 rfl rfl rfl fun K hK => ?_ | refine qn3 rfl rfl rfl fun K hK => ?_ | refine qt1 rfl rfl rfl fun K hK => ?_ | refine qt3 rfl rfl rfl fun K hK => ?_); simp (disch := (first | omega | (simp only [sz] <;> omega) | fail)) only [go_sem, e3]; with_reducible refine hK _ _ ?_; clear hK K) | refine At.nil rfl ?_ | refine RG.nil rfl ?_ | ((first | refine AtL.skipg rfl rfl rfl rfl rfl ?_ | refine RGL.skipg rfl rfl rfl rfl rfl ?_ | refine AtL.skipu rfl rfl rfl rfl ?_ | refine RGL.skipu rfl rfl rfl rfl ?_); simp only [putL, List.set_cons_zero, List.set_cons_succ]) | refine Goes.yes rfl ?_ | refine Goes.no rfl ?_ | refine Goes.drawR [] (by kernel_rfl) ?_)
      ((first | refine qc1 rfl rfl fun K hK => ?_ | refine qc3 rfl rfl fun K hK => ?_); simp (disch := (first | omega | (simp only [sz] <;> omega) | fail)) only [go_sem]; refine ⟨_, _, dput_does _ p m me _ _ _ N T _ 0 0 (acc_p hp hm) (acc_m hp hm) (by omega) hN hT (by decide) (by decide), ?_⟩; (try simp only [go_sem]); with_reducible refine hK _ _ ?_; clear hK K)
      rw [acc_acc hne]
      have hP5 := hP4.put h1 (x := tot (A ++ fr b) + n) (by omega) 2 (pgU 0 0) 0
      repeat (first | refine Goes.reg ?_ | refine Goes.ctl2 rfl ?_ | ((first | refine qv1 rfl rfl rfl fun K hK => ?_ | refine qv3 rfl rfl rfl fun K hK => ?_ | refine qv2 rfl rfl rfl rfl rfl rfl fun K hK => ?_ | refine qv4 rfl rfl rfl rfl rfl rfl fun K hK => ?_ | refine qn1 rfl rfl rfl fun K hK => ?_ | refine qn3 rfl rfl rfl fun K hK => ?_ | refine qt1 rfl rfl rfl fun K hK => ?_ | refine qt3 rfl rfl rfl fun K hK => ?_); simp (disch := (first | omega | (simp only [sz] <;> omega) | fail)) only [go_sem, e5, e6, e7]; with_reducible refine hK _ _ ?_; clear hK K) | refine At.nil rfl ?_ | refine RG.nil rfl ?_ | ((first | refine AtL.skipg rfl rfl rfl rfl rfl ?_ | refine RGL.skipg rfl rfl rfl rfl rfl ?_ | refine AtL.skipu rfl rfl rfl rfl ?_ | refine RGL.skipu rfl rfl rfl rfl ?_); simp only [putL, List.set_cons_zero, List.set_cons_succ]) | refine Goes.yes rfl ?_ | refine Goes.no rfl ?_ | refine Goes.drawR [] (by kernel_rfl) ?_)
      obtain ⟨w3, s3, hs3, hP3, hd3⟩ := dlay_does _ p m me (s2 + 1 + 1 + 1 + 1 + 1) ws0 _ bs N T (tot A) (b + n + c) (acc_p (S := S) (me' := me) (s' := s2 + 1 + 1 + 1 + 1 + 1) (bs' := bs) hp hm) (acc_m (S := S) hp hm) (by omega) h1 hN hT hP5 (by omega)
      ((first | refine qc1 rfl rfl fun K hK => ?_ | refine qc3 rfl rfl fun K hK => ?_); simp (disch := (first | omega | (simp only [sz] <;> omega) | fail)) only [go_sem]; refine ⟨_, _, hd3, ?_⟩; (try simp only [go_sem]); with_reducible refine hK _ _ ?_; clear hK K)
      rw [acc_acc hne]
      repeat (first | refine Goes.reg ?_ | refine Goes.ctl2 rfl ?_ | ((first | refine qv1 rfl rfl rfl fun K hK => ?_ | refine qv3 rfl rfl rfl fun K hK => ?_ | refine qv2 rfl rfl rfl rfl rfl rfl fun K hK => ?_ | refine qv4 rfl rfl rfl rfl rfl rfl fun K hK => ?_ | refine qn1 rfl rfl rfl fun K hK => ?_ | refine qn3 rfl rfl rfl fun K hK => ?_ | refine qt1 rfl rfl rfl fun K hK => ?_ | refine qt3 rfl rfl rfl fun K hK => ?_); simp (disch := (first | omega | (simp only [sz] <;> omega) | fail)) only [go_sem]; with_reducible refine hK _ _ ?_; clear hK K) | refine At.nil rfl ?_ | refine RG.nil rfl ?_ | ((first | refine AtL.skipg rfl rfl rfl rfl rfl ?_ | refine RGL.skipg rfl rfl rfl rfl rfl ?_ | refine AtL.skipu rfl rfl rfl rfl ?_ | refine RGL.skipu rfl rfl rfl rfl ?_); simp only [putL, List.set_cons_zero, List.set_cons_succ]) | refine Goes.yes rfl ?_ | refine Goes.no rfl ?_ | refine Goes.drawR [] (by kernel_rfl) ?_)
      refine Goes.finE rfl (by simp (disch := (first | omega | (simp only [heapL_next, List.length_cons, List.length_nil, List.size_toArray, geo_len] <;> omega) | fail)) only [go_sem, resA, res1A, Try.results67] <;> rfl) ?_
      refine ⟨s3, w3, A ++ (1, b + n + c) :: C, _, rfl, by omega, rfl, hP3.congr (fun y _ => ?_) (fun y _ => ?_), .inr ⟨rfl, A, b, q, n, c, C, hL, hlA, hhC, hq3, hq5, hn1, rfl, rfl, rfl⟩⟩
      · rw [← free_pw (A := A) (C := C) (k := q) (b := b) (n := n) (c := c) hposA hn1 (by omega) y, hL]
        unfold freeP
        rw [if_neg hc, if_neg hb, ← htx]
        all_goals rfl
      · rw [← free_bw (A := A) (C := C) (k := q) (b := b) (n := n) (c := c) hn1 (by omega) y, hL]
        unfold freeB
        rw [if_neg hc, if_neg hb]
        all_goals rfl
end Go.Proofs.Ytceddijolfpppaa
