/-
  Layer 10 over the abstract machine: contracts of package runs: Alloc.
  Conditions: those of each contract.
-/
import Derived.Test.YtceddijolfpppaaRunsD
namespace Go.Proofs.Ytceddijolfpppaa
open Go Go.RowKit
set_option linter.unusedSimpArgs false
set_option linter.unusedVariables false

theorem fill1_geo {off N T : Nat} {cells : List Value} {K : List Value → Option (List Value)} (hl : off + 22 ≤ cells.length) : fill1 (some (off, 22)) (.agg (geoC N T)) cells K = K (spliceA cells off (geoC N T).toList) :=
  fill1_agg (by rw [← Array.length_toList, geo_len]) hl
theorem dk_agg (p N T : Nat) : Value.agg (prtV p :: (geoC N T).toList).toArray = .agg (dkC p N T) := by simp [dkC]
theorem dk_cells (p N T : Nat) : prtV p :: (geoC N T).toList = (dkC p N T).toList := (dk_list p N T).symm
attribute [go_sem] fill1_geo dk_cells

theorem best_cut {L : List Rn} (k a : Nat) (hp : Pos L) (ha : 1 ≤ a) (hn : (bestL k a L 0 (0, 0, 0)).2.1 ≠ 0) :
    ∃ A C f r, L = A ++ (1, f + k + r) :: C ∧ bestL k a L 0 (0, 0, 0) = (tot A, f + k + r, tot A + f) := by
  rcases bestL_spec (k := k) (a := a) L 0 (0, 0, 0) with h | ⟨A, r, C, h1, h2, h3, h4⟩
  · rw [h] at hn; exact absurd rfl hn
  · rw [Nat.zero_add] at h3 h4
    have h5 := rup_ge (x := tot A) ha
    refine ⟨A, C, rup (tot A) a - tot A, r.2 - (rup (tot A) a - tot A) - k, ?_, ?_⟩
    · rw [h1, show rup (tot A) a - tot A + k + (r.2 - (rup (tot A) a - tot A) - k) = r.2 by omega, ← h2]
    · rw [h3, show rup (tot A) a - tot A + k + (r.2 - (rup (tot A) a - tot A) - k) = r.2 by omega, show tot A + (rup (tot A) a - tot A) = rup (tot A) a by omega]

theorem zer_next {P : Nat → UInt64} {a b : Nat} (h : a ≤ b) (y : Nat) : up (zer P a b) b 0 y = zer P a (b + 1) y := by
  unfold up zer
  by_cases h1 : y = b
  · rw [if_pos h1, if_pos (by omega)]
  · rw [if_neg h1]
    by_cases h2 : a ≤ y ∧ y < b
    · rw [if_pos h2, if_pos (by omega)]
    · rw [if_neg h2, if_neg (by omega)]
theorem zer_none {P : Nat → UInt64} {a : Nat} (y : Nat) : P y = zer P a a y := by unfold zer; rw [if_neg (by omega)]

/-- What Alloc says and leaves. -/
def AllocSaid (k a : Int) (N T : Nat) (ws0 ws : List UInt64) (L : List Rn) (v : Value) (ws' : List UInt64) (L' : List Rn) : Prop :=
  (v = .tuple #[.int .i64 0, .bool false] ∧ L' = L ∧ ws' = ws ∧ (1 ≤ k → 1 ≤ a → k ≤ N → (bestL k.toNat (min a 256).toNat L 0 (0, 0, 0)).2.1 = 0)) ∨
  (1 ≤ k ∧ 1 ≤ a ∧ ∃ A C f r, L = A ++ (1, f + k.toNat + r) :: C ∧ bestL k.toNat (min a 256).toNat L 0 (0, 0, 0) = (tot A, f + k.toNat + r, tot A + f) ∧ L' = A ++ (fr f ++ (4, k.toNat) :: (fr r ++ C)) ∧ v = .tuple #[.int .i64 ((tot A + f : Nat) : Int), .bool true])

set_option maxHeartbeats 2000000 in
theorem alloc_does (S : St) (p m me : Nat) (steps : Nat) (ws0 ws : List UInt64) (bs : List UInt8) (N T : Nat) (k a : Int) {L : List Rn} (hp : S[p]? = some (.port m me steps)) (hm : S[m]? = some (.mem ws bs)) (hst : steps ≤ 1000000000) (h1 : 1 ≤ N) (hN : N ≤ 256) (hT : T ≤ 64) (hP : Pg N T ws0 ws (pw L) (bw L)) (hpos : Pos L) (htot : tot L = N) :
    ∃ v S', (∃ st' ws' L', st' ≤ steps + 600 ∧ S' = accS S p m me st' ws' bs ∧ Pg N T ws0 ws' (pw L') (bw L') ∧ AllocSaid k a N T ws0 ws L v ws' L') ∧ Does OF 34 #[prtV p, .agg (geoC N T), .int .i64 k, .int .i64 a] [] S v S' := by
  have hne := hne_of hp hm
  refine Does.ex Try.func34 rfl rfl ?clo ?hand ?_
  case clo => exact clo4 (pclo (hlt_of hp)) (Clo.plain (geo_plain _ _)) iclo iclo
  case hand =>
    rintro v S' ⟨_, _, _, _, _, _, h⟩
    rcases h with ⟨rfl, _⟩ | ⟨_, _, _, _, _, _, _, _, _, rfl⟩ <;> exact Hand.plain (by simp [plainB])
  rw [Try.ntmps34]; simp only [List.size_toArray, List.length_cons, List.length_nil, List.replicate, List.cons_append, List.nil_append]
  by_cases hbad : k < 1 ∨ a < 1 ∨ (N : Int) < k
  · by_cases b1 : k < 1
    · repeat (first | refine Goes.reg ?_ | refine Goes.ctl2 rfl ?_ | ((first | refine qv1 rfl rfl rfl fun K hK => ?_ | refine qv3 rfl rfl rfl fun K hK => ?_ | refine qv2 rfl rfl rfl rfl rfl rfl fun K hK => ?_ | refine qv4 rfl rfl rfl rfl rfl rfl fun K hK => ?_ | refine qn1 rfl rfl rfl fun K hK => ?_ | refine qn3 rfl rfl rfl fun K hK => ?_ | refine qt1 rfl rfl rfl fun K hK => ?_ | refine qt3 rfl rfl rfl fun K hK => ?_); simp (disch := (first | omega | (simp only [sz] <;> omega) | fail)) only [go_sem]; with_reducible refine hK _ _ ?_; clear hK K) | refine At.nil rfl ?_ | refine RG.nil rfl ?_ | ((first | refine AtL.skipg rfl rfl rfl rfl rfl ?_ | refine RGL.skipg rfl rfl rfl rfl rfl ?_ | refine AtL.skipu rfl rfl rfl rfl ?_ | refine RGL.skipu rfl rfl rfl rfl ?_); simp only [putL, List.set_cons_zero, List.set_cons_succ]) | refine Goes.yes rfl ?_ | refine Goes.no rfl ?_ | refine Goes.drawR [] (by kernel_rfl) ?_)
      refine Goes.finE rfl (by simp (disch := (first | omega | (simp only [heapL_next, List.length_cons, List.length_nil, List.size_toArray, geo_len] <;> omega) | fail)) only [go_sem, resA, res1A, Try.results34] <;> rfl) ?_
      exact ⟨steps, ws, L, by omega, (acc_same hp hm).symm, hP, .inl ⟨rfl, rfl, rfl, fun _ _ _ => by omega⟩⟩
    by_cases b2 : a < 1
    · repeat (first | refine Goes.reg ?_ | refine Goes.ctl2 rfl ?_ | ((first | refine qv1 rfl rfl rfl fun K hK => ?_ | refine qv3 rfl rfl rfl fun K hK => ?_ | refine qv2 rfl rfl rfl rfl rfl rfl fun K hK => ?_ | refine qv4 rfl rfl rfl rfl rfl rfl fun K hK => ?_ | refine qn1 rfl rfl rfl fun K hK => ?_ | refine qn3 rfl rfl rfl fun K hK => ?_ | refine qt1 rfl rfl rfl fun K hK => ?_ | refine qt3 rfl rfl rfl fun K hK => ?_); simp (disch := (first | omega | (simp only [sz] <;> omega) | fail)) only [go_sem]; with_reducible refine hK _ _ ?_; clear hK K) | refine At.nil rfl ?_ | refine RG.nil rfl ?_ | ((first | refine AtL.skipg rfl rfl rfl rfl rfl ?_ | refine RGL.skipg rfl rfl rfl rfl rfl ?_ | refine AtL.skipu rfl rfl rfl rfl ?_ | refine RGL.skipu rfl rfl rfl rfl ?_); simp only [putL, List.set_cons_zero, List.set_cons_succ]) | refine Goes.yes rfl ?_ | refine Goes.no rfl ?_ | refine Goes.drawR [] (by kernel_rfl) ?_)
      refine Goes.finE rfl (by simp (disch := (first | omega | (simp only [heapL_next, List.length_cons, List.length_nil, List.size_toArray, geo_len] <;> omega) | fail)) only [go_sem, resA, res1A, Try.results34] <;> rfl) ?_
      exact ⟨steps, ws, L, by omega, (acc_same hp hm).symm, hP, .inl ⟨rfl, rfl, rfl, fun _ _ _ => by omega⟩⟩
    · repeat (first | refine Goes.reg ?_ | refine Goes.ctl2 rfl ?_ | ((first | refine qv1 rfl rfl rfl fun K hK => ?_ | refine qv3 rfl rfl rfl fun K hK => ?_ | refine qv2 rfl rfl rfl rfl rfl rfl fun K hK => ?_ | refine qv4 rfl rfl rfl rfl rfl rfl fun K hK => ?_ | refine qn1 rfl rfl rfl fun K hK => ?_ | refine qn3 rfl rfl rfl fun K hK => ?_ | refine qt1 rfl rfl rfl fun K hK => ?_ | refine qt3 rfl rfl rfl fun K hK => ?_); simp (disch := (first | omega | (simp only [sz] <;> omega) | fail)) only [go_sem]; with_reducible refine hK _ _ ?_; clear hK K) | refine At.nil rfl ?_ | refine RG.nil rfl ?_ | ((first | refine AtL.skipg rfl rfl rfl rfl rfl ?_ | refine RGL.skipg rfl rfl rfl rfl rfl ?_ | refine AtL.skipu rfl rfl rfl rfl ?_ | refine RGL.skipu rfl rfl rfl rfl ?_); simp only [putL, List.set_cons_zero, List.set_cons_succ]) | refine Goes.yes rfl ?_ | refine Goes.no rfl ?_ | refine Goes.drawR [] (by kernel_rfl) ?_)
      ((first | refine qp1 rfl rfl fun K hK => ?_ | refine qp3 rfl rfl fun K hK => ?_); simp (disch := (first | omega | (simp only [sz] <;> omega) | fail)) only [go_sem]; refine ⟨_, _, qpu fun w => gPages_any N T w, ?_⟩; (try simp only [go_sem]); with_reducible refine hK _ _ ?_; clear hK K)
      repeat (first | refine Goes.reg ?_ | refine Goes.ctl2 rfl ?_ | ((first | refine qv1 rfl rfl rfl fun K hK => ?_ | refine qv3 rfl rfl rfl fun K hK => ?_ | refine qv2 rfl rfl rfl rfl rfl rfl fun K hK => ?_ | refine qv4 rfl rfl rfl rfl rfl rfl fun K hK => ?_ | refine qn1 rfl rfl rfl fun K hK => ?_ | refine qn3 rfl rfl rfl fun K hK => ?_ | refine qt1 rfl rfl rfl fun K hK => ?_ | refine qt3 rfl rfl rfl fun K hK => ?_); simp (disch := (first | omega | (simp only [sz] <;> omega) | fail)) only [go_sem]; with_reducible refine hK _ _ ?_; clear hK K) | refine At.nil rfl ?_ | refine RG.nil rfl ?_ | ((first | refine AtL.skipg rfl rfl rfl rfl rfl ?_ | refine RGL.skipg rfl rfl rfl rfl rfl ?_ | refine AtL.skipu rfl rfl rfl rfl ?_ | refine RGL.skipu rfl rfl rfl rfl ?_); simp only [putL, List.set_cons_zero, List.set_cons_succ]) | refine Goes.yes rfl ?_ | refine Goes.no rfl ?_ | refine Goes.drawR [] (by kernel_rfl) ?_)
      refine Goes.finE rfl (by simp (disch := (first | omega | (simp only [heapL_next, List.length_cons, List.length_nil, List.size_toArray, geo_len] <;> omega) | fail)) only [go_sem, resA, res1A, Try.results34] <;> rfl) ?_
      exact ⟨steps, ws, L, by omega, (acc_same hp hm).symm, hP, .inl ⟨rfl, rfl, rfl, fun _ _ _ => by omega⟩⟩
  obtain ⟨kn, rfl⟩ := Int.eq_ofNat_of_zero_le (show 0 ≤ k by omega)
  obtain ⟨an, han⟩ := Int.eq_ofNat_of_zero_le (show 0 ≤ min a 256 by omega)
  have hmin : (if a > 256 then (256 : Int) else a) = (an : Int) := by rw [← han]; split <;> omega
  have ha1 : 1 ≤ an := by omega
  have ha2 : an ≤ 256 := by omega
  obtain ⟨v1, S1, ⟨st1, hst1, rfl, rfl⟩, hd1⟩ := best_does S p m me steps ws0 ws bs N T kn an hp hm hst h1 hN hT hP hpos htot (by omega) (by omega) ha1 ha2
  repeat (first | refine Goes.reg ?_ | refine Goes.ctl2 rfl ?_ | ((first | refine qv1 rfl rfl rfl fun K hK => ?_ | refine qv3 rfl rfl rfl fun K hK => ?_ | refine qv2 rfl rfl rfl rfl rfl rfl fun K hK => ?_ | refine qv4 rfl rfl rfl rfl rfl rfl fun K hK => ?_ | refine qn1 rfl rfl rfl fun K hK => ?_ | refine qn3 rfl rfl rfl fun K hK => ?_ | refine qt1 rfl rfl rfl fun K hK => ?_ | refine qt3 rfl rfl rfl fun K hK => ?_); simp (disch := (first | omega | (simp only [sz] <;> omega) | fail)) only [go_sem]; with_reducible refine hK _ _ ?_; clear hK K) | refine At.nil rfl ?_ | refine RG.nil rfl ?_ | ((first | refine AtL.skipg rfl rfl rfl rfl rfl ?_ | refine RGL.skipg rfl rfl rfl rfl rfl ?_ | refine AtL.skipu rfl rfl rfl rfl ?_ | refine RGL.skipu rfl rfl rfl rfl ?_); simp only [putL, List.set_cons_zero, List.set_cons_succ]) | refine Goes.yes rfl ?_ | refine Goes.no rfl ?_ | refine Goes.drawR [] (by kernel_rfl) ?_)
  ((first | refine qp1 rfl rfl fun K hK => ?_ | refine qp3 rfl rfl fun K hK => ?_); simp (disch := (first | omega | (simp only [sz] <;> omega) | fail)) only [go_sem]; refine ⟨_, _, qpu fun w => gPages_any N T w, ?_⟩; (try simp only [go_sem]); with_reducible refine hK _ _ ?_; clear hK K)
  repeat (first | refine Goes.reg ?_ | refine Goes.ctl2 rfl ?_ | ((first | refine qv1 rfl rfl rfl fun K hK => ?_ | refine qv3 rfl rfl rfl fun K hK => ?_ | refine qv2 rfl rfl rfl rfl rfl rfl fun K hK => ?_ | refine qv4 rfl rfl rfl rfl rfl rfl fun K hK => ?_ | refine qn1 rfl rfl rfl fun K hK => ?_ | refine qn3 rfl rfl rfl fun K hK => ?_ | refine qt1 rfl rfl rfl fun K hK => ?_ | refine qt3 rfl rfl rfl fun K hK => ?_); simp (disch := (first | omega | (simp only [sz] <;> omega) | fail)) only [go_sem, hmin]; with_reducible refine hK _ _ ?_; clear hK K) | refine At.nil rfl ?_ | refine RG.nil rfl ?_ | ((first | refine AtL.skipg rfl rfl rfl rfl rfl ?_ | refine RGL.skipg rfl rfl rfl rfl rfl ?_ | refine AtL.skipu rfl rfl rfl rfl ?_ | refine RGL.skipu rfl rfl rfl rfl ?_); simp only [putL, List.set_cons_zero, List.set_cons_succ]) | refine Goes.yes rfl ?_ | refine Goes.no rfl ?_ | refine Goes.drawR [] (by kernel_rfl) ?_)
  ((first | refine qc1 rfl rfl fun K hK => ?_ | refine qc3 rfl rfl fun K hK => ?_); simp (disch := (first | omega | (simp only [sz] <;> omega) | fail)) only [go_sem]; refine ⟨_, _, hd1, ?_⟩; (try simp only [go_sem]); with_reducible refine hK _ _ ?_; clear hK K)
  unfold fitV
  obtain ⟨o, ho⟩ : ∃ o, o = bestL kn an L 0 (0, 0, 0) := ⟨_, rfl⟩
  rw [← ho]
  by_cases h0 : o.2.1 = 0
  · repeat (first | refine Goes.reg ?_ | refine Goes.ctl2 rfl ?_ | ((first | refine qv1 rfl rfl rfl fun K hK => ?_ | refine qv3 rfl rfl rfl fun K hK => ?_ | refine qv2 rfl rfl rfl rfl rfl rfl fun K hK => ?_ | refine qv4 rfl rfl rfl rfl rfl rfl fun K hK => ?_ | refine qn1 rfl rfl rfl fun K hK => ?_ | refine qn3 rfl rfl rfl fun K hK => ?_ | refine qt1 rfl rfl rfl fun K hK => ?_ | refine qt3 rfl rfl rfl fun K hK => ?_); simp (disch := (first | omega | (simp only [sz] <;> omega) | fail)) only [go_sem]; with_reducible refine hK _ _ ?_; clear hK K) | refine At.nil rfl ?_ | refine RG.nil rfl ?_ | ((first | refine AtL.skipg rfl rfl rfl rfl rfl ?_ | refine RGL.skipg rfl rfl rfl rfl rfl ?_ | refine AtL.skipu rfl rfl rfl rfl ?_ | refine RGL.skipu rfl rfl rfl rfl ?_); simp only [putL, List.set_cons_zero, List.set_cons_succ]) | refine Goes.yes rfl ?_ | refine Goes.no rfl ?_ | refine Goes.drawR [] (by kernel_rfl) ?_)
    refine Goes.finE rfl (by simp (disch := (first | omega | (simp only [heapL_next, List.length_cons, List.length_nil, List.size_toArray, geo_len] <;> omega) | fail)) only [go_sem, resA, res1A, Try.results34] <;> rfl) ?_
    refine ⟨st1, ws, L, by omega, rfl, hP, .inl ⟨rfl, rfl, rfl, fun _ _ _ => ?_⟩⟩
    rw [show (min a 256).toNat = an by omega, Int.toNat_natCast, ← ho]; exact h0
  obtain ⟨A, C, f, r, hL, hb⟩ := best_cut kn an hpos ha1 (ho ▸ h0)
  rw [← ho] at hb
  subst hb
  have hlen : tot A + (f + kn + r) + tot C = N := by rw [← htot, hL, tot_append]; simp only [tot]; omega
  repeat (first | refine Goes.reg ?_ | refine Goes.ctl2 rfl ?_ | ((first | refine qv1 rfl rfl rfl fun K hK => ?_ | refine qv3 rfl rfl rfl fun K hK => ?_ | refine qv2 rfl rfl rfl rfl rfl rfl fun K hK => ?_ | refine qv4 rfl rfl rfl rfl rfl rfl fun K hK => ?_ | refine qn1 rfl rfl rfl fun K hK => ?_ | refine qn3 rfl rfl rfl fun K hK => ?_ | refine qt1 rfl rfl rfl fun K hK => ?_ | refine qt3 rfl rfl rfl fun K hK => ?_); simp (disch := (first | omega | (simp only [sz] <;> omega) | fail)) only [go_sem]; with_reducible refine hK _ _ ?_; clear hK K) | refine At.nil rfl ?_ | refine RG.nil rfl ?_ | ((first | refine AtL.skipg rfl rfl rfl rfl rfl ?_ | refine RGL.skipg rfl rfl rfl rfl rfl ?_ | refine AtL.skipu rfl rfl rfl rfl ?_ | refine RGL.skipu rfl rfl rfl rfl ?_); simp only [putL, List.set_cons_zero, List.set_cons_succ]) | refine Goes.yes rfl ?_ | refine Goes.no rfl ?_ | refine Goes.drawR [] (by kernel_rfl) ?_)
  ((first | refine qc1 rfl rfl fun K hK => ?_ | refine qc3 rfl rfl fun K hK => ?_); simp (disch := (first | omega | (simp only [sz] <;> omega) | fail)) only [go_sem]; refine ⟨_, _, dcount_does _ p m me _ _ _ N T (f + kn + r) true (acc_p hp hm) (acc_m hp hm) (by omega) hN hT (by omega) (by omega), ?_⟩; (try simp only [go_sem]); with_reducible refine hK _ _ ?_; clear hK K)
  rw [acc_acc hne]
  have hP1 := hP.add h1 (log2_lt9 (n := f + kn + r) (by omega) (by omega)) (0 - 1)
  repeat (first | refine Goes.reg ?_ | refine Goes.ctl2 rfl ?_ | ((first | refine qv1 rfl rfl rfl fun K hK => ?_ | refine qv3 rfl rfl rfl fun K hK => ?_ | refine qv2 rfl rfl rfl rfl rfl rfl fun K hK => ?_ | refine qv4 rfl rfl rfl rfl rfl rfl fun K hK => ?_ | refine qn1 rfl rfl rfl fun K hK => ?_ | refine qn3 rfl rfl rfl fun K hK => ?_ | refine qt1 rfl rfl rfl fun K hK => ?_ | refine qt3 rfl rfl rfl fun K hK => ?_); simp (disch := (first | omega | (simp only [sz] <;> omega) | fail)) only [go_sem]; with_reducible refine hK _ _ ?_; clear hK K) | refine At.nil rfl ?_ | refine RG.nil rfl ?_ | ((first | refine AtL.skipg rfl rfl rfl rfl rfl ?_ | refine RGL.skipg rfl rfl rfl rfl rfl ?_ | refine AtL.skipu rfl rfl rfl rfl ?_ | refine RGL.skipu rfl rfl rfl rfl ?_); simp only [putL, List.set_cons_zero, List.set_cons_succ]) | refine Goes.yes rfl ?_ | refine Goes.no rfl ?_ | refine Goes.drawR [] (by kernel_rfl) ?_)
  refine Goes.wh (fun z tmps h S' => ∃ (j st : Nat) (wj : List UInt64), z = kn - 1 - j ∧ j ≤ kn - 1 ∧ st ≤ steps + 10 + N + j ∧ S' = accS S p m me st wj bs ∧ Pg N T ws0 wj (zer (pw L) (tot A + f + 1) (tot A + f + 1 + j)) (lessB (bw L) (f + kn + r)) ∧
      h = heapL [some { cells := (geoC N T).toList, elem := 26 }, some { cells := (dkC p N T).toList, elem := 152 }, some { cells := [.int .i64 ((tot A : Nat) : Int), .int .i64 ((f + kn + r : Nat) : Int), .int .i64 ((tot A + f : Nat) : Int)], elem := 154 }] ∧ tmps.length = 86 ∧
      tmps.getD 2 undef = .int .i64 kn ∧ tmps.getD 10 undef = .pointer (some ⟨1, 0, none⟩) ∧ tmps.getD 11 undef = .pointer (some ⟨2, 0, none⟩) ∧ tmps.getD 12 undef = .int .i64 ((tot A + f + 1 + j : Nat) : Int)) (m := kn - 1)
      ⟨0, st1 + 1, _, rfl, by omega, by omega, rfl, hP1.congr (fun y _ => zer_none y) (fun b _ => rfl), rfl, rfl, rfl, rfl, rfl, rfl⟩ ?_
  clear hP1 hd1
  rintro z tmps h S' ih ⟨j, st, wj, rfl, hj, hst', rfl, hPj, rfl, hl, f2, f10, f11, f12⟩
  obtain ⟨V, hV, hT⟩ := frame_lit hl; replace hT : _ = ([V 0, V 1, V 2, V 3, V 4, V 5, V 6, V 7, V 8, V 9, V 10, V 11, V 12, V 13, V 14, V 15, V 16, V 17, V 18, V 19, V 20, V 21, V 22, V 23, V 24, V 25, V 26, V 27, V 28, V 29, V 30, V 31, V 32, V 33, V 34, V 35, V 36, V 37, V 38, V 39, V 40, V 41, V 42, V 43, V 44, V 45, V 46, V 47, V 48, V 49, V 50, V 51, V 52, V 53, V 54, V 55, V 56, V 57, V 58, V 59, V 60, V 61, V 62, V 63, V 64, V 65, V 66, V 67, V 68, V 69, V 70, V 71, V 72, V 73, V 74, V 75, V 76, V 77, V 78, V 79, V 80, V 81, V 82, V 83, V 84, V 85] : List Value) := hT; rw [hV] at f2 f10 f11 f12; subst hT; simp only [f2, f10, f11, f12]; clear hV hl
  by_cases hlt : j < kn - 1
  · repeat (first | refine Goes.reg ?_ | refine Goes.ctl2 rfl ?_ | ((first | refine qv1 rfl rfl rfl fun K hK => ?_ | refine qv3 rfl rfl rfl fun K hK => ?_ | refine qv2 rfl rfl rfl rfl rfl rfl fun K hK => ?_ | refine qv4 rfl rfl rfl rfl rfl rfl fun K hK => ?_ | refine qn1 rfl rfl rfl fun K hK => ?_ | refine qn3 rfl rfl rfl fun K hK => ?_ | refine qt1 rfl rfl rfl fun K hK => ?_ | refine qt3 rfl rfl rfl fun K hK => ?_); simp (disch := (first | omega | (simp only [sz] <;> omega) | fail)) only [go_sem]; with_reducible refine hK _ _ ?_; clear hK K) | refine At.nil rfl ?_ | refine RG.nil rfl ?_ | ((first | refine AtL.skipg rfl rfl rfl rfl rfl ?_ | refine RGL.skipg rfl rfl rfl rfl rfl ?_ | refine AtL.skipu rfl rfl rfl rfl ?_ | refine RGL.skipu rfl rfl rfl rfl ?_); simp only [putL, List.set_cons_zero, List.set_cons_succ]) | refine Goes.yes rfl ?_ | refine Goes.no rfl ?_ | refine Goes.drawR [] (by kernel_rfl) ?_)
    ((first | refine qc1 rfl rfl fun K hK => ?_ | refine qc3 rfl rfl fun K hK => ?_); simp (disch := (first | omega | (simp only [sz] <;> omega) | fail)) only [go_sem]; refine ⟨_, _, dput_does _ p m me _ _ _ N T _ 0 0 (acc_p hp hm) (acc_m hp hm) (by omega) hN hT (by decide) (by decide), ?_⟩; (try simp only [go_sem]); with_reducible refine hK _ _ ?_; clear hK K)
    rw [acc_acc hne]
    repeat (first | refine Goes.reg ?_ | refine Goes.ctl2 rfl ?_ | ((first | refine qv1 rfl rfl rfl fun K hK => ?_ | refine qv3 rfl rfl rfl fun K hK => ?_ | refine qv2 rfl rfl rfl rfl rfl rfl fun K hK => ?_ | refine qv4 rfl rfl rfl rfl rfl rfl fun K hK => ?_ | refine qn1 rfl rfl rfl fun K hK => ?_ | refine qn3 rfl rfl rfl fun K hK => ?_ | refine qt1 rfl rfl rfl fun K hK => ?_ | refine qt3 rfl rfl rfl fun K hK => ?_); simp (disch := (first | omega | (simp only [sz] <;> omega) | fail)) only [go_sem]; with_reducible refine hK _ _ ?_; clear hK K) | refine At.nil rfl ?_ | refine RG.nil rfl ?_ | ((first | refine AtL.skipg rfl rfl rfl rfl rfl ?_ | refine RGL.skipg rfl rfl rfl rfl rfl ?_ | refine AtL.skipu rfl rfl rfl rfl ?_ | refine RGL.skipu rfl rfl rfl rfl ?_); simp only [putL, List.set_cons_zero, List.set_cons_succ]) | refine Goes.yes rfl ?_ | refine Goes.no rfl ?_ | refine Goes.drawR [] (by kernel_rfl) ?_)
    have hP2 := hPj.put h1 (x := tot A + f + 1 + j) (by omega) 2 (pgU 0 0) 0
    exact ih _ _ _ _ (by omega) ⟨j + 1, st + 1, _, rfl, by omega, by omega, rfl, hP2.congr (fun y _ => (zer_next (by omega) y)) (fun b _ => rfl), rfl, rfl, rfl, rfl, rfl, rfl⟩
  obtain rfl : j = kn - 1 := by omega
  repeat (first | refine Goes.reg ?_ | refine Goes.ctl2 rfl ?_ | ((first | refine qv1 rfl rfl rfl fun K hK => ?_ | refine qv3 rfl rfl rfl fun K hK => ?_ | refine qv2 rfl rfl rfl rfl rfl rfl fun K hK => ?_ | refine qv4 rfl rfl rfl rfl rfl rfl fun K hK => ?_ | refine qn1 rfl rfl rfl fun K hK => ?_ | refine qn3 rfl rfl rfl fun K hK => ?_ | refine qt1 rfl rfl rfl fun K hK => ?_ | refine qt3 rfl rfl rfl fun K hK => ?_); simp (disch := (first | omega | (simp only [sz] <;> omega) | fail)) only [go_sem]; with_reducible refine hK _ _ ?_; clear hK K) | refine At.nil rfl ?_ | refine RG.nil rfl ?_ | ((first | refine AtL.skipg rfl rfl rfl rfl rfl ?_ | refine RGL.skipg rfl rfl rfl rfl rfl ?_ | refine AtL.skipu rfl rfl rfl rfl ?_ | refine RGL.skipu rfl rfl rfl rfl ?_); simp only [putL, List.set_cons_zero, List.set_cons_succ]) | refine Goes.yes rfl ?_ | refine Goes.no rfl ?_ | refine Goes.drawR [] (by kernel_rfl) ?_)
  ((first | refine qc1 rfl rfl fun K hK => ?_ | refine qc3 rfl rfl fun K hK => ?_); simp (disch := (first | omega | (simp only [sz] <;> omega) | fail)) only [go_sem]; refine ⟨_, _, dput_does _ p m me _ _ _ N T _ 4 kn (acc_p hp hm) (acc_m hp hm) (by omega) hN hT (by decide) (by omega), ?_⟩; (try simp only [go_sem]); with_reducible refine hK _ _ ?_; clear hK K)
  rw [acc_acc hne]
  have hP2 := hPj.put h1 (x := tot A + f) (by omega) 2 (pgU 4 kn) 0
  have e1 : ((tot A + f : Nat) : Int) - ((tot A : Nat) : Int) = (f : Int) := by omega
  have e2 : ((tot A + f : Nat) : Int) + (kn : Int) = ((tot A + f + kn : Nat) : Int) := by omega
  have e3 : ((tot A : Nat) : Int) + ((f + kn + r : Nat) : Int) = ((tot A + (f + kn + r) : Nat) : Int) := by omega
  have e4 : ((tot A + (f + kn + r) : Nat) : Int) - ((tot A + f : Nat) : Int) = ((kn + r : Nat) : Int) := by omega
  have e5 : ((kn + r : Nat) : Int) - (kn : Int) = (r : Int) := by omega
  obtain ⟨w3, s3, hs3, hP3, hd3⟩ := dlay_does _ p m me (st + 1) ws0 _ bs N T (tot A) f (acc_p (S := S) (me' := me) (s' := st + 1) (bs' := bs) hp hm) (acc_m (S := S) hp hm) (by omega) h1 hN hT hP2 (by omega)
  repeat (first | refine Goes.reg ?_ | refine Goes.ctl2 rfl ?_ | ((first | refine qv1 rfl rfl rfl fun K hK => ?_ | refine qv3 rfl rfl rfl fun K hK => ?_ | refine qv2 rfl rfl rfl rfl rfl rfl fun K hK => ?_ | refine qv4 rfl rfl rfl rfl rfl rfl fun K hK => ?_ | refine qn1 rfl rfl rfl fun K hK => ?_ | refine qn3 rfl rfl rfl fun K hK => ?_ | refine qt1 rfl rfl rfl fun K hK => ?_ | refine qt3 rfl rfl rfl fun K hK => ?_); simp (disch := (first | omega | (simp only [sz] <;> omega) | fail)) only [go_sem, e1]; with_reducible refine hK _ _ ?_; clear hK K) | refine At.nil rfl ?_ | refine RG.nil rfl ?_ | ((first | refine AtL.skipg rfl rfl rfl rfl rfl ?_ | refine RGL.skipg rfl rfl rfl rfl rfl ?_ | refine AtL.skipu rfl rfl rfl rfl ?_ | refine RGL.skipu rfl rfl rfl rfl ?_); simp only [putL, List.set_cons_zero, List.set_cons_succ]) | refine Goes.yes rfl ?_ | refine Goes.no rfl ?_ | refine Goes.drawR [] (by kernel_rfl) ?_)
  ((first | refine qc1 rfl rfl fun K hK => ?_ | refine qc3 rfl rfl fun K hK => ?_); simp (disch := (first | omega | (simp only [sz] <;> omega) | fail)) only [go_sem]; refine ⟨_, _, hd3, ?_⟩; (try simp only [go_sem]); with_reducible refine hK _ _ ?_; clear hK K)
  rw [acc_acc hne]
  obtain ⟨w4, s4, hs4, hP4, hd4⟩ := dlay_does _ p m me s3 ws0 _ bs N T (tot A + f + kn) r (acc_p (S := S) (me' := me) (s' := s3) (bs' := bs) hp hm) (acc_m (S := S) hp hm) (by omega) h1 hN hT hP3 (by omega)
  repeat (first | refine Goes.reg ?_ | refine Goes.ctl2 rfl ?_ | ((first | refine qv1 rfl rfl rfl fun K hK => ?_ | refine qv3 rfl rfl rfl fun K hK => ?_ | refine qv2 rfl rfl rfl rfl rfl rfl fun K hK => ?_ | refine qv4 rfl rfl rfl rfl rfl rfl fun K hK => ?_ | refine qn1 rfl rfl rfl fun K hK => ?_ | refine qn3 rfl rfl rfl fun K hK => ?_ | refine qt1 rfl rfl rfl fun K hK => ?_ | refine qt3 rfl rfl rfl fun K hK => ?_); simp (disch := (first | omega | (simp only [sz] <;> omega) | fail)) only [go_sem, e2, e3, e4, e5]; with_reducible refine hK _ _ ?_; clear hK K) | refine At.nil rfl ?_ | refine RG.nil rfl ?_ | ((first | refine AtL.skipg rfl rfl rfl rfl rfl ?_ | refine RGL.skipg rfl rfl rfl rfl rfl ?_ | refine AtL.skipu rfl rfl rfl rfl ?_ | refine RGL.skipu rfl rfl rfl rfl ?_); simp only [putL, List.set_cons_zero, List.set_cons_succ]) | refine Goes.yes rfl ?_ | refine Goes.no rfl ?_ | refine Goes.drawR [] (by kernel_rfl) ?_)
  ((first | refine qc1 rfl rfl fun K hK => ?_ | refine qc3 rfl rfl fun K hK => ?_); simp (disch := (first | omega | (simp only [sz] <;> omega) | fail)) only [go_sem]; refine ⟨_, _, hd4, ?_⟩; (try simp only [go_sem]); with_reducible refine hK _ _ ?_; clear hK K)
  rw [acc_acc hne]
  repeat (first | refine Goes.reg ?_ | refine Goes.ctl2 rfl ?_ | ((first | refine qv1 rfl rfl rfl fun K hK => ?_ | refine qv3 rfl rfl rfl fun K hK => ?_ | refine qv2 rfl rfl rfl rfl rfl rfl fun K hK => ?_ | refine qv4 rfl rfl rfl rfl rfl rfl fun K hK => ?_ | refine qn1 rfl rfl rfl fun K hK => ?_ | refine qn3 rfl rfl rfl fun K hK => ?_ | refine qt1 rfl rfl rfl fun K hK => ?_ | refine qt3 rfl rfl rfl fun K hK => ?_); simp (disch := (first | omega | (simp only [sz] <;> omega) | fail)) only [go_sem]; with_reducible refine hK _ _ ?_; clear hK K) | refine At.nil rfl ?_ | refine RG.nil rfl ?_ | ((first | refine AtL.skipg rfl rfl rfl rfl rfl ?_ | refine RGL.skipg rfl rfl rfl rfl rfl ?_ | refine AtL.skipu rfl rfl rfl rfl ?_ | refine RGL.skipu rfl rfl rfl rfl ?_); simp only [putL, List.set_cons_zero, List.set_cons_succ]) | refine Goes.yes rfl ?_ | refine Goes.no rfl ?_ | refine Goes.drawR [] (by kernel_rfl) ?_)
  refine Goes.finE rfl (by simp (disch := (first | omega | (simp only [heapL_next, List.length_cons, List.length_nil, List.size_toArray, geo_len] <;> omega) | fail)) only [go_sem, resA, res1A, Try.results34] <;> rfl) ?_
  refine ⟨s4, w4, A ++ (fr f ++ (4, kn) :: (fr r ++ C)), by omega, rfl, hP4.congr (fun x _ => ?_) (fun b _ => ?_), .inr ⟨by omega, by omega, A, C, f, r, by rw [hL]; rfl, ?_, rfl, rfl⟩⟩
  · have := alloc_pw (A := A) (C := C) (f := f) (k := kn) (r := r) (Pos.append.1 (hL ▸ hpos)).1 (by omega) x
    rw [← this, hL, show tot A + f + 1 + (kn - 1) = tot A + f + kn by omega]
    rfl
  · rw [hL]; exact alloc_bw (by omega) b
  · rw [show (min a 256).toNat = an by omega, Int.toNat_natCast, ← ho]
end Go.Proofs.Ytceddijolfpppaa
