/-
  Layer 17 over the abstract machine: the beginning of the statements; contracts of package data.
  Conditions: those of each contract.
-/
import Derived.Test.YtceddijolfpppaaSlab
import Derived.Test.YtceddijolfpppaaUState
namespace Go.Proofs.Ytceddijolfpppaa
open Go Go.RowKit
set_option linter.unusedSimpArgs false
set_option linter.unusedVariables false
theorem best_used {k a : Nat} : ∀ (P Q : List Rn) (x : Nat) (o : Fit), (∀ r ∈ P, r.1 ≠ 1) → bestL k a (P ++ Q) x o = bestL k a Q (x + tot P) o
  | [], Q, x, o, _ => by simp [tot]
  | r :: P, Q, x, o, h => by
    simp only [List.cons_append, bestL, tot]
    rw [if_neg (fun hc => h r (List.mem_cons_self) hc.1), best_used P Q _ _ (fun r' hr' => h r' (List.mem_cons_of_mem _ hr')), Nat.add_assoc]
theorem rup_one (x : Nat) : rup x 1 = x := by unfold rup; simp
theorem cut_used {P A C : List Rn} {n m : Nat} (hu : ∀ r ∈ P, r.1 ≠ 1) (h : P ++ [(1, n)] = A ++ (1, m) :: C) : A = P ∧ C = [] ∧ m = n := by
  induction P generalizing A with
  | nil =>
    cases A with
    | nil => simp at h; exact ⟨rfl, h.2, h.1.symm⟩
    | cons a A => simp at h
  | cons r P ih =>
    cases A with
    | nil =>
      simp only [List.cons_append, List.nil_append, List.cons.injEq] at h
      exact absurd (by rw [h.1]) (hu r (List.mem_cons_self))
    | cons a A =>
      simp only [List.cons_append, List.cons.injEq] at h
      obtain ⟨h1, h2, h3⟩ := ih (fun r' hr' => hu r' (List.mem_cons_of_mem _ hr')) h.2
      exact ⟨by rw [h.1, h1], h2, h3⟩
theorem alloc_tail {P : List Rn} {n k N T : Nat} {ws0 ws ws' : List UInt64} {v : Value} {L' : List Rn} (hu : ∀ r ∈ P, r.1 ≠ 1) (hk : 1 ≤ k) (hn : k ≤ n) (hN : k ≤ N) (h : AllocSaid k 1 N T ws0 ws (P ++ [(1, n)]) v ws' L') :
    L' = P ++ (4, k) :: fr (n - k) ∧ v = .tuple #[.int .i64 ((tot P : Nat) : Int), .bool true] := by
  have hb : bestL k 1 (P ++ [(1, n)]) 0 (0, 0, 0) = (tot P, n, tot P) := by
    rw [best_used P _ _ _ hu]
    simp only [bestL, rup_one, Nat.zero_add]
    rw [if_pos ⟨trivial, by omega, .inl trivial⟩]
  rcases h with ⟨_, _, _, h4⟩ | ⟨_, _, A, C, f, r, hL, hB, hL', hv⟩
  · have := h4 (by omega) (by omega) (by omega)
    rw [show (min (1 : Int) 256).toNat = 1 by decide, Int.toNat_natCast, hb] at this
    simp only at this
    omega
  · obtain ⟨rfl, rfl, hm⟩ := cut_used hu hL
    rw [show (min (1 : Int) 256).toNat = 1 by decide, Int.toNat_natCast, hb] at hB
    simp only [Prod.mk.injEq] at hB
    obtain rfl : f = 0 := by omega
    rw [Int.toNat_natCast] at hm hL'
    refine ⟨?_, ?_⟩
    · rw [hL', fr_0, List.nil_append, List.append_nil, show n - k = r by omega]
    · rw [hv, Nat.add_zero]
theorem pw_second {a b n : Nat} {L : List Rn} (ha : a = 1) : pw ((4, a) :: (n, b) :: L) 1 = pgU n b := by
  subst ha
  simp [pw]
theorem gb_lt (N T : Nat) (hN : 1 ≤ N) : gb N T 8 = 21 + T + N ∧ gb N T 9 = 21 + T + N + N ∧ gb N T 10 = 21 + T + N + N + N ∧ gb N T 11 = 21 + T + N + N + N + N * 8 ∧ gb N T 12 = 21 + T + N + N + N + N * 8 + N * 8 ∧ gb N T 12 ≤ gb N T 19 := by
  have h7 : gb N T 8 = 21 + T + N := gb8 hN
  refine ⟨h7, ?_, ?_, ?_, ?_, gb_mono' N T 12 19 (by omega)⟩
  · rw [gb_succ, h7]; unfold gsz; simp [show N ≠ 0 by omega]
  · rw [gb_succ, gb_succ, h7]; unfold gsz; simp [show N ≠ 0 by omega]
  · rw [gb_succ, gb_succ, gb_succ, h7]; unfold gsz; simp [show N ≠ 0 by omega]
  · rw [gb_succ, gb_succ, gb_succ, gb_succ, h7]; unfold gsz; simp [show N ≠ 0 by omega]
theorem gBits_at {N T k : Nat} (hN : 1 ≤ N) (hk : k < N) : gat N T 8 k = ((21 + T + N + k : Nat) : Int) := by
  obtain ⟨h8, h9, _⟩ := gb_lt N T hN
  rw [gat_in N T 8 (by omega) (by rw [h8, h9]; omega), h8]; push_cast; rfl
theorem gState_at' {N T k : Nat} (hN : 1 ≤ N) (hk : k < N * 8) : gat N T 11 k = ((21 + T + N + N + N + N * 8 + k : Nat) : Int) := by
  obtain ⟨_, _, _, h11, _⟩ := gb_lt N T hN
  rw [gState_at hN hk, h11]
theorem gSerial_at' {N T t : Nat} (hN : 1 ≤ N) (ht : t < T) : gat N T 6 t = ((21 + t : Nat) : Int) := by
  have h6 : gb N T 6 = 21 := by unfold gb; rw [if_neg (by omega)]; simp only [gsum, gsz]
  rw [gSerial_at hN ht, h6]
structure Dt (N T : Nat) (ws : List UInt64) (kd ln cl z v : Nat) : Prop where
  pg : wAt ws (gat N T 7 (1 : Nat)) = some (pgO kd ln cl 0)
  live : wAt ws (gat N T 11 (8 : Nat)) = some (sU 1 z 0 v)
  free : ∀ j : Nat, j < 8 * N → j ≠ 8 → wAt ws (gat N T 11 j) = some 0
theorem two_acc {S : St} {a b : Ob} {me : Int} {s : Nat} {ws : List UInt64} {bs : List UInt8} : accS (S ++ [a, b]) (S.length + 1) S.length me s ws bs = S ++ [.mem ws bs, .port S.length me s] := acc_app
theorem rep_at {i n : Nat} (h : i < n) : wAt (List.replicate n (0 : UInt64)) (i : Nat) = some 0 := wAt_zeros h
theorem Pg.zero {N T : Nat} {ws : List UInt64} {P B : Nat → UInt64} (h : Pg N T (List.replicate (gb N T 19) 0) ws P B) (hN : 1 ≤ N) {i : Nat} (hi : i < gb N T 12) (h1 : i < 7 ∨ 16 ≤ i) (h2 : i < 21 + T ∨ 21 + T + N ≤ i) : wAt ws (i : Nat) = some 0 := by
  rw [h.rest i (fun x hx => by omega) (fun b hb => by omega)]
  have := (gb_lt N T hN).2.2.2.2.2
  exact rep_at (by omega)
theorem Dt.birth {N T : Nat} {ws : List UInt64} {kd ln cl z : Nat} (hN : 4 ≤ N) (hT : 1 ≤ T) (hpg : wAt ws (gat N T 7 (1 : Nat)) = some (pgO kd ln cl 0)) (hs : wAt ws (gat N T 6 (0 : Nat)) = some 0) (hz : ∀ j : Nat, j < 8 * N → wAt ws (gat N T 11 j) = some 0) :
    Dt N T (wS 2 (gat N T 11 (8 : Nat)) (sU 1 z 0 64) 0 (wS 4 (gat N T 6 (0 : Nat)) 1 0 ws)) kd ln cl z 64 := by
  have e7 := gPage_at (N := N) (T := T) (k := 1) (by omega) (by omega)
  have e6 := gSerial_at' (N := N) (T := T) (t := 0) (by omega) hT
  have e11 := fun (j : Nat) (hj : j < 8 * N) => gState_at' (N := N) (T := T) (k := j) (by omega) (by omega)
  have h8 := hz 8 (by omega)
  have hb : ∀ j : Nat, j < 8 * N → wAt (wS 4 (gat N T 6 (0 : Nat)) 1 0 ws) (gat N T 11 j) = some 0 := fun j hj => by
    rw [wAt_wS hs, if_neg (by rw [e11 j hj, e6]; omega)]; exact hz j hj
  refine ⟨?_, ?_, fun j hj hne => ?_⟩
  · rw [wAt_wS (hb 8 (by omega)), if_neg (by rw [e7, e11 8 (by omega)]; omega), wAt_wS hs, if_neg (by rw [e7, e6]; omega)]; exact hpg
  · rw [wAt_wS (hb 8 (by omega)), if_pos rfl]; rfl
  · rw [wAt_wS (hb 8 (by omega)), if_neg (by rw [e11 j hj, e11 8 (by omega)]; omega)]; exact hb j hj
theorem pgU_pgO {k n : Nat} : pgU k n = pgO k n 0 0 := by unfold pgU pgO pgN; congr 1
def blkV (a s r : Nat) : Value := .agg #[.int .i64 a, .int .i64 s, .int .i64 r]
theorem hand4 {c : Nat} {a b d e : Value} (ha : Hand c a) (hb : Hand c b) (hd : Hand c d) (he : Hand c e) : Hand c (.tuple #[a, b, d, e]) := fun F F' hs => by
  simp only [ren_tuple, List.map_toArray, List.map_cons, List.map_nil]
  rw [ha F F' hs, hb F F' hs, hd F F' hs, he F F' hs]
def roomK (k : Nat) : Nat := match k with | 0 => 8 | 1 => 16 | 2 => 24 | 3 => 32 | _ => 128
set_option maxHeartbeats 4000000 in
theorem begun17_run (S : St) (N T z : Nat) (hN1 : 4 ≤ N) (hN : N ≤ 256) (hT1 : 1 ≤ T) (hT : T ≤ 64) (hz0 : z ≤ 1000000) :
    ∃ ws st, st ≤ 2000 ∧ Dt N T ws 4 2 0 (z % 128 + 1) 64 ∧
    Does OF 76 #[.int .i64 N, .int .i64 T, .int .i64 4, .int .i64 z] [] S (.tuple #[.agg (geoC N T), hndV S.length, hndV (S.length + 2), blkV 64 (z % 128 + 1) 128]) (S ++ [.mem ws (List.replicate (64 * N) 0), .port S.length 0 st, .port S.length 0 0]) := by
  obtain ⟨w1, s1, hs1, hP1, hd1⟩ := begun10_does S N T (by omega) hN hT1 hT
  obtain ⟨v2, S2, ⟨s2, w2, L2, hs2, rfl, hP2, hA2⟩, hd2⟩ := alloc_does (S ++ [.mem w1 (List.replicate (64 * N) 0), .port S.length 0 s1]) (S.length + 1) S.length 0 s1 _ w1 (List.replicate (64 * N) 0) N T ((1 : Nat) : Int) 1 (by simp) (by simp) (by omega) (by omega) hN hT hP1 (by intro r hr; simp at hr; subst hr; exact ⟨by simp; omega, .inl rfl⟩) (by simp [tot])
  obtain ⟨rfl, rfl⟩ := alloc_tail (P := []) (by simp) (by omega) (by omega) (by omega) hA2
  rw [List.nil_append, fr_pos (by omega)] at hP2
  rw [two_acc] at hd2
  obtain ⟨v3, S3, ⟨s3, w3, L3, hs3, rfl, hP3, hA3⟩, hd3⟩ := alloc_does (S ++ [.mem w2 (List.replicate (64 * N) 0), .port S.length 0 s2]) (S.length + 1) S.length 0 s2 _ w2 (List.replicate (64 * N) 0) N T ((2 : Nat) : Int) 1 (by simp) (by simp) (by omega) (by omega) hN hT hP2 (by intro r hr; simp at hr; rcases hr with rfl | rfl; exact ⟨by simp, .inr (by simp)⟩; exact ⟨by simp; omega, .inl rfl⟩) (by simp [tot]; omega)
  obtain ⟨rfl, rfl⟩ := alloc_tail (P := [(4, 1)]) (by simp) (by omega) (by omega) (by omega) hA3
  rw [fr_pos (by omega)] at hP3
  rw [two_acc] at hd3
  have hz : ∀ j : Nat, j < 8 * N → wAt w3 (gat N T 11 j) = some 0 := fun j hj => by
    rw [gState_at' (by omega) (by omega)]
    exact hP3.zero (by omega) (by have := (gb_lt N T (by omega)).2.2.2.2.1; omega) (by omega) (by omega)
  have h6 : wAt w3 (gat N T 6 (0 : Nat)) = some 0 := by
    rw [gSerial_at' (by omega) hT1]
    exact hP3.zero (by omega) (by have := (gb_lt N T (by omega)).2.2.2.2.1; omega) (by omega) (by omega)
  have h7 : wAt w3 (gat N T 7 (1 : Nat)) = some (pgO 4 2 0 0) := by rw [hP3.pg 1 (by omega), ← pgU_pgO]; exact congrArg some (pw_second rfl)
  have hD := Dt.birth (z := z % 128 + 1) hN1 hT1 h7 h6 hz
  have hd4 := birth_does (S ++ [.mem w3 (List.replicate (64 * N) 0), .port S.length 0 s3]) (S.length + 1) S.length 0 s3 w3 (List.replicate (64 * N) 0) N T 8 (z % 128 + 1) 0 (by simp) (by simp) (by omega) hN hT h6 (by decide) (by omega) (by rw [gSerial_at' (by omega) hT1]; omega) (by rw [gState_at' (by omega) (by omega)]; omega) (by omega)
  rw [two_acc, show verN 0 0 = 64 by decide] at hd4
  refine ⟨_, s3 + 2, by omega, hD, ?_⟩
  refine Does.mk Try.func76 rfl rfl ?clo ?hand ?_
  case clo => exact clo4 iclo iclo iclo iclo
  case hand => exact hand4 ghand (hhand (by simp [OF])) (hhand (by simp [OF])) (Hand.plain (by simp [blkV, plainB]))
  rw [Try.ntmps76]; simp only [List.size_toArray, List.length_cons, List.length_nil, List.replicate, List.cons_append, List.nil_append]
  repeat (first | refine Goes.reg ?_ | refine Goes.ctl2 rfl ?_ | ((first | refine qv1 rfl rfl rfl fun K hK => ?_ | refine qv3 rfl rfl rfl fun K hK => ?_ | refine qv2 rfl rfl rfl rfl rfl rfl fun K hK => ?_ | refine qv4 rfl rfl rfl rfl rfl rfl fun K hK => ?_ | refine qn1 rfl rfl rfl fun K hK => ?_ | refine qn3 rfl rfl rfl fun K hK => ?_ | refine qt1 rfl rfl rfl fun K hK => ?_ | refine qt3 rfl rfl rfl fun K hK => ?_); simp (disch := (first | omega | (simp only [sz] <;> omega) | fail)) only [go_sem]; with_reducible refine hK _ _ ?_; clear hK K) | refine At.nil rfl ?_ | refine RG.nil rfl ?_ | ((first | refine AtL.skipg rfl rfl rfl rfl rfl ?_ | refine RGL.skipg rfl rfl rfl rfl rfl ?_ | refine AtL.skipu rfl rfl rfl rfl ?_ | refine RGL.skipu rfl rfl rfl rfl ?_); simp only [putL, List.set_cons_zero, List.set_cons_succ]) | refine Goes.yes rfl ?_ | refine Goes.no rfl ?_ | refine Goes.drawR [] (by kernel_rfl) ?_)
  ((first | refine qc1 rfl rfl fun K hK => ?_ | refine qc3 rfl rfl fun K hK => ?_); simp (disch := (first | omega | (simp only [sz] <;> omega) | fail)) only [go_sem]; refine ⟨_, _, hd1, ?_⟩; (try simp only [go_sem]); with_reducible refine hK _ _ ?_; clear hK K)
  repeat (first | refine Goes.reg ?_ | refine Goes.ctl2 rfl ?_ | ((first | refine qv1 rfl rfl rfl fun K hK => ?_ | refine qv3 rfl rfl rfl fun K hK => ?_ | refine qv2 rfl rfl rfl rfl rfl rfl fun K hK => ?_ | refine qv4 rfl rfl rfl rfl rfl rfl fun K hK => ?_ | refine qn1 rfl rfl rfl fun K hK => ?_ | refine qn3 rfl rfl rfl fun K hK => ?_ | refine qt1 rfl rfl rfl fun K hK => ?_ | refine qt3 rfl rfl rfl fun K hK => ?_); simp (disch := (first | omega | (simp only [sz] <;> omega) | fail)) only [go_sem]; with_reducible refine hK _ _ ?_; clear hK K) | refine At.nil rfl ?_ | refine RG.nil rfl ?_ | ((first | refine AtL.skipg rfl rfl rfl rfl rfl ?_ | refine RGL.skipg rfl rfl rfl rfl rfl ?_ | refine AtL.skipu rfl rfl rfl rfl ?_ | refine RGL.skipu rfl rfl rfl rfl ?_); simp only [putL, List.set_cons_zero, List.set_cons_succ]) | refine Goes.yes rfl ?_ | refine Goes.no rfl ?_ | refine Goes.drawR [] (by kernel_rfl) ?_)
  ((first | refine qc1 rfl rfl fun K hK => ?_ | refine qc3 rfl rfl fun K hK => ?_); simp (disch := (first | omega | (simp only [sz] <;> omega) | fail)) only [go_sem]; refine ⟨_, _, hd2, ?_⟩; (try simp only [go_sem]); with_reducible refine hK _ _ ?_; clear hK K)
  repeat (first | refine Goes.reg ?_ | refine Goes.ctl2 rfl ?_ | ((first | refine qv1 rfl rfl rfl fun K hK => ?_ | refine qv3 rfl rfl rfl fun K hK => ?_ | refine qv2 rfl rfl rfl rfl rfl rfl fun K hK => ?_ | refine qv4 rfl rfl rfl rfl rfl rfl fun K hK => ?_ | refine qn1 rfl rfl rfl fun K hK => ?_ | refine qn3 rfl rfl rfl fun K hK => ?_ | refine qt1 rfl rfl rfl fun K hK => ?_ | refine qt3 rfl rfl rfl fun K hK => ?_); simp (disch := (first | omega | (simp only [sz] <;> omega) | fail)) only [go_sem]; with_reducible refine hK _ _ ?_; clear hK K) | refine At.nil rfl ?_ | refine RG.nil rfl ?_ | ((first | refine AtL.skipg rfl rfl rfl rfl rfl ?_ | refine RGL.skipg rfl rfl rfl rfl rfl ?_ | refine AtL.skipu rfl rfl rfl rfl ?_ | refine RGL.skipu rfl rfl rfl rfl ?_); simp only [putL, List.set_cons_zero, List.set_cons_succ]) | refine Goes.yes rfl ?_ | refine Goes.no rfl ?_ | refine Goes.drawR [] (by kernel_rfl) ?_)
  ((first | refine qc1 rfl rfl fun K hK => ?_ | refine qc3 rfl rfl fun K hK => ?_); simp (disch := (first | omega | (simp only [sz] <;> omega) | fail)) only [go_sem]; refine ⟨_, _, hd3, ?_⟩; (try simp only [go_sem]); with_reducible refine hK _ _ ?_; clear hK K)
  have e1 : (z : Int).tmod 128 = ((z % 128 : Nat) : Int) := tmod_n z 128
  repeat (first | refine Goes.reg ?_ | refine Goes.ctl2 rfl ?_ | ((first | refine qv1 rfl rfl rfl fun K hK => ?_ | refine qv3 rfl rfl rfl fun K hK => ?_ | refine qv2 rfl rfl rfl rfl rfl rfl fun K hK => ?_ | refine qv4 rfl rfl rfl rfl rfl rfl fun K hK => ?_ | refine qn1 rfl rfl rfl fun K hK => ?_ | refine qn3 rfl rfl rfl fun K hK => ?_ | refine qt1 rfl rfl rfl fun K hK => ?_ | refine qt3 rfl rfl rfl fun K hK => ?_); simp (disch := (first | omega | (simp only [sz] <;> omega) | fail)) only [go_sem, e1]; with_reducible refine hK _ _ ?_; clear hK K) | refine At.nil rfl ?_ | refine RG.nil rfl ?_ | ((first | refine AtL.skipg rfl rfl rfl rfl rfl ?_ | refine RGL.skipg rfl rfl rfl rfl rfl ?_ | refine AtL.skipu rfl rfl rfl rfl ?_ | refine RGL.skipu rfl rfl rfl rfl ?_); simp only [putL, List.set_cons_zero, List.set_cons_succ]) | refine Goes.yes rfl ?_ | refine Goes.no rfl ?_ | refine Goes.drawR [] (by kernel_rfl) ?_)
  ((first | refine qc1 rfl rfl fun K hK => ?_ | refine qc3 rfl rfl fun K hK => ?_); simp (disch := (first | omega | (simp only [sz] <;> omega) | fail)) only [go_sem]; refine ⟨_, _, hd4, ?_⟩; (try simp only [go_sem]); with_reducible refine hK _ _ ?_; clear hK K)
  repeat (first | refine Goes.reg ?_ | refine Goes.ctl2 rfl ?_ | ((first | refine qv1 rfl rfl rfl fun K hK => ?_ | refine qv3 rfl rfl rfl fun K hK => ?_ | refine qv2 rfl rfl rfl rfl rfl rfl fun K hK => ?_ | refine qv4 rfl rfl rfl rfl rfl rfl fun K hK => ?_); simp (disch := (first | omega | (simp only [sz] <;> omega) | fail)) only [go_sem]; with_reducible refine hK _ _ ?_; clear hK K) | refine At.nil rfl ?_ | refine RG.nil rfl ?_ | ((first | refine AtL.skipg rfl rfl rfl rfl rfl ?_ | refine RGL.skipg rfl rfl rfl rfl rfl ?_ | refine AtL.skipu rfl rfl rfl rfl ?_ | refine RGL.skipu rfl rfl rfl rfl ?_); simp only [putL, List.set_cons_zero, List.set_cons_succ]) | refine Goes.yes rfl ?_ | refine Goes.no rfl ?_)
  refine Goes.drawN [1000004] [3] (by kernel_rfl) (by first | exact heapL_low _ | exact gap_low _ _ _) ?_
  repeat (first | refine Goes.reg ?_ | refine Goes.ctl2 rfl ?_ | ((first | refine qv1 rfl rfl rfl fun K hK => ?_ | refine qv3 rfl rfl rfl fun K hK => ?_ | refine qv2 rfl rfl rfl rfl rfl rfl fun K hK => ?_ | refine qv4 rfl rfl rfl rfl rfl rfl fun K hK => ?_ | refine qn1 rfl rfl rfl fun K hK => ?_ | refine qn3 rfl rfl rfl fun K hK => ?_ | refine qt1 rfl rfl rfl fun K hK => ?_ | refine qt3 rfl rfl rfl fun K hK => ?_); simp (disch := (first | omega | (simp only [sz] <;> omega) | fail)) only [go_sem]; with_reducible refine hK _ _ ?_; clear hK K) | refine At.nil rfl ?_ | refine RG.nil rfl ?_ | ((first | refine AtL.skipg rfl rfl rfl rfl rfl ?_ | refine RGL.skipg rfl rfl rfl rfl rfl ?_ | refine AtL.skipu rfl rfl rfl rfl ?_ | refine RGL.skipu rfl rfl rfl rfl ?_); simp only [putL, List.set_cons_zero, List.set_cons_succ]) | refine Goes.yes rfl ?_ | refine Goes.no rfl ?_ | refine Goes.drawR [] (by kernel_rfl) ?_)
  ((first | refine qp1 rfl rfl fun K hK => ?_ | refine qp3 rfl rfl fun K hK => ?_); simp (disch := (first | omega | (simp only [sz] <;> omega) | fail)) only [go_sem]; refine ⟨_, _, .pnew (m := S.length) (me := 0) (ws := (wS 2 (gat N T 11 (8 : Nat)) (sU 1 (z % 128 + 1) 0 64) 0 (wS 4 (gat N T 6 (0 : Nat)) 1 0 w3))) (bs := List.replicate (64 * N) 0) (by simp), ?_⟩; (try simp only [go_sem]); with_reducible refine hK _ _ ?_; clear hK K)
  rw [three_app, three_len]
  repeat (first | refine Goes.reg ?_ | refine Goes.ctl2 rfl ?_ | ((first | refine qv1 rfl rfl rfl fun K hK => ?_ | refine qv3 rfl rfl rfl fun K hK => ?_ | refine qv2 rfl rfl rfl rfl rfl rfl fun K hK => ?_ | refine qv4 rfl rfl rfl rfl rfl rfl fun K hK => ?_ | refine qn1 rfl rfl rfl fun K hK => ?_ | refine qn3 rfl rfl rfl fun K hK => ?_ | refine qt1 rfl rfl rfl fun K hK => ?_ | refine qt3 rfl rfl rfl fun K hK => ?_); simp (disch := (first | omega | (simp only [sz] <;> omega) | fail)) only [go_sem]; with_reducible refine hK _ _ ?_; clear hK K) | refine At.nil rfl ?_ | refine RG.nil rfl ?_ | ((first | refine AtL.skipg rfl rfl rfl rfl rfl ?_ | refine RGL.skipg rfl rfl rfl rfl rfl ?_ | refine AtL.skipu rfl rfl rfl rfl ?_ | refine RGL.skipu rfl rfl rfl rfl ?_); simp only [putL, List.set_cons_zero, List.set_cons_succ]) | refine Goes.yes rfl ?_ | refine Goes.no rfl ?_ | refine Goes.drawR [] (by kernel_rfl) ?_)
  (refine RGF.fark rfl rfl fun K hK => ?_; simp (disch := (first | omega | (simp only [sz] <;> omega) | fail)) only [go_sem]; with_reducible refine hK _ _ ?_; clear hK K)
  (refine RGF.storef rfl rfl rfl (fun K hK => ?_) (by rfl); simp (disch := (first | omega | (simp only [sz] <;> omega) | fail)) only [go_sem]; with_reducible refine hK _ _ ?_; clear hK K)
  repeat (first | refine Goes.reg ?_ | refine Goes.ctl2 rfl ?_ | ((first | refine qv1 rfl rfl rfl fun K hK => ?_ | refine qv3 rfl rfl rfl fun K hK => ?_ | refine qv2 rfl rfl rfl rfl rfl rfl fun K hK => ?_ | refine qv4 rfl rfl rfl rfl rfl rfl fun K hK => ?_ | refine qn1 rfl rfl rfl fun K hK => ?_ | refine qn3 rfl rfl rfl fun K hK => ?_ | refine qt1 rfl rfl rfl fun K hK => ?_ | refine qt3 rfl rfl rfl fun K hK => ?_); simp (disch := (first | omega | (simp only [sz] <;> omega) | fail)) only [go_sem]; with_reducible refine hK _ _ ?_; clear hK K) | refine At.nil rfl ?_ | refine RG.nil rfl ?_ | ((first | refine AtL.skipg rfl rfl rfl rfl rfl ?_ | refine RGL.skipg rfl rfl rfl rfl rfl ?_ | refine AtL.skipu rfl rfl rfl rfl ?_ | refine RGL.skipu rfl rfl rfl rfl ?_); simp only [putL, List.set_cons_zero, List.set_cons_succ]) | refine Goes.yes rfl ?_ | refine Goes.no rfl ?_ | refine Goes.drawR [] (by kernel_rfl) ?_)
  (refine RGF.storef rfl rfl rfl (fun K hK => ?_) (by rfl); simp (disch := (first | omega | (simp only [sz] <;> omega) | fail)) only [go_sem]; with_reducible refine hK _ _ ?_; clear hK K)
  repeat (first | refine Goes.reg ?_ | refine Goes.ctl2 rfl ?_ | ((first | refine qv1 rfl rfl rfl fun K hK => ?_ | refine qv3 rfl rfl rfl fun K hK => ?_ | refine qv2 rfl rfl rfl rfl rfl rfl fun K hK => ?_ | refine qv4 rfl rfl rfl rfl rfl rfl fun K hK => ?_ | refine qn1 rfl rfl rfl fun K hK => ?_ | refine qn3 rfl rfl rfl fun K hK => ?_ | refine qt1 rfl rfl rfl fun K hK => ?_ | refine qt3 rfl rfl rfl fun K hK => ?_); simp (disch := (first | omega | (simp only [sz] <;> omega) | fail)) only [go_sem]; with_reducible refine hK _ _ ?_; clear hK K) | refine At.nil rfl ?_ | refine RG.nil rfl ?_ | ((first | refine AtL.skipg rfl rfl rfl rfl rfl ?_ | refine RGL.skipg rfl rfl rfl rfl rfl ?_ | refine AtL.skipu rfl rfl rfl rfl ?_ | refine RGL.skipu rfl rfl rfl rfl ?_); simp only [putL, List.set_cons_zero, List.set_cons_succ]) | refine Goes.yes rfl ?_ | refine Goes.no rfl ?_ | refine Goes.drawR [] (by kernel_rfl) ?_)
  refine Goes.fin rfl (by simp (disch := (first | omega | (simp only [heapL_next, List.length_cons, List.length_nil, List.size_toArray, geo_len] <;> omega) | fail)) only [go_sem, resA, res1A, Try.results76] <;> rfl) ?_
  rfl
theorem size06_does (S : St) (k : Nat) (hk : k < 4) : Does OF 129 #[.int .i64 k] [] S (.int .i64 (roomK k)) S := by
  obtain rfl | rfl | rfl | rfl : k = 0 ∨ k = 1 ∨ k = 2 ∨ k = 3 := by omega
  all_goals
    refine Does.mk Try.func129 rfl rfl ?clo ?hand ?_
    case clo => exact clo1 iclo
    case hand => exact Hand.plain rfl
    rw [Try.ntmps129]; simp only [List.size_toArray, List.length_cons, List.length_nil, List.replicate, List.cons_append, List.nil_append]
    repeat (first | refine Goes.reg ?_ | refine Goes.ctl2 rfl ?_ | ((first | refine qv1 rfl rfl rfl fun K hK => ?_ | refine qv3 rfl rfl rfl fun K hK => ?_ | refine qv2 rfl rfl rfl rfl rfl rfl fun K hK => ?_ | refine qv4 rfl rfl rfl rfl rfl rfl fun K hK => ?_ | refine qn1 rfl rfl rfl fun K hK => ?_ | refine qn3 rfl rfl rfl fun K hK => ?_ | refine qt1 rfl rfl rfl fun K hK => ?_ | refine qt3 rfl rfl rfl fun K hK => ?_); simp (disch := (first | omega | (simp only [sz] <;> omega) | fail)) only [go_sem]; with_reducible refine hK _ _ ?_; clear hK K) | refine At.nil rfl ?_ | refine RG.nil rfl ?_ | ((first | refine AtL.skipg rfl rfl rfl rfl rfl ?_ | refine RGL.skipg rfl rfl rfl rfl rfl ?_ | refine AtL.skipu rfl rfl rfl rfl ?_ | refine RGL.skipu rfl rfl rfl rfl ?_); simp only [putL, List.set_cons_zero, List.set_cons_succ]) | refine Goes.yes rfl ?_ | refine Goes.no rfl ?_ | refine Goes.drawR [] (by kernel_rfl) ?_)
    refine Goes.fin rfl (by simp (disch := (first | omega | (simp only [heapL_next, List.length_cons, List.length_nil, List.size_toArray, geo_len] <;> omega) | fail)) only [go_sem, resA, res1A, Try.results129] <;> rfl) ?_
    rfl
set_option maxHeartbeats 4000000 in
theorem begun17_class (S : St) (N T z k : Nat) (hk : k < 4) (hN1 : 4 ≤ N) (hN : N ≤ 256) (hT1 : 1 ≤ T) (hT : T ≤ 64) (hz0 : z ≤ 1000000) :
    ∃ ws st, st ≤ 2000 ∧ Dt N T ws 3 1 k (z % roomK k + 1) 64 ∧
    Does OF 76 #[.int .i64 N, .int .i64 T, .int .i64 k, .int .i64 z] [] S (.tuple #[.agg (geoC N T), hndV S.length, hndV (S.length + 2), blkV 64 (z % roomK k + 1) (roomK k)]) (S ++ [.mem ws (List.replicate (64 * N) 0), .port S.length 0 st, .port S.length 0 0]) := by
  have hrk : 1 ≤ roomK k ∧ roomK k ≤ 32 := by obtain rfl | rfl | rfl | rfl : k = 0 ∨ k = 1 ∨ k = 2 ∨ k = 3 := by omega
                                              all_goals decide
  have hzm : z % roomK k < roomK k := Nat.mod_lt _ hrk.1
  obtain ⟨w1, s1, hs1, hP1, hd1⟩ := begun10_does S N T (by omega) hN hT1 hT
  obtain ⟨v2, S2, ⟨s2, w2, L2, hs2, rfl, hP2, hA2⟩, hd2⟩ := alloc_does (S ++ [.mem w1 (List.replicate (64 * N) 0), .port S.length 0 s1]) (S.length + 1) S.length 0 s1 _ w1 (List.replicate (64 * N) 0) N T ((1 : Nat) : Int) 1 (by simp) (by simp) (by omega) (by omega) hN hT hP1 (by intro r hr; simp at hr; subst hr; exact ⟨by simp; omega, .inl rfl⟩) (by simp [tot])
  obtain ⟨rfl, rfl⟩ := alloc_tail (P := []) (by simp) (by omega) (by omega) (by omega) hA2
  rw [List.nil_append, fr_pos (by omega)] at hP2
  rw [two_acc] at hd2
  obtain ⟨v3, S3, ⟨s3, w3, L3, hs3, rfl, hP3, hA3⟩, hd3⟩ := alloc_does (S ++ [.mem w2 (List.replicate (64 * N) 0), .port S.length 0 s2]) (S.length + 1) S.length 0 s2 _ w2 (List.replicate (64 * N) 0) N T ((1 : Nat) : Int) 1 (by simp) (by simp) (by omega) (by omega) hN hT hP2 (by intro r hr; simp at hr; rcases hr with rfl | rfl; exact ⟨by simp, .inr (by simp)⟩; exact ⟨by simp; omega, .inl rfl⟩) (by simp [tot]; omega)
  obtain ⟨rfl, rfl⟩ := alloc_tail (P := [(4, 1)]) (by simp) (by omega) (by omega) (by omega) hA3
  rw [fr_pos (by omega)] at hP3
  rw [two_acc] at hd3
  have hz1 : ∀ i : Nat, i < gb N T 12 → (i < 7 ∨ 16 ≤ i) → (i < 21 + T ∨ 21 + T + N ≤ i) → wAt w3 (i : Nat) = some 0 := fun i h1 h2 h3 => hP3.zero (by omega) h1 h2 h3
  have h12 := (gb_lt N T (by omega)).2.2.2.2.1
  have e7 := gPage_at (N := N) (T := T) (k := 1) (by omega) (by omega)
  have e8 := gBits_at (N := N) (T := T) (k := 1) (by omega) (by omega)
  have e6 := gSerial_at' (N := N) (T := T) (t := 0) (by omega) hT1
  have e11 := fun (j : Nat) (hj : j < 8 * N) => gState_at' (N := N) (T := T) (k := j) (by omega) (by omega)
  have g7 := hP3.pg 1 (by omega)
  have g8 : wAt (wS 2 (gat N T 7 (1 : Nat)) (pgO 3 1 k 0) 0 w3) (gat N T 8 (1 : Nat)) = some 0 := by
    rw [wAt_wS g7, if_neg (by rw [e7, e8]; omega), e8]; exact hz1 _ (by omega) (by omega) (by omega)
  have hr : ∀ i : Int, i ≠ gat N T 7 (1 : Nat) → i ≠ gat N T 8 (1 : Nat) → wAt (wS 2 (gat N T 8 (1 : Nat)) (btU (mapK k) true k 1) 0 (wS 2 (gat N T 7 (1 : Nat)) (pgO 3 1 k 0) 0 w3)) i = wAt w3 i := fun i h1 h2 => by
    rw [wAt_wS g8, if_neg h2, wAt_wS g7, if_neg h1]
  have h7 : wAt (wS 2 (gat N T 8 (1 : Nat)) (btU (mapK k) true k 1) 0 (wS 2 (gat N T 7 (1 : Nat)) (pgO 3 1 k 0) 0 w3)) (gat N T 7 (1 : Nat)) = some (pgO 3 1 k 0) := by
    rw [wAt_wS g8, if_neg (by rw [e7, e8]; omega), wAt_wS g7, if_pos rfl]; rfl
  have h6 : wAt (wS 2 (gat N T 8 (1 : Nat)) (btU (mapK k) true k 1) 0 (wS 2 (gat N T 7 (1 : Nat)) (pgO 3 1 k 0) 0 w3)) (gat N T 6 (0 : Nat)) = some 0 := by
    rw [hr _ (by rw [e6, e7]; omega) (by rw [e6, e8]; omega), e6]; exact hz1 _ (by omega) (by omega) (by omega)
  have hz : ∀ j : Nat, j < 8 * N → wAt (wS 2 (gat N T 8 (1 : Nat)) (btU (mapK k) true k 1) 0 (wS 2 (gat N T 7 (1 : Nat)) (pgO 3 1 k 0) 0 w3)) (gat N T 11 j) = some 0 := fun j hj => by
    rw [hr _ (by rw [e11 j hj, e7]; omega) (by rw [e11 j hj, e8]; omega), e11 j hj]; exact hz1 _ (by omega) (by omega) (by omega)
  have hD := Dt.birth (z := z % roomK k + 1) hN1 hT1 h7 h6 hz
  have hdm := make_does (S ++ [.mem w3 (List.replicate (64 * N) 0), .port S.length 0 s3]) (S.length + 1) S.length 0 s3 w3 (List.replicate (64 * N) 0) N T 1 k 0 (by simp) (by simp) (by omega) (by omega) hN hT (by decide) (by omega) hk g8 (by decide)
  rw [two_acc, show (0 : UInt64).toNat / 2 ^ 32 % 2 ^ 32 + 1 = 1 by decide] at hdm
  have hd4 := birth_does (S ++ [.mem (wS 2 (gat N T 8 (1 : Nat)) (btU (mapK k) true k 1) 0 (wS 2 (gat N T 7 (1 : Nat)) (pgO 3 1 k 0) 0 w3)) (List.replicate (64 * N) 0), .port S.length 0 (s3 + 3)]) (S.length + 1) S.length 0 (s3 + 3) _ (List.replicate (64 * N) 0) N T 8 (z % roomK k + 1) 0 (by simp) (by simp) (by omega) hN hT h6 (by decide) (by omega) (by rw [gSerial_at' (by omega) hT1]; omega) (by rw [gState_at' (by omega) (by omega)]; omega) (by omega)
  rw [two_acc, show verN 0 0 = 64 by decide] at hd4
  refine ⟨_, s3 + 5, by omega, hD, ?_⟩
  refine Does.mk Try.func76 rfl rfl ?clo ?hand ?_
  case clo => exact clo4 iclo iclo iclo iclo
  case hand => exact hand4 ghand (hhand (by simp [OF])) (hhand (by simp [OF])) (Hand.plain (by simp [blkV, plainB]))
  rw [Try.ntmps76]; simp only [List.size_toArray, List.length_cons, List.length_nil, List.replicate, List.cons_append, List.nil_append]
  repeat (first | refine Goes.reg ?_ | refine Goes.ctl2 rfl ?_ | ((first | refine qv1 rfl rfl rfl fun K hK => ?_ | refine qv3 rfl rfl rfl fun K hK => ?_ | refine qv2 rfl rfl rfl rfl rfl rfl fun K hK => ?_ | refine qv4 rfl rfl rfl rfl rfl rfl fun K hK => ?_ | refine qn1 rfl rfl rfl fun K hK => ?_ | refine qn3 rfl rfl rfl fun K hK => ?_ | refine qt1 rfl rfl rfl fun K hK => ?_ | refine qt3 rfl rfl rfl fun K hK => ?_); simp (disch := (first | omega | (simp only [sz] <;> omega) | fail)) only [go_sem]; with_reducible refine hK _ _ ?_; clear hK K) | refine At.nil rfl ?_ | refine RG.nil rfl ?_ | ((first | refine AtL.skipg rfl rfl rfl rfl rfl ?_ | refine RGL.skipg rfl rfl rfl rfl rfl ?_ | refine AtL.skipu rfl rfl rfl rfl ?_ | refine RGL.skipu rfl rfl rfl rfl ?_); simp only [putL, List.set_cons_zero, List.set_cons_succ]) | refine Goes.yes rfl ?_ | refine Goes.no rfl ?_ | refine Goes.drawR [] (by kernel_rfl) ?_)
  ((first | refine qc1 rfl rfl fun K hK => ?_ | refine qc3 rfl rfl fun K hK => ?_); simp (disch := (first | omega | (simp only [sz] <;> omega) | fail)) only [go_sem]; refine ⟨_, _, hd1, ?_⟩; (try simp only [go_sem]); with_reducible refine hK _ _ ?_; clear hK K)
  repeat (first | refine Goes.reg ?_ | refine Goes.ctl2 rfl ?_ | ((first | refine qv1 rfl rfl rfl fun K hK => ?_ | refine qv3 rfl rfl rfl fun K hK => ?_ | refine qv2 rfl rfl rfl rfl rfl rfl fun K hK => ?_ | refine qv4 rfl rfl rfl rfl rfl rfl fun K hK => ?_ | refine qn1 rfl rfl rfl fun K hK => ?_ | refine qn3 rfl rfl rfl fun K hK => ?_ | refine qt1 rfl rfl rfl fun K hK => ?_ | refine qt3 rfl rfl rfl fun K hK => ?_); simp (disch := (first | omega | (simp only [sz] <;> omega) | fail)) only [go_sem]; with_reducible refine hK _ _ ?_; clear hK K) | refine At.nil rfl ?_ | refine RG.nil rfl ?_ | ((first | refine AtL.skipg rfl rfl rfl rfl rfl ?_ | refine RGL.skipg rfl rfl rfl rfl rfl ?_ | refine AtL.skipu rfl rfl rfl rfl ?_ | refine RGL.skipu rfl rfl rfl rfl ?_); simp only [putL, List.set_cons_zero, List.set_cons_succ]) | refine Goes.yes rfl ?_ | refine Goes.no rfl ?_ | refine Goes.drawR [] (by kernel_rfl) ?_)
  ((first | refine qc1 rfl rfl fun K hK => ?_ | refine qc3 rfl rfl fun K hK => ?_); simp (disch := (first | omega | (simp only [sz] <;> omega) | fail)) only [go_sem]; refine ⟨_, _, hd2, ?_⟩; (try simp only [go_sem]); with_reducible refine hK _ _ ?_; clear hK K)
  repeat (first | refine Goes.reg ?_ | refine Goes.ctl2 rfl ?_ | ((first | refine qv1 rfl rfl rfl fun K hK => ?_ | refine qv3 rfl rfl rfl fun K hK => ?_ | refine qv2 rfl rfl rfl rfl rfl rfl fun K hK => ?_ | refine qv4 rfl rfl rfl rfl rfl rfl fun K hK => ?_ | refine qn1 rfl rfl rfl fun K hK => ?_ | refine qn3 rfl rfl rfl fun K hK => ?_ | refine qt1 rfl rfl rfl fun K hK => ?_ | refine qt3 rfl rfl rfl fun K hK => ?_); simp (disch := (first | omega | (simp only [sz] <;> omega) | fail)) only [go_sem]; with_reducible refine hK _ _ ?_; clear hK K) | refine At.nil rfl ?_ | refine RG.nil rfl ?_ | ((first | refine AtL.skipg rfl rfl rfl rfl rfl ?_ | refine RGL.skipg rfl rfl rfl rfl rfl ?_ | refine AtL.skipu rfl rfl rfl rfl ?_ | refine RGL.skipu rfl rfl rfl rfl ?_); simp only [putL, List.set_cons_zero, List.set_cons_succ]) | refine Goes.yes rfl ?_ | refine Goes.no rfl ?_ | refine Goes.drawR [] (by kernel_rfl) ?_)
  ((first | refine qc1 rfl rfl fun K hK => ?_ | refine qc3 rfl rfl fun K hK => ?_); simp (disch := (first | omega | (simp only [sz] <;> omega) | fail)) only [go_sem]; refine ⟨_, _, hd3, ?_⟩; (try simp only [go_sem]); with_reducible refine hK _ _ ?_; clear hK K)
  repeat (first | refine Goes.reg ?_ | refine Goes.ctl2 rfl ?_ | ((first | refine qv1 rfl rfl rfl fun K hK => ?_ | refine qv3 rfl rfl rfl fun K hK => ?_ | refine qv2 rfl rfl rfl rfl rfl rfl fun K hK => ?_ | refine qv4 rfl rfl rfl rfl rfl rfl fun K hK => ?_ | refine qn1 rfl rfl rfl fun K hK => ?_ | refine qn3 rfl rfl rfl fun K hK => ?_ | refine qt1 rfl rfl rfl fun K hK => ?_ | refine qt3 rfl rfl rfl fun K hK => ?_); simp (disch := (first | omega | (simp only [sz] <;> omega) | fail)) only [go_sem]; with_reducible refine hK _ _ ?_; clear hK K) | refine At.nil rfl ?_ | refine RG.nil rfl ?_ | ((first | refine AtL.skipg rfl rfl rfl rfl rfl ?_ | refine RGL.skipg rfl rfl rfl rfl rfl ?_ | refine AtL.skipu rfl rfl rfl rfl ?_ | refine RGL.skipu rfl rfl rfl rfl ?_); simp only [putL, List.set_cons_zero, List.set_cons_succ]) | refine Goes.yes rfl ?_ | refine Goes.no rfl ?_ | refine Goes.drawR [] (by kernel_rfl) ?_)
  ((first | refine qc1 rfl rfl fun K hK => ?_ | refine qc3 rfl rfl fun K hK => ?_); simp (disch := (first | omega | (simp only [sz] <;> omega) | fail)) only [go_sem]; refine ⟨_, _, hdm, ?_⟩; (try simp only [go_sem]); with_reducible refine hK _ _ ?_; clear hK K)
  repeat (first | refine Goes.reg ?_ | refine Goes.ctl2 rfl ?_ | ((first | refine qv1 rfl rfl rfl fun K hK => ?_ | refine qv3 rfl rfl rfl fun K hK => ?_ | refine qv2 rfl rfl rfl rfl rfl rfl fun K hK => ?_ | refine qv4 rfl rfl rfl rfl rfl rfl fun K hK => ?_ | refine qn1 rfl rfl rfl fun K hK => ?_ | refine qn3 rfl rfl rfl fun K hK => ?_ | refine qt1 rfl rfl rfl fun K hK => ?_ | refine qt3 rfl rfl rfl fun K hK => ?_); simp (disch := (first | omega | (simp only [sz] <;> omega) | fail)) only [go_sem]; with_reducible refine hK _ _ ?_; clear hK K) | refine At.nil rfl ?_ | refine RG.nil rfl ?_ | ((first | refine AtL.skipg rfl rfl rfl rfl rfl ?_ | refine RGL.skipg rfl rfl rfl rfl rfl ?_ | refine AtL.skipu rfl rfl rfl rfl ?_ | refine RGL.skipu rfl rfl rfl rfl ?_); simp only [putL, List.set_cons_zero, List.set_cons_succ]) | refine Goes.yes rfl ?_ | refine Goes.no rfl ?_ | refine Goes.drawR [] (by kernel_rfl) ?_)
  ((first | refine qc1 rfl rfl fun K hK => ?_ | refine qc3 rfl rfl fun K hK => ?_); simp (disch := (first | omega | (simp only [sz] <;> omega) | fail)) only [go_sem]; refine ⟨_, _, size06_does _ k hk, ?_⟩; (try simp only [go_sem]); with_reducible refine hK _ _ ?_; clear hK K)
  have e1 : (z : Int).tmod (roomK k : Int) = ((z % roomK k : Nat) : Int) := tmod_n z _
  repeat (first | refine Goes.reg ?_ | refine Goes.ctl2 rfl ?_ | ((first | refine qv1 rfl rfl rfl fun K hK => ?_ | refine qv3 rfl rfl rfl fun K hK => ?_ | refine qv2 rfl rfl rfl rfl rfl rfl fun K hK => ?_ | refine qv4 rfl rfl rfl rfl rfl rfl fun K hK => ?_ | refine qn1 rfl rfl rfl fun K hK => ?_ | refine qn3 rfl rfl rfl fun K hK => ?_ | refine qt1 rfl rfl rfl fun K hK => ?_ | refine qt3 rfl rfl rfl fun K hK => ?_); simp (disch := (first | omega | (simp only [sz] <;> omega) | fail)) only [go_sem, e1]; with_reducible refine hK _ _ ?_; clear hK K) | refine At.nil rfl ?_ | refine RG.nil rfl ?_ | ((first | refine AtL.skipg rfl rfl rfl rfl rfl ?_ | refine RGL.skipg rfl rfl rfl rfl rfl ?_ | refine AtL.skipu rfl rfl rfl rfl ?_ | refine RGL.skipu rfl rfl rfl rfl ?_); simp only [putL, List.set_cons_zero, List.set_cons_succ]) | refine Goes.yes rfl ?_ | refine Goes.no rfl ?_ | refine Goes.drawR [] (by kernel_rfl) ?_)
  ((first | refine qc1 rfl rfl fun K hK => ?_ | refine qc3 rfl rfl fun K hK => ?_); simp (disch := (first | omega | (simp only [sz] <;> omega) | fail)) only [go_sem]; refine ⟨_, _, hd4, ?_⟩; (try simp only [go_sem]); with_reducible refine hK _ _ ?_; clear hK K)
  repeat (first | refine Goes.reg ?_ | refine Goes.ctl2 rfl ?_ | ((first | refine qv1 rfl rfl rfl fun K hK => ?_ | refine qv3 rfl rfl rfl fun K hK => ?_ | refine qv2 rfl rfl rfl rfl rfl rfl fun K hK => ?_ | refine qv4 rfl rfl rfl rfl rfl rfl fun K hK => ?_); simp (disch := (first | omega | (simp only [sz] <;> omega) | fail)) only [go_sem]; with_reducible refine hK _ _ ?_; clear hK K) | refine At.nil rfl ?_ | refine RG.nil rfl ?_ | ((first | refine AtL.skipg rfl rfl rfl rfl rfl ?_ | refine RGL.skipg rfl rfl rfl rfl rfl ?_ | refine AtL.skipu rfl rfl rfl rfl ?_ | refine RGL.skipu rfl rfl rfl rfl ?_); simp only [putL, List.set_cons_zero, List.set_cons_succ]) | refine Goes.yes rfl ?_ | refine Goes.no rfl ?_)
  refine Goes.drawN [1000004] [3] (by kernel_rfl) (by first | exact heapL_low _ | exact gap_low _ _ _) ?_
  repeat (first | refine Goes.reg ?_ | refine Goes.ctl2 rfl ?_ | ((first | refine qv1 rfl rfl rfl fun K hK => ?_ | refine qv3 rfl rfl rfl fun K hK => ?_ | refine qv2 rfl rfl rfl rfl rfl rfl fun K hK => ?_ | refine qv4 rfl rfl rfl rfl rfl rfl fun K hK => ?_ | refine qn1 rfl rfl rfl fun K hK => ?_ | refine qn3 rfl rfl rfl fun K hK => ?_ | refine qt1 rfl rfl rfl fun K hK => ?_ | refine qt3 rfl rfl rfl fun K hK => ?_); simp (disch := (first | omega | (simp only [sz] <;> omega) | fail)) only [go_sem]; with_reducible refine hK _ _ ?_; clear hK K) | refine At.nil rfl ?_ | refine RG.nil rfl ?_ | ((first | refine AtL.skipg rfl rfl rfl rfl rfl ?_ | refine RGL.skipg rfl rfl rfl rfl rfl ?_ | refine AtL.skipu rfl rfl rfl rfl ?_ | refine RGL.skipu rfl rfl rfl rfl ?_); simp only [putL, List.set_cons_zero, List.set_cons_succ]) | refine Goes.yes rfl ?_ | refine Goes.no rfl ?_ | refine Goes.drawR [] (by kernel_rfl) ?_)
  ((first | refine qp1 rfl rfl fun K hK => ?_ | refine qp3 rfl rfl fun K hK => ?_); simp (disch := (first | omega | (simp only [sz] <;> omega) | fail)) only [go_sem]; refine ⟨_, _, .pnew (m := S.length) (me := 0) (ws := (wS 2 (gat N T 11 (8 : Nat)) (sU 1 (z % roomK k + 1) 0 64) 0 (wS 4 (gat N T 6 (0 : Nat)) 1 0 (wS 2 (gat N T 8 (1 : Nat)) (btU (mapK k) true k 1) 0 (wS 2 (gat N T 7 (1 : Nat)) (pgO 3 1 k 0) 0 w3))))) (bs := List.replicate (64 * N) 0) (by simp), ?_⟩; (try simp only [go_sem]); with_reducible refine hK _ _ ?_; clear hK K)
  rw [three_app, three_len]
  repeat (first | refine Goes.reg ?_ | refine Goes.ctl2 rfl ?_ | ((first | refine qv1 rfl rfl rfl fun K hK => ?_ | refine qv3 rfl rfl rfl fun K hK => ?_ | refine qv2 rfl rfl rfl rfl rfl rfl fun K hK => ?_ | refine qv4 rfl rfl rfl rfl rfl rfl fun K hK => ?_ | refine qn1 rfl rfl rfl fun K hK => ?_ | refine qn3 rfl rfl rfl fun K hK => ?_ | refine qt1 rfl rfl rfl fun K hK => ?_ | refine qt3 rfl rfl rfl fun K hK => ?_); simp (disch := (first | omega | (simp only [sz] <;> omega) | fail)) only [go_sem]; with_reducible refine hK _ _ ?_; clear hK K) | refine At.nil rfl ?_ | refine RG.nil rfl ?_ | ((first | refine AtL.skipg rfl rfl rfl rfl rfl ?_ | refine RGL.skipg rfl rfl rfl rfl rfl ?_ | refine AtL.skipu rfl rfl rfl rfl ?_ | refine RGL.skipu rfl rfl rfl rfl ?_); simp only [putL, List.set_cons_zero, List.set_cons_succ]) | refine Goes.yes rfl ?_ | refine Goes.no rfl ?_ | refine Goes.drawR [] (by kernel_rfl) ?_)
  (refine RGF.fark rfl rfl fun K hK => ?_; simp (disch := (first | omega | (simp only [sz] <;> omega) | fail)) only [go_sem]; with_reducible refine hK _ _ ?_; clear hK K)
  (refine RGF.storef rfl rfl rfl (fun K hK => ?_) (by rfl); simp (disch := (first | omega | (simp only [sz] <;> omega) | fail)) only [go_sem]; with_reducible refine hK _ _ ?_; clear hK K)
  repeat (first | refine Goes.reg ?_ | refine Goes.ctl2 rfl ?_ | ((first | refine qv1 rfl rfl rfl fun K hK => ?_ | refine qv3 rfl rfl rfl fun K hK => ?_ | refine qv2 rfl rfl rfl rfl rfl rfl fun K hK => ?_ | refine qv4 rfl rfl rfl rfl rfl rfl fun K hK => ?_ | refine qn1 rfl rfl rfl fun K hK => ?_ | refine qn3 rfl rfl rfl fun K hK => ?_ | refine qt1 rfl rfl rfl fun K hK => ?_ | refine qt3 rfl rfl rfl fun K hK => ?_); simp (disch := (first | omega | (simp only [sz] <;> omega) | fail)) only [go_sem]; with_reducible refine hK _ _ ?_; clear hK K) | refine At.nil rfl ?_ | refine RG.nil rfl ?_ | ((first | refine AtL.skipg rfl rfl rfl rfl rfl ?_ | refine RGL.skipg rfl rfl rfl rfl rfl ?_ | refine AtL.skipu rfl rfl rfl rfl ?_ | refine RGL.skipu rfl rfl rfl rfl ?_); simp only [putL, List.set_cons_zero, List.set_cons_succ]) | refine Goes.yes rfl ?_ | refine Goes.no rfl ?_ | refine Goes.drawR [] (by kernel_rfl) ?_)
  (refine RGF.storef rfl rfl rfl (fun K hK => ?_) (by rfl); simp (disch := (first | omega | (simp only [sz] <;> omega) | fail)) only [go_sem]; with_reducible refine hK _ _ ?_; clear hK K)
  repeat (first | refine Goes.reg ?_ | refine Goes.ctl2 rfl ?_ | ((first | refine qv1 rfl rfl rfl fun K hK => ?_ | refine qv3 rfl rfl rfl fun K hK => ?_ | refine qv2 rfl rfl rfl rfl rfl rfl fun K hK => ?_ | refine qv4 rfl rfl rfl rfl rfl rfl fun K hK => ?_ | refine qn1 rfl rfl rfl fun K hK => ?_ | refine qn3 rfl rfl rfl fun K hK => ?_ | refine qt1 rfl rfl rfl fun K hK => ?_ | refine qt3 rfl rfl rfl fun K hK => ?_); simp (disch := (first | omega | (simp only [sz] <;> omega) | fail)) only [go_sem]; with_reducible refine hK _ _ ?_; clear hK K) | refine At.nil rfl ?_ | refine RG.nil rfl ?_ | ((first | refine AtL.skipg rfl rfl rfl rfl rfl ?_ | refine RGL.skipg rfl rfl rfl rfl rfl ?_ | refine AtL.skipu rfl rfl rfl rfl ?_ | refine RGL.skipu rfl rfl rfl rfl ?_); simp only [putL, List.set_cons_zero, List.set_cons_succ]) | refine Goes.yes rfl ?_ | refine Goes.no rfl ?_ | refine Goes.drawR [] (by kernel_rfl) ?_)
  refine Goes.fin rfl (by simp (disch := (first | omega | (simp only [heapL_next, List.length_cons, List.length_nil, List.size_toArray, geo_len] <;> omega) | fail)) only [go_sem, resA, res1A, Try.results76] <;> rfl) ?_
  rfl
end Go.Proofs.Ytceddijolfpppaa
