/-
  Layer 17 over the abstract machine: the beginning of the statements; contracts of package data.
  Conditions: those of each contract.
-/
import Derived.Test.YtceddijolfpppaaUApp
namespace Go.Proofs.Ytceddijolfpppaa
open Go Go.RowKit
set_option linter.unusedSimpArgs false
set_option linter.unusedVariables false
theorem best_used {k a : Nat} : ∀ (P Q : List Rn) (x : Nat) (o : Fit), (∀ r ∈ P, r.1 ≠ 1) → bestL k a (P ++ Q) x o = bestL k a Q (x + tot P) o
  | [], Q, x, o, _ => by simp [tot]
  | r :: P, Q, x, o, h => by
    simp only [List.cons_append, bestL, tot]
    rw [if_neg (fun hc => h r (List.mem_cons_self) hc.1), best_used P Q _ _ (fun r' hr' => h r' (List.mem_cons_of_mem _ hr')), Nat.add_assoc]
theorem rup_one (x : Nat) : rup x 1 = x := by unfold rup; simp
theorem cut_used {P A C : List Rn} {n m : Nat} (hu : ∀ r ∈ P, r.1 ≠ 1) (h : P ++ [(1, n)] = A ++ (1, m) :: C) : A = P ∧ C = [] ∧ m = n := by
  induction P generalizing A with
  | nil =>
    cases A with
    | nil => simp at h; exact ⟨rfl, h.2, h.1.symm⟩
    | cons a A => simp at h
  | cons r P ih =>
    cases A with
    | nil =>
      simp only [List.cons_append, List.nil_append, List.cons.injEq] at h
      exact absurd (by rw [h.1]) (hu r (List.mem_cons_self))
    | cons a A =>
      simp only [List.cons_append, List.cons.injEq] at h
      obtain ⟨h1, h2, h3⟩ := ih (fun r' hr' => hu r' (List.mem_cons_of_mem _ hr')) h.2
      exact ⟨by rw [h.1, h1], h2, h3⟩
theorem alloc_tail {P : List Rn} {n k N T : Nat} {ws0 ws ws' : List UInt64} {v : Value} {L' : List Rn} (hu : ∀ r ∈ P, r.1 ≠ 1) (hk : 1 ≤ k) (hn : k ≤ n) (hN : k ≤ N) (h : AllocSaid k 1 N T ws0 ws (P ++ [(1, n)]) v ws' L') :
    L' = P ++ (4, k) :: fr (n - k) ∧ v = .tuple #[.int .i64 ((tot P : Nat) : Int), .bool true] := by
  have hb : bestL k 1 (P ++ [(1, n)]) 0 (0, 0, 0) = (tot P, n, tot P) := by
    rw [best_used P _ _ _ hu]
    simp only [bestL, rup_one, Nat.zero_add]
    rw [if_pos ⟨trivial, by omega, .inl trivial⟩]
  rcases h with ⟨_, _, _, h4⟩ | ⟨_, _, A, C, f, r, hL, hB, hL', hv⟩
  · have := h4 (by omega) (by omega) (by omega)
    rw [show (min (1 : Int) 256).toNat = 1 by decide, Int.toNat_natCast, hb] at this
    simp only at this
    omega
  · obtain ⟨rfl, rfl, hm⟩ := cut_used hu hL
    rw [show (min (1 : Int) 256).toNat = 1 by decide, Int.toNat_natCast, hb] at hB
    simp only [Prod.mk.injEq] at hB
    obtain rfl : f = 0 := by omega
    rw [Int.toNat_natCast] at hm hL'
    refine ⟨?_, ?_⟩
    · rw [hL', fr_0, List.nil_append, List.append_nil, show n - k = r by omega]
    · rw [hv, Nat.add_zero]
theorem pw_second {a b n : Nat} {L : List Rn} (ha : a = 1) : pw ((4, a) :: (n, b) :: L) 1 = pgU n b := by
  subst ha
  simp [pw]
theorem gb_lt (N T : Nat) (hN : 1 ≤ N) : gb N T 8 = 21 + T + N ∧ gb N T 9 = 21 + T + N + N ∧ gb N T 10 = 21 + T + N + N + N ∧ gb N T 11 = 21 + T + N + N + N + N * 8 ∧ gb N T 12 = 21 + T + N + N + N + N * 8 + N * 8 ∧ gb N T 12 ≤ gb N T 19 := by
  have h7 : gb N T 8 = 21 + T + N := gb8 hN
  refine ⟨h7, ?_, ?_, ?_, ?_, gb_mono' N T 12 19 (by omega)⟩
  · rw [gb_succ, h7]; unfold gsz; simp [show N ≠ 0 by omega]
  · rw [gb_succ, gb_succ, h7]; unfold gsz; simp [show N ≠ 0 by omega]
  · rw [gb_succ, gb_succ, gb_succ, h7]; unfold gsz; simp [show N ≠ 0 by omega]
  · rw [gb_succ, gb_succ, gb_succ, gb_succ, h7]; unfold gsz; simp [show N ≠ 0 by omega]
theorem gBits_at {N T k : Nat} (hN : 1 ≤ N) (hk : k < N) : gat N T 8 k = ((21 + T + N + k : Nat) : Int) := by
  obtain ⟨h8, h9, _⟩ := gb_lt N T hN
  rw [gat_in N T 8 (by omega) (by rw [h8, h9]; omega), h8]; push_cast; rfl
theorem gState_at' {N T k : Nat} (hN : 1 ≤ N) (hk : k < N * 8) : gat N T 11 k = ((21 + T + N + N + N + N * 8 + k : Nat) : Int) := by
  obtain ⟨_, _, _, h11, _⟩ := gb_lt N T hN
  rw [gState_at hN hk, h11]
theorem gSerial_at' {N T t : Nat} (hN : 1 ≤ N) (ht : t < T) : gat N T 6 t = ((21 + t : Nat) : Int) := by
  have h6 : gb N T 6 = 21 := by unfold gb; rw [if_neg (by omega)]; simp only [gsum, gsz]
  rw [gSerial_at hN ht, h6]
structure Dt (N T : Nat) (ws : List UInt64) (kd ln cl z v : Nat) : Prop where
  pg : wAt ws (gat N T 7 (1 : Nat)) = some (pgO kd ln cl 0)
  live : wAt ws (gat N T 11 (8 : Nat)) = some (sU 1 z 0 v)
  free : ∀ j : Nat, j < 8 * N → j ≠ 8 → wAt ws (gat N T 11 j) = some 0
theorem two_acc {S : St} {a b : Ob} {me : Int} {s : Nat} {ws : List UInt64} {bs : List UInt8} : accS (S ++ [a, b]) (S.length + 1) S.length me s ws bs = S ++ [.mem ws bs, .port S.length me s] := acc_app
theorem rep_at {i n : Nat} (h : i < n) : wAt (List.replicate n (0 : UInt64)) (i : Nat) = some 0 := wAt_zeros h
theorem Pg.zero {N T : Nat} {ws : List UInt64} {P B : Nat → UInt64} (h : Pg N T (List.replicate (gb N T 19) 0) ws P B) (hN : 1 ≤ N) {i : Nat} (hi : i < gb N T 12) (h1 : i < 7 ∨ 16 ≤ i) (h2 : i < 21 + T ∨ 21 + T + N ≤ i) : wAt ws (i : Nat) = some 0 := by
  rw [h.rest i (fun x hx => by omega) (fun b hb => by omega)]
  have := (gb_lt N T hN).2.2.2.2.2
  exact rep_at (by omega)
theorem Dt.birth {N T : Nat} {ws : List UInt64} {kd ln cl z : Nat} (hN : 4 ≤ N) (hT : 1 ≤ T) (hpg : wAt ws (gat N T 7 (1 : Nat)) = some (pgO kd ln cl 0)) (hs : wAt ws (gat N T 6 (0 : Nat)) = some 0) (hz : ∀ j : Nat, j < 8 * N → wAt ws (gat N T 11 j) = some 0) :
    Dt N T (wS 2 (gat N T 11 (8 : Nat)) (sU 1 z 0 64) 0 (wS 4 (gat N T 6 (0 : Nat)) 1 0 ws)) kd ln cl z 64 := by
  have e7 := gPage_at (N := N) (T := T) (k := 1) (by omega) (by omega)
  have e6 := gSerial_at' (N := N) (T := T) (t := 0) (by omega) hT
  have e11 := fun (j : Nat) (hj : j < 8 * N) => gState_at' (N := N) (T := T) (k := j) (by omega) (by omega)
  have h8 := hz 8 (by omega)
  have hb : ∀ j : Nat, j < 8 * N → wAt (wS 4 (gat N T 6 (0 : Nat)) 1 0 ws) (gat N T 11 j) = some 0 := fun j hj => by
    rw [wAt_wS hs, if_neg (by rw [e11 j hj, e6]; omega)]; exact hz j hj
  refine ⟨?_, ?_, fun j hj hne => ?_⟩
  · rw [wAt_wS (hb 8 (by omega)), if_neg (by rw [e7, e11 8 (by omega)]; omega), wAt_wS hs, if_neg (by rw [e7, e6]; omega)]; exact hpg
  · rw [wAt_wS (hb 8 (by omega)), if_pos rfl]; rfl
  · rw [wAt_wS (hb 8 (by omega)), if_neg (by rw [e11 j hj, e11 8 (by omega)]; omega)]; exact hb j hj
theorem pgU_pgO {k n : Nat} : pgU k n = pgO k n 0 0 := by unfold pgU pgO pgN; congr 1
def blkV (a s r : Nat) : Value := .agg #[.int .i64 a, .int .i64 s, .int .i64 r]
theorem hand4 {c : Nat} {a b d e : Value} (ha : Hand c a) (hb : Hand c b) (hd : Hand c d) (he : Hand c e) : Hand c (.tuple #[a, b, d, e]) := fun F F' hs => by
  simp only [ren_tuple, List.map_toArray, List.map_cons, List.map_nil]
  rw [ha F F' hs, hb F F' hs, hd F F' hs, he F F' hs]
def roomK (k : Nat) : Nat := match k with | 0 => 8 | 1 => 16 | 2 => 24 | 3 => 32 | _ => 128
set_option maxHeartbeats 4000000 in
theorem begun17_run (S : St) (N T z : Nat) (hN1 : 4 ≤ N) (hN : N ≤ 256) (hT1 : 1 ≤ T) (hT : T ≤ 64) (hz0 : z ≤ 1000000) :
    ∃ ws st, st ≤ 2000 ∧ Dt N T ws 4 2 0 (z % 128 + 1) 64 ∧
    Does OF 76 #[.int .i64 N, .int .i64 T, .int .i64 4, .int .i64 z] [] S (.tuple #[.agg (geoC N T), hndV S.length, hndV (S.length + 2), blkV 64 (z % 128 + 1) 128]) (S ++ [.mem ws (List.replicate (64 * N) 0), .port S.length 0 st, .port S.length 0 0]) := by
  obtain ⟨w1, s1, hs1, hP1, hd1⟩ := begun10_does S N T (by omega) hN hT1 hT
  obtain ⟨v2, S2, ⟨s2, w2, L2, hs2, rfl, hP2, hA2⟩, hd2⟩ := alloc_does (S ++ [.mem w1 (List.replicate (64 * N) 0), .port S.length 0 s1]) (S.length + 1) S.length 0 s1 _ w1 (List.replicate (64 * N) 0) N T ((1 : Nat) : Int) 1 (by simp) (by simp) (by omega) (by omega) hN hT hP1 (by intro r hr; simp at hr; subst hr; exact ⟨by simp; omega, .inl rfl⟩) (by simp [tot])
  obtain ⟨rfl, rfl⟩ := alloc_tail (P := []) (by simp) (by omega) (by omega) (by omega) hA2
  rw [List.nil_append, fr_pos (by omega)] at hP2
  rw [two_acc] at hd2
  obtain ⟨v3, S3, ⟨s3, w3, L3, hs3, rfl, hP3, hA3⟩, hd3⟩ := alloc_does (S ++ [.mem w2 (List.replicate (64 * N) 0), .port S.length 0 s2]) (S.length + 1) S.length 0 s2 _ w2 (List.replicate (64 * N) 0) N T ((2 : Nat) : Int) 1 (by simp) (by simp) (by omega) (by omega) hN hT hP2 (by intro r hr; simp at hr; rcases hr with rfl | rfl; exact ⟨by simp, .inr (by simp)⟩; exact ⟨by simp; omega, .inl rfl⟩) (by simp [tot]; omega)
  obtain ⟨rfl, rfl⟩ := alloc_tail (P := [(4, 1)]) (by simp) (by omega) (by omega) (by omega) hA3
  rw [fr_pos (by omega)] at hP3
  rw [two_acc] at hd3
  have hz : ∀ j : Nat, j < 8 * N → wAt w3 (gat N T 11 j) = some 0 := fun j hj => by
    rw [gState_at' (by omega) (by omega)]
    exact hP3.zero (by omega) (by have := (gb_lt N T (by omega)).2.2.2.2.1; omega) (by omega) (by omega)
  have h6 : wAt w3 (gat N T 6 (0 : Nat)) = some 0 := by
    rw [gSerial_at' (by omega) hT1]
    exact hP3.zero (by omega) (by have := (gb_lt N T (by omega)).2.2.2.2.1; omega) (by omega) (by omega)
  have h7 : wAt w3 (gat N T 7 (1 : Nat)) = some (pgO 4 2 0 0) := by rw [hP3.pg 1 (by omega), ← pgU_pgO]; exact congrArg some (pw_second rfl)
  have hD := Dt.birth (z := z % 128 + 1) hN1 hT1 h7 h6 hz
  have hd4 := birth_does (S ++ [.mem w3 (List.replicate (64 * N) 0), .port S.length 0 s3]) (S.length + 1) S.length 0 s3 w3 (List.replicate (64 * N) 0) N T 8 (z % 128 + 1) 0 (by simp) (by simp) (by omega) hN hT h6 (by decide) (by omega) (by rw [gSerial_at' (by omega) hT1]; omega) (by rw [gState_at' (by omega) (by omega)]; omega) (by omega)
  rw [two_acc, show verN 0 0 = 64 by decide] at hd4
  refine ⟨_, s3 + 2, by omega, hD, ?_⟩
  refine Does.mk Try.func76 rfl rfl ?clo ?hand ?_
  case clo => exact clo4 iclo iclo iclo iclo
  case hand => exact hand4 ghand (hhand (by simp [OF])) (hhand (by simp [OF])) (Hand.plain (by simp [blkV, plainB]))
  rw [Try.ntmps76]; simp only [List.size_toArray, List.length_cons, List.length_nil, List.replicate, List.cons_append, List.nil_append]
  refine via ?_
  ((first | refine qc1 rfl rfl fun K hK => ?_ | refine qc3 rfl rfl fun K hK => ?_); simp (disch := (first | omega | (simp only [sz] <;> omega) | fail)) only [go_sem]; refine ⟨_, _, hd1, ?_⟩; (try simp only [go_sem]); with_reducible refine hK _ _ ?_; clear hK K)
  refine via ?_
  ((first | refine qc1 rfl rfl fun K hK => ?_ | refine qc3 rfl rfl fun K hK => ?_); simp (disch := (first | omega | (simp only [sz] <;> omega) | fail)) only [go_sem]; refine ⟨_, _, hd2, ?_⟩; (try simp only [go_sem]); with_reducible refine hK _ _ ?_; clear hK K)
  refine via ?_
  ((first | refine qc1 rfl rfl fun K hK => ?_ | refine qc3 rfl rfl fun K hK => ?_); simp (disch := (first | omega | (simp only [sz] <;> omega) | fail)) only [go_sem]; refine ⟨_, _, hd3, ?_⟩; (try simp only [go_sem]); with_reducible refine hK _ _ ?_; clear hK K)
  have e1 : (z : Int).tmod 128 = ((z % 128 : Nat) : Int) := tmod_n z 128
  refine viaF e1 ?_
  ((first | refine qc1 rfl rfl fun K hK => ?_ | refine qc3 rfl rfl fun K hK => ?_); simp (disch := (first | omega | (simp only [sz] <;> omega) | fail)) only [go_sem]; refine ⟨_, _, hd4, ?_⟩; (try simp only [go_sem]); with_reducible refine hK _ _ ?_; clear hK K)
  repeat (first | refine Goes.reg ?_ | refine Goes.ctl2 rfl ?_ | ((first | refine qv1 rfl rfl rfl fun K hK => ?_ | refine qv3 rfl rfl rfl fun K hK => ?_ | refine qv2 rfl rfl rfl rfl rfl rfl fun K hK => ?_ | refine qv4 rfl rfl rfl rfl rfl rfl fun K hK => ?_); simp (disch := (first | omega | (simp only [sz] <;> omega) | fail)) only [go_sem]; with_reducible refine hK _ _ ?_; clear hK K) | refine At.nil rfl ?_ | refine RG.nil rfl ?_ | ((first | refine AtL.skipg rfl rfl rfl rfl rfl ?_ | refine RGL.skipg rfl rfl rfl rfl rfl ?_ | refine AtL.skipu rfl rfl rfl rfl ?_ | refine RGL.skipu rfl rfl rfl rfl ?_); simp only [putL, List.set_cons_zero, List.set_cons_succ]) | refine Goes.yes rfl ?_ | refine Goes.no rfl ?_)
  refine Goes.drawN [1000004] [3] (by kernel_rfl) (by first | exact heapL_low _ | exact gap_low _ _ _) ?_
  refine via ?_
  ((first | refine qp1 rfl rfl fun K hK => ?_ | refine qp3 rfl rfl fun K hK => ?_); simp (disch := (first | omega | (simp only [sz] <;> omega) | fail)) only [go_sem]; refine ⟨_, _, .pnew (m := S.length) (me := 0) (ws := (wS 2 (gat N T 11 (8 : Nat)) (sU 1 (z % 128 + 1) 0 64) 0 (wS 4 (gat N T 6 (0 : Nat)) 1 0 w3))) (bs := List.replicate (64 * N) 0) (by simp), ?_⟩; (try simp only [go_sem]); with_reducible refine hK _ _ ?_; clear hK K)
  rw [three_app, three_len]
  refine via ?_
  (refine RGF.fark rfl rfl fun K hK => ?_; simp (disch := (first | omega | (simp only [sz] <;> omega) | fail)) only [go_sem]; with_reducible refine hK _ _ ?_; clear hK K)
  (refine RGF.storef rfl rfl rfl (fun K hK => ?_) (by rfl); simp (disch := (first | omega | (simp only [sz] <;> omega) | fail)) only [go_sem]; with_reducible refine hK _ _ ?_; clear hK K)
  refine via ?_
  (refine RGF.storef rfl rfl rfl (fun K hK => ?_) (by rfl); simp (disch := (first | omega | (simp only [sz] <;> omega) | fail)) only [go_sem]; with_reducible refine hK _ _ ?_; clear hK K)
  refine via ?_
  refine Goes.fin rfl (by simp (disch := (first | omega | (simp only [heapL_next, List.length_cons, List.length_nil, List.size_toArray, geo_len] <;> omega) | fail)) only [go_sem, resA, res1A, Try.results76] <;> rfl) ?_
  rfl
theorem size06_does (S : St) (k : Nat) (hk : k < 4) : Does OF 129 #[.int .i64 k] [] S (.int .i64 (roomK k)) S := by
  obtain rfl | rfl | rfl | rfl : k = 0 ∨ k = 1 ∨ k = 2 ∨ k = 3 := by omega
  all_goals
    refine Does.mk Try.func129 rfl rfl ?clo ?hand ?_
    case clo => exact clo1 iclo
    case hand => exact Hand.plain rfl
    rw [Try.ntmps129]; simp only [List.size_toArray, List.length_cons, List.length_nil, List.replicate, List.cons_append, List.nil_append]
    refine via ?_
    refine Goes.fin rfl (by simp (disch := (first | omega | (simp only [heapL_next, List.length_cons, List.length_nil, List.size_toArray, geo_len] <;> omega) | fail)) only [go_sem, resA, res1A, Try.results129] <;> rfl) ?_
    rfl
set_option maxHeartbeats 4000000 in
theorem begun17_class (S : St) (N T z k : Nat) (hk : k < 4) (hN1 : 4 ≤ N) (hN : N ≤ 256) (hT1 : 1 ≤ T) (hT : T ≤ 64) (hz0 : z ≤ 1000000) :
    ∃ ws st, st ≤ 2000 ∧ Dt N T ws 3 1 k (z % roomK k + 1) 64 ∧
    Does OF 76 #[.int .i64 N, .int .i64 T, .int .i64 k, .int .i64 z] [] S (.tuple #[.agg (geoC N T), hndV S.length, hndV (S.length + 2), blkV 64 (z % roomK k + 1) (roomK k)]) (S ++ [.mem ws (List.replicate (64 * N) 0), .port S.length 0 st, .port S.length 0 0]) := by
  have hrk : 1 ≤ roomK k ∧ roomK k ≤ 32 := by obtain rfl | rfl | rfl | rfl : k = 0 ∨ k = 1 ∨ k = 2 ∨ k = 3 := by omega
                                              all_goals decide
  have hzm : z % roomK k < roomK k := Nat.mod_lt _ hrk.1
  obtain ⟨w1, s1, hs1, hP1, hd1⟩ := begun10_does S N T (by omega) hN hT1 hT
  obtain ⟨v2, S2, ⟨s2, w2, L2, hs2, rfl, hP2, hA2⟩, hd2⟩ := alloc_does (S ++ [.mem w1 (List.replicate (64 * N) 0), .port S.length 0 s1]) (S.length + 1) S.length 0 s1 _ w1 (List.replicate (64 * N) 0) N T ((1 : Nat) : Int) 1 (by simp) (by simp) (by omega) (by omega) hN hT hP1 (by intro r hr; simp at hr; subst hr; exact ⟨by simp; omega, .inl rfl⟩) (by simp [tot])
  obtain ⟨rfl, rfl⟩ := alloc_tail (P := []) (by simp) (by omega) (by omega) (by omega) hA2
  rw [List.nil_append, fr_pos (by omega)] at hP2
  rw [two_acc] at hd2
  obtain ⟨v3, S3, ⟨s3, w3, L3, hs3, rfl, hP3, hA3⟩, hd3⟩ := alloc_does (S ++ [.mem w2 (List.replicate (64 * N) 0), .port S.length 0 s2]) (S.length + 1) S.length 0 s2 _ w2 (List.replicate (64 * N) 0) N T ((1 : Nat) : Int) 1 (by simp) (by simp) (by omega) (by omega) hN hT hP2 (by intro r hr; simp at hr; rcases hr with rfl | rfl; exact ⟨by simp, .inr (by simp)⟩; exact ⟨by simp; omega, .inl rfl⟩) (by simp [tot]; omega)
  obtain ⟨rfl, rfl⟩ := alloc_tail (P := [(4, 1)]) (by simp) (by omega) (by omega) (by omega) hA3
  rw [fr_pos (by omega)] at hP3
  rw [two_acc] at hd3
  have hz1 : ∀ i : Nat, i < gb N T 12 → (i < 7 ∨ 16 ≤ i) → (i < 21 + T ∨ 21 + T + N ≤ i) → wAt w3 (i : Nat) = some 0 := fun i h1 h2 h3 => hP3.zero (by omega) h1 h2 h3
  have h12 := (gb_lt N T (by omega)).2.2.2.2.1
  have e7 := gPage_at (N := N) (T := T) (k := 1) (by omega) (by omega)
  have e8 := gBits_at (N := N) (T := T) (k := 1) (by omega) (by omega)
  have e6 := gSerial_at' (N := N) (T := T) (t := 0) (by omega) hT1
  have e11 := fun (j : Nat) (hj : j < 8 * N) => gState_at' (N := N) (T := T) (k := j) (by omega) (by omega)
  have g7 := hP3.pg 1 (by omega)
  have g8 : wAt (wS 2 (gat N T 7 (1 : Nat)) (pgO 3 1 k 0) 0 w3) (gat N T 8 (1 : Nat)) = some 0 := by
    rw [wAt_wS g7, if_neg (by rw [e7, e8]; omega), e8]; exact hz1 _ (by omega) (by omega) (by omega)
  have hr : ∀ i : Int, i ≠ gat N T 7 (1 : Nat) → i ≠ gat N T 8 (1 : Nat) → wAt (wS 2 (gat N T 8 (1 : Nat)) (btU (mapK k) true k 1) 0 (wS 2 (gat N T 7 (1 : Nat)) (pgO 3 1 k 0) 0 w3)) i = wAt w3 i := fun i h1 h2 => by
    rw [wAt_wS g8, if_neg h2, wAt_wS g7, if_neg h1]
  have h7 : wAt (wS 2 (gat N T 8 (1 : Nat)) (btU (mapK k) true k 1) 0 (wS 2 (gat N T 7 (1 : Nat)) (pgO 3 1 k 0) 0 w3)) (gat N T 7 (1 : Nat)) = some (pgO 3 1 k 0) := by
    rw [wAt_wS g8, if_neg (by rw [e7, e8]; omega), wAt_wS g7, if_pos rfl]; rfl
  have h6 : wAt (wS 2 (gat N T 8 (1 : Nat)) (btU (mapK k) true k 1) 0 (wS 2 (gat N T 7 (1 : Nat)) (pgO 3 1 k 0) 0 w3)) (gat N T 6 (0 : Nat)) = some 0 := by
    rw [hr _ (by rw [e6, e7]; omega) (by rw [e6, e8]; omega), e6]; exact hz1 _ (by omega) (by omega) (by omega)
  have hz : ∀ j : Nat, j < 8 * N → wAt (wS 2 (gat N T 8 (1 : Nat)) (btU (mapK k) true k 1) 0 (wS 2 (gat N T 7 (1 : Nat)) (pgO 3 1 k 0) 0 w3)) (gat N T 11 j) = some 0 := fun j hj => by
    rw [hr _ (by rw [e11 j hj, e7]; omega) (by rw [e11 j hj, e8]; omega), e11 j hj]; exact hz1 _ (by omega) (by omega) (by omega)
  have hD := Dt.birth (z := z % roomK k + 1) hN1 hT1 h7 h6 hz
  have hdm := make_does (S ++ [.mem w3 (List.replicate (64 * N) 0), .port S.length 0 s3]) (S.length + 1) S.length 0 s3 w3 (List.replicate (64 * N) 0) N T 1 k 0 (by simp) (by simp) (by omega) (by omega) hN hT (by decide) (by omega) hk g8 (by decide)
  rw [two_acc, show (0 : UInt64).toNat / 2 ^ 32 % 2 ^ 32 + 1 = 1 by decide] at hdm
  have hd4 := birth_does (S ++ [.mem (wS 2 (gat N T 8 (1 : Nat)) (btU (mapK k) true k 1) 0 (wS 2 (gat N T 7 (1 : Nat)) (pgO 3 1 k 0) 0 w3)) (List.replicate (64 * N) 0), .port S.length 0 (s3 + 3)]) (S.length + 1) S.length 0 (s3 + 3) _ (List.replicate (64 * N) 0) N T 8 (z % roomK k + 1) 0 (by simp) (by simp) (by omega) hN hT h6 (by decide) (by omega) (by rw [gSerial_at' (by omega) hT1]; omega) (by rw [gState_at' (by omega) (by omega)]; omega) (by omega)
  rw [two_acc, show verN 0 0 = 64 by decide] at hd4
  refine ⟨_, s3 + 5, by omega, hD, ?_⟩
  refine Does.mk Try.func76 rfl rfl ?clo ?hand ?_
  case clo => exact clo4 iclo iclo iclo iclo
  case hand => exact hand4 ghand (hhand (by simp [OF])) (hhand (by simp [OF])) (Hand.plain (by simp [blkV, plainB]))
  rw [Try.ntmps76]; simp only [List.size_toArray, List.length_cons, List.length_nil, List.replicate, List.cons_append, List.nil_append]
  refine via ?_
  ((first | refine qc1 rfl rfl fun K hK => ?_ | refine qc3 rfl rfl fun K hK => ?_); simp (disch := (first | omega | (simp only [sz] <;> omega) | fail)) only [go_sem]; refine ⟨_, _, hd1, ?_⟩; (try simp only [go_sem]); with_reducible refine hK _ _ ?_; clear hK K)
  refine via ?_
  ((first | refine qc1 rfl rfl fun K hK => ?_ | refine qc3 rfl rfl fun K hK => ?_); simp (disch := (first | omega | (simp only [sz] <;> omega) | fail)) only [go_sem]; refine ⟨_, _, hd2, ?_⟩; (try simp only [go_sem]); with_reducible refine hK _ _ ?_; clear hK K)
  refine via ?_
  ((first | refine qc1 rfl rfl fun K hK => ?_ | refine qc3 rfl rfl fun K hK => ?_); simp (disch := (first | omega | (simp only [sz] <;> omega) | fail)) only [go_sem]; refine ⟨_, _, hd3, ?_⟩; (try simp only [go_sem]); with_reducible refine hK _ _ ?_; clear hK K)
  refine via ?_
  ((first | refine qc1 rfl rfl fun K hK => ?_ | refine qc3 rfl rfl fun K hK => ?_); simp (disch := (first | omega | (simp only [sz] <;> omega) | fail)) only [go_sem]; refine ⟨_, _, hdm, ?_⟩; (try simp only [go_sem]); with_reducible refine hK _ _ ?_; clear hK K)
  refine via ?_
  ((first | refine qc1 rfl rfl fun K hK => ?_ | refine qc3 rfl rfl fun K hK => ?_); simp (disch := (first | omega | (simp only [sz] <;> omega) | fail)) only [go_sem]; refine ⟨_, _, size06_does _ k hk, ?_⟩; (try simp only [go_sem]); with_reducible refine hK _ _ ?_; clear hK K)
  have e1 : (z : Int).tmod (roomK k : Int) = ((z % roomK k : Nat) : Int) := tmod_n z _
  refine viaF e1 ?_
  ((first | refine qc1 rfl rfl fun K hK => ?_ | refine qc3 rfl rfl fun K hK => ?_); simp (disch := (first | omega | (simp only [sz] <;> omega) | fail)) only [go_sem]; refine ⟨_, _, hd4, ?_⟩; (try simp only [go_sem]); with_reducible refine hK _ _ ?_; clear hK K)
  repeat (first | refine Goes.reg ?_ | refine Goes.ctl2 rfl ?_ | ((first | refine qv1 rfl rfl rfl fun K hK => ?_ | refine qv3 rfl rfl rfl fun K hK => ?_ | refine qv2 rfl rfl rfl rfl rfl rfl fun K hK => ?_ | refine qv4 rfl rfl rfl rfl rfl rfl fun K hK => ?_); simp (disch := (first | omega | (simp only [sz] <;> omega) | fail)) only [go_sem]; with_reducible refine hK _ _ ?_; clear hK K) | refine At.nil rfl ?_ | refine RG.nil rfl ?_ | ((first | refine AtL.skipg rfl rfl rfl rfl rfl ?_ | refine RGL.skipg rfl rfl rfl rfl rfl ?_ | refine AtL.skipu rfl rfl rfl rfl ?_ | refine RGL.skipu rfl rfl rfl rfl ?_); simp only [putL, List.set_cons_zero, List.set_cons_succ]) | refine Goes.yes rfl ?_ | refine Goes.no rfl ?_)
  refine Goes.drawN [1000004] [3] (by kernel_rfl) (by first | exact heapL_low _ | exact gap_low _ _ _) ?_
  refine via ?_
  ((first | refine qp1 rfl rfl fun K hK => ?_ | refine qp3 rfl rfl fun K hK => ?_); simp (disch := (first | omega | (simp only [sz] <;> omega) | fail)) only [go_sem]; refine ⟨_, _, .pnew (m := S.length) (me := 0) (ws := (wS 2 (gat N T 11 (8 : Nat)) (sU 1 (z % roomK k + 1) 0 64) 0 (wS 4 (gat N T 6 (0 : Nat)) 1 0 (wS 2 (gat N T 8 (1 : Nat)) (btU (mapK k) true k 1) 0 (wS 2 (gat N T 7 (1 : Nat)) (pgO 3 1 k 0) 0 w3))))) (bs := List.replicate (64 * N) 0) (by simp), ?_⟩; (try simp only [go_sem]); with_reducible refine hK _ _ ?_; clear hK K)
  rw [three_app, three_len]
  refine via ?_
  (refine RGF.fark rfl rfl fun K hK => ?_; simp (disch := (first | omega | (simp only [sz] <;> omega) | fail)) only [go_sem]; with_reducible refine hK _ _ ?_; clear hK K)
  (refine RGF.storef rfl rfl rfl (fun K hK => ?_) (by rfl); simp (disch := (first | omega | (simp only [sz] <;> omega) | fail)) only [go_sem]; with_reducible refine hK _ _ ?_; clear hK K)
  refine via ?_
  (refine RGF.storef rfl rfl rfl (fun K hK => ?_) (by rfl); simp (disch := (first | omega | (simp only [sz] <;> omega) | fail)) only [go_sem]; with_reducible refine hK _ _ ?_; clear hK K)
  refine via ?_
  refine Goes.fin rfl (by simp (disch := (first | omega | (simp only [heapL_next, List.length_cons, List.length_nil, List.size_toArray, geo_len] <;> omega) | fail)) only [go_sem, resA, res1A, Try.results76] <;> rfl) ?_
  rfl
end Go.Proofs.Ytceddijolfpppaa
namespace Go.Proofs.Ytceddijolfpppaa
open Go Go.RowKit
set_option linter.unusedSimpArgs false
set_option linter.unusedVariables false
def rsV (n b e lin touch : Nat) : Value := .agg #[.int .i64 0, .int .i64 n, .int .u8 b, .int .u64 0, .int .u64 0, .int .u64 0, .int .u64 0, .int .u64 0, .int .i64 e, .int .i64 lin, .int .i64 touch]
theorem rsV_plain (n b e lin touch : Nat) : plainB (rsV n b e lin touch) = true := by simp [rsV, plainB]
theorem set_id {S : St} {p : Nat} {ob : Ob} (h : S[p]? = some ob) : S.set p ob = S := by
  apply List.ext_getElem?
  intro j
  by_cases e : p = j
  · subst e; rw [List.getElem?_set_self (List.getElem?_eq_some_iff.1 h).1, h]
  · rw [List.getElem?_set_ne e]
theorem tells_does (S : St) (p m me : Nat) (steps n b e lin touch : Nat) (hp : S[p]? = some (.port m me steps)) :
    Does OF 135 #[prtV p, rsV n b e lin touch] [] S (rsV n b e lin touch) S := by
  refine Does.mk Try.func135 rfl rfl ?clo ?hand ?_
  case clo => exact clo2 (pclo (hlt_of hp)) (Clo.plain (rsV_plain _ _ _ _ _))
  case hand => exact Hand.plain (rsV_plain _ _ _ _ _)
  rw [Try.ntmps135]; simp only [List.size_toArray, List.length_cons, List.length_nil, List.replicate, List.cons_append, List.nil_append]
  unfold rsV
  refine via ?_
  ((first | refine qp1 rfl rfl fun K hK => ?_ | refine qp3 rfl rfl fun K hK => ?_); simp (disch := (first | omega | (simp only [sz] <;> omega) | fail)) only [go_sem]; refine ⟨_, _, .tell _ hp (rsV_plain _ _ _ _ _), ?_⟩; (try simp only [go_sem]); with_reducible refine hK _ _ ?_; clear hK K)
  rw [set_id hp]
  refine via ?_
  refine Goes.fin rfl (by simp (disch := (first | omega | (simp only [heapL_next, List.length_cons, List.length_nil, List.size_toArray, geo_len] <;> omega) | fail)) only [go_sem, resA, res1A, Try.results135] <;> rfl) ?_
  rfl
def lkV (k : Nat) (s r : Value) (ok : Bool) : Value := .tuple #[.int .i64 k, s, r, .bool ok]
theorem lk_hand {c : Nat} (k a b d f lin n y e l t : Nat) (live ok : Bool) : Hand c (lkV k (seV a b d f live lin) (rsV n y e l t) ok) := Hand.plain (by simp [lkV, seV, rsV, plainB])
set_option maxHeartbeats 2000000 in
theorem looks_bad (S : St) (p m me : Nat) (steps : Nat) (N T : Nat) (at' : Int) (hp : S[p]? = some (.port m me steps)) (hN : N ≤ 256) (hb : at' < 0 ∨ (N : Int) * 64 ≤ at' ∨ at'.tmod 8 ≠ 0) :
    Does OF 132 #[prtV p, .agg (geoC N T), .int .i64 at'] [] S (lkV 0 (seV 0 0 0 0 false 0) (rsV 0 0 13 steps 0) false) S := by
  refine Does.mk Try.func132 rfl rfl ?clo ?hand ?_
  case clo => exact clo3 (pclo (hlt_of hp)) gclo iclo
  case hand => exact lk_hand _ _ _ _ _ _ _ _ _ _ _ _ _
  rw [Try.ntmps132]; simp only [List.size_toArray, List.length_cons, List.length_nil, List.replicate, List.cons_append, List.nil_append]
  have ht := tells_does S p m me steps 0 0 13 steps 0 hp
  by_cases c1 : at' < 0
  · refine via ?_
    ((first | refine qp1 rfl rfl fun K hK => ?_ | refine qp3 rfl rfl fun K hK => ?_); simp (disch := (first | omega | (simp only [sz] <;> omega) | fail)) only [go_sem]; refine ⟨_, _, .steps hp, ?_⟩; (try simp only [go_sem]); with_reducible refine hK _ _ ?_; clear hK K)
    refine via ?_
    unfold rsV at ht
    ((first | refine qc1 rfl rfl fun K hK => ?_ | refine qc3 rfl rfl fun K hK => ?_); simp (disch := (first | omega | (simp only [sz] <;> omega) | fail)) only [go_sem]; refine ⟨_, _, ht, ?_⟩; (try simp only [go_sem]); with_reducible refine hK _ _ ?_; clear hK K)
    refine via ?_
    refine Goes.fin rfl (by simp (disch := (first | omega | (simp only [heapL_next, List.length_cons, List.length_nil, List.size_toArray, geo_len] <;> omega) | fail)) only [go_sem, resA, res1A, Try.results132] <;> rfl) ?_
    rfl
  by_cases c2 : (N : Int) * 64 ≤ at'
  · refine via ?_
    ((first | refine qp1 rfl rfl fun K hK => ?_ | refine qp3 rfl rfl fun K hK => ?_); simp (disch := (first | omega | (simp only [sz] <;> omega) | fail)) only [go_sem]; refine ⟨_, _, qpu fun w => gPages_any N T w, ?_⟩; (try simp only [go_sem]); with_reducible refine hK _ _ ?_; clear hK K)
    refine via ?_
    ((first | refine qp1 rfl rfl fun K hK => ?_ | refine qp3 rfl rfl fun K hK => ?_); simp (disch := (first | omega | (simp only [sz] <;> omega) | fail)) only [go_sem]; refine ⟨_, _, .steps hp, ?_⟩; (try simp only [go_sem]); with_reducible refine hK _ _ ?_; clear hK K)
    refine via ?_
    unfold rsV at ht
    ((first | refine qc1 rfl rfl fun K hK => ?_ | refine qc3 rfl rfl fun K hK => ?_); simp (disch := (first | omega | (simp only [sz] <;> omega) | fail)) only [go_sem]; refine ⟨_, _, ht, ?_⟩; (try simp only [go_sem]); with_reducible refine hK _ _ ?_; clear hK K)
    refine via ?_
    refine Goes.fin rfl (by simp (disch := (first | omega | (simp only [heapL_next, List.length_cons, List.length_nil, List.size_toArray, geo_len] <;> omega) | fail)) only [go_sem, resA, res1A, Try.results132] <;> rfl) ?_
    rfl
  · have c3 : (at'.tmod 8 == 0) = false := by rw [beq_eq_false_iff_ne]; omega
    refine via ?_
    ((first | refine qp1 rfl rfl fun K hK => ?_ | refine qp3 rfl rfl fun K hK => ?_); simp (disch := (first | omega | (simp only [sz] <;> omega) | fail)) only [go_sem]; refine ⟨_, _, qpu fun w => gPages_any N T w, ?_⟩; (try simp only [go_sem]); with_reducible refine hK _ _ ?_; clear hK K)
    refine viaF c3 ?_
    ((first | refine qp1 rfl rfl fun K hK => ?_ | refine qp3 rfl rfl fun K hK => ?_); simp (disch := (first | omega | (simp only [sz] <;> omega) | fail)) only [go_sem]; refine ⟨_, _, .steps hp, ?_⟩; (try simp only [go_sem]); with_reducible refine hK _ _ ?_; clear hK K)
    refine via ?_
    unfold rsV at ht
    ((first | refine qc1 rfl rfl fun K hK => ?_ | refine qc3 rfl rfl fun K hK => ?_); simp (disch := (first | omega | (simp only [sz] <;> omega) | fail)) only [go_sem]; refine ⟨_, _, ht, ?_⟩; (try simp only [go_sem]); with_reducible refine hK _ _ ?_; clear hK K)
    refine via ?_
    refine Goes.fin rfl (by simp (disch := (first | omega | (simp only [heapL_next, List.length_cons, List.length_nil, List.size_toArray, geo_len] <;> omega) | fail)) only [go_sem, resA, res1A, Try.results132] <;> rfl) ?_
    rfl
set_option maxHeartbeats 2000000 in
theorem looks_free (S : St) (p m me : Nat) (steps : Nat) (ws : List UInt64) (bs : List UInt8) (N T k : Nat) (hp : S[p]? = some (.port m me steps)) (hm : S[m]? = some (.mem ws bs)) (hst : steps ≤ 100000000000) (hN : N ≤ 256) (hT : T ≤ 64) (hk : k < 8 * N) (h1 : 0 ≤ gat N T 6 me) (h2 : 0 ≤ gat N T 11 k) (hw : wAt ws (gat N T 11 k) = some 0) :
    Does OF 132 #[prtV p, .agg (geoC N T), .int .i64 ((8 * k : Nat) : Int)] [] S (lkV 0 (seV 0 0 0 0 false (steps + 1)) (rsV 0 0 13 (steps + 1) 0) false) (accS S p m me (steps + 1) ws bs) := by
  have hne := hne_of hp hm
  refine Does.mk Try.func132 rfl rfl ?clo ?hand ?_
  case clo => exact clo3 (pclo (hlt_of hp)) gclo iclo
  case hand => exact lk_hand _ _ _ _ _ _ _ _ _ _ _ _ _
  rw [Try.ntmps132]; simp only [List.size_toArray, List.length_cons, List.length_nil, List.replicate, List.cons_append, List.nil_append]
  have ht := tells_does (accS S p m me (steps + 1) ws bs) p m me (steps + 1) 0 0 13 (steps + 1) 0 (acc_p hp hm)
  have e1 : ((8 * k : Nat) : Int).tmod 8 = 0 := by rw [show (8 : Int) = ((8 : Nat) : Int) from rfl, tmod_n]; simp
  have e2 : ((8 * k : Nat) : Int).tdiv 8 = (k : Int) := by rw [show (8 : Int) = ((8 : Nat) : Int) from rfl, tdiv_n]; simp
  refine via ?_
  ((first | refine qp1 rfl rfl fun K hK => ?_ | refine qp3 rfl rfl fun K hK => ?_); simp (disch := (first | omega | (simp only [sz] <;> omega) | fail)) only [go_sem]; refine ⟨_, _, qpu fun w => gPages_any N T w, ?_⟩; (try simp only [go_sem]); with_reducible refine hK _ _ ?_; clear hK K)
  refine viaF (And.intro e1 e2) ?_
  ((first | refine qc1 rfl rfl fun K hK => ?_ | refine qc3 rfl rfl fun K hK => ?_); simp (disch := (first | omega | (simp only [sz] <;> omega) | fail)) only [go_sem]; refine ⟨_, _, look_free S p m me steps ws bs N T k hp hm hst hN hT h1 h2 hw, ?_⟩; (try simp only [go_sem]); with_reducible refine hK _ _ ?_; clear hK K)
  unfold seV
  refine via ?_
  unfold rsV at ht
  ((first | refine qc1 rfl rfl fun K hK => ?_ | refine qc3 rfl rfl fun K hK => ?_); simp (disch := (first | omega | (simp only [sz] <;> omega) | fail)) only [go_sem]; refine ⟨_, _, ht, ?_⟩; (try simp only [go_sem]); with_reducible refine hK _ _ ?_; clear hK K)
  refine via ?_
  refine Goes.fin rfl (by simp (disch := (first | omega | (simp only [heapL_next, List.length_cons, List.length_nil, List.size_toArray, geo_len] <;> omega) | fail)) only [go_sem, resA, res1A, Try.results132] <;> rfl) ?_
  rfl
set_option maxHeartbeats 2000000 in
theorem looks_live (S : St) (p m me : Nat) (steps : Nat) (ws : List UInt64) (bs : List UInt8) (N T k s v : Nat) (hp : S[p]? = some (.port m me steps)) (hm : S[m]? = some (.mem ws bs)) (hst : steps ≤ 100000000000) (hN : N ≤ 256) (hT : T ≤ 64) (hk : k < 8 * N) (h1 : 0 ≤ gat N T 6 me) (h2 : 0 ≤ gat N T 11 k) (hs : s < 65536) (hv : v < 4294967296) (hw : wAt ws (gat N T 11 k) = some (sU 1 s 0 v)) :
    Does OF 132 #[prtV p, .agg (geoC N T), .int .i64 ((8 * k : Nat) : Int)] [] S (lkV k (seV 1 s 0 v true (steps + 1)) (rsV 0 0 0 0 0) true) (accS S p m me (steps + 1) ws bs) := by
  have hne := hne_of hp hm
  refine Does.mk Try.func132 rfl rfl ?clo ?hand ?_
  case clo => exact clo3 (pclo (hlt_of hp)) gclo iclo
  case hand => exact lk_hand _ _ _ _ _ _ _ _ _ _ _ _ _
  rw [Try.ntmps132]; simp only [List.size_toArray, List.length_cons, List.length_nil, List.replicate, List.cons_append, List.nil_append]
  have e1 : ((8 * k : Nat) : Int).tmod 8 = 0 := by rw [show (8 : Int) = ((8 : Nat) : Int) from rfl, tmod_n]; simp
  have e2 : ((8 * k : Nat) : Int).tdiv 8 = (k : Int) := by rw [show (8 : Int) = ((8 : Nat) : Int) from rfl, tdiv_n]; simp
  refine via ?_
  ((first | refine qp1 rfl rfl fun K hK => ?_ | refine qp3 rfl rfl fun K hK => ?_); simp (disch := (first | omega | (simp only [sz] <;> omega) | fail)) only [go_sem]; refine ⟨_, _, qpu fun w => gPages_any N T w, ?_⟩; (try simp only [go_sem]); with_reducible refine hK _ _ ?_; clear hK K)
  refine viaF (And.intro e1 e2) ?_
  ((first | refine qc1 rfl rfl fun K hK => ?_ | refine qc3 rfl rfl fun K hK => ?_); simp (disch := (first | omega | (simp only [sz] <;> omega) | fail)) only [go_sem]; refine ⟨_, _, look_live S p m me steps ws bs N T k s 0 v hp hm hst hN hT h1 h2 hs (by decide) hv hw, ?_⟩; (try simp only [go_sem]); with_reducible refine hK _ _ ?_; clear hK K)
  unfold seV
  refine viaD ?_
  refine Goes.drawN [1000001, 1000002] [1, 2] (by kernel_rfl) (by first | exact heapL_low _ | exact gap_low _ _ _) ?_
  refine via ?_
  (refine RGF.fark rfl rfl fun K hK => ?_; simp (disch := (first | omega | (simp only [sz] <;> omega) | fail)) only [go_sem]; with_reducible refine hK _ _ ?_; clear hK K)
  (refine RGF.fark rfl rfl fun K hK => ?_; simp (disch := (first | omega | (simp only [sz] <;> omega) | fail)) only [go_sem]; with_reducible refine hK _ _ ?_; clear hK K)
  refine via ?_
  (refine RGF.stores rfl rfl rfl (by simp (disch := (first | omega | (simp only [sz] <;> omega) | fail)) only [go_sem] <;> rfl) (fun K hK => ?_); simp (disch := (first | omega | (simp only [sz] <;> omega) | fail)) only [go_sem]; with_reducible refine hK _ _ ?_; clear hK K)
  refine via ?_
  (refine RGF.stores rfl rfl rfl (by simp (disch := (first | omega | (simp only [sz] <;> omega) | fail)) only [go_sem] <;> rfl) (fun K hK => ?_); simp (disch := (first | omega | (simp only [sz] <;> omega) | fail)) only [go_sem]; with_reducible refine hK _ _ ?_; clear hK K)
  refine via ?_
  refine Goes.fin rfl (by simp (disch := (first | omega | (simp only [heapL_next, List.length_cons, List.length_nil, List.size_toArray, geo_len] <;> omega) | fail)) only [go_sem, resA, res1A, Try.results132] <;> rfl) ?_
  rfl
theorem room_slab (S : St) (n k o : Nat) (hk : k < 4) : Does OF 133 #[pgV 3 n k o] [] S (.int .i64 (roomK k)) S := by
  obtain rfl | rfl | rfl | rfl : k = 0 ∨ k = 1 ∨ k = 2 ∨ k = 3 := by omega
  all_goals
    refine Does.mk Try.func133 rfl rfl ?clo ?hand ?_
    case clo => exact clo1 (Clo.plain (pgV_plain _ _ _ _))
    case hand => exact Hand.plain rfl
    rw [Try.ntmps133]; simp only [List.size_toArray, List.length_cons, List.length_nil, List.replicate, List.cons_append, List.nil_append]
    unfold pgV
    refine via ?_
    ((first | refine qp1 rfl rfl fun K hK => ?_ | refine qp3 rfl rfl fun K hK => ?_); simp (disch := (first | omega | (simp only [sz] <;> omega) | fail)) only [go_sem]; refine ⟨_, _, qpu fun w => table_any' w, ?_⟩; (try simp only [go_sem]); with_reducible refine hK _ _ ?_; clear hK K)
    refine via ?_
    refine Goes.fin rfl (by simp (disch := (first | omega | (simp only [heapL_next, List.length_cons, List.length_nil, List.size_toArray, geo_len] <;> omega) | fail)) only [go_sem, resA, res1A, Try.results133] <;> rfl) ?_
    rfl
theorem room_run (S : St) (n k o : Nat) (hn : n ≤ 1000) : Does OF 133 #[pgV 4 n k o] [] S (.int .i64 ((n * 64 : Nat) : Int)) S := by
  refine Does.mk Try.func133 rfl rfl ?clo ?hand ?_
  case clo => exact clo1 (Clo.plain (pgV_plain _ _ _ _))
  case hand => exact Hand.plain rfl
  rw [Try.ntmps133]; simp only [List.size_toArray, List.length_cons, List.length_nil, List.replicate, List.cons_append, List.nil_append]
  unfold pgV
  refine via ?_
  refine Goes.fin rfl (by simp (disch := (first | omega | (simp only [heapL_next, List.length_cons, List.length_nil, List.size_toArray, geo_len] <;> omega) | fail)) only [go_sem, resA, res1A, Try.results133] <;> rfl) ?_
  rfl
set_option maxHeartbeats 4000000 in
theorem usable_live (S : St) (p m me : Nat) (steps : Nat) (ws : List UInt64) (bs : List UInt8) (N T kd ln cl z v rm : Nat) (hp : S[p]? = some (.port m me steps)) (hm : S[m]? = some (.mem ws bs)) (hst : steps ≤ 10000000000) (hN1 : 4 ≤ N) (hN : N ≤ 256) (hT : T ≤ 64) (h1 : 0 ≤ gat N T 6 me) (hz : z < 65536) (hv : v < 4294967296) (D : Dt N T ws kd ln cl z v)
    (hkd : kd < 8) (hln : ln < 1024) (hcl : cl < 4) (hr : ∀ S, Does OF 133 #[pgV kd ln cl 0] [] S (.int .i64 (rm : Nat)) S) :
    Does OF 83 #[prtV p, .agg (geoC N T), .int .i64 64] [] S (rsV rm 0 0 (steps + 3) 0) (accS S p m me (steps + 3) ws bs) := by
  have hne := hne_of hp hm
  have g11 : 0 ≤ gat N T 11 ((8 : Nat) : Int) := by rw [gState_at' (by omega) (by omega)]; omega
  have hlk := looks_live S p m me steps ws bs N T 8 z v hp hm (by omega) hN hT (by omega) h1 g11 hz hv D.live
  have hfd := find_does (accS S p m me (steps + 1) ws bs) p m me (steps + 1) ws bs N T 8 _ (acc_p hp hm) (acc_m hp hm) (by omega) hN hT (by omega) D.pg
  rw [acc_acc hne, pgO_nat hkd hln hcl (by decide)] at hfd
  rw [show pgN kd ln cl 0 / 2 ^ 0 % 2 ^ 3 = kd by unfold pgN; omega, show pgN kd ln cl 0 / 2 ^ 3 % 2 ^ 10 = ln by unfold pgN; omega, show pgN kd ln cl 0 / 2 ^ 13 % 2 ^ 2 = cl by unfold pgN; omega, show pgN kd ln cl 0 / 2 ^ 16 % 2 ^ 7 = 0 by unfold pgN; omega] at hfd
  refine Does.mk Try.func83 rfl rfl ?clo ?hand ?_
  case clo => exact clo3 (pclo (hlt_of hp)) gclo iclo
  case hand => exact Hand.plain (rsV_plain _ _ _ _ _)
  rw [Try.ntmps83]; simp only [List.size_toArray, List.length_cons, List.length_nil, List.replicate, List.cons_append, List.nil_append]
  refine viaL ?_
  ((first | refine qc1 rfl rfl fun K hK => ?_ | refine qc3 rfl rfl fun K hK => ?_); simp (disch := (first | omega | (simp only [sz] <;> omega) | fail)) only [go_sem]; refine ⟨_, _, hlk, ?_⟩; (try simp only [go_sem]); with_reducible refine hK _ _ ?_; clear hK K)
  unfold lkV seV rsV
  refine viaL ?_
  ((first | refine qc1 rfl rfl fun K hK => ?_ | refine qc3 rfl rfl fun K hK => ?_); simp (disch := (first | omega | (simp only [sz] <;> omega) | fail)) only [go_sem]; refine ⟨_, _, hfd, ?_⟩; (try simp only [go_sem]); with_reducible refine hK _ _ ?_; clear hK K)
  refine viaL ?_
  ((first | refine qc1 rfl rfl fun K hK => ?_ | refine qc3 rfl rfl fun K hK => ?_); simp (disch := (first | omega | (simp only [sz] <;> omega) | fail)) only [go_sem]; refine ⟨_, _, hr _, ?_⟩; (try simp only [go_sem]); with_reducible refine hK _ _ ?_; clear hK K)
  refine viaL ?_
  ((first | refine qp1 rfl rfl fun K hK => ?_ | refine qp3 rfl rfl fun K hK => ?_); simp (disch := (first | omega | (simp only [sz] <;> omega) | fail)) only [go_sem]; refine ⟨_, _, qpu fun w => gState_any N T 8 w hN hT, ?_⟩; (try simp only [go_sem]); with_reducible refine hK _ _ ?_; clear hK K)
  refine viaL ?_
  ((first | refine qp1 rfl rfl fun K hK => ?_ | refine qp3 rfl rfl fun K hK => ?_); simp (disch := (first | omega | (simp only [sz] <;> omega) | fail)) only [go_sem]; refine ⟨_, _, .load _ (acc_p hp hm) (acc_m hp hm) (by omega), ?_⟩; (try simp only [go_sem]); with_reducible refine hK _ _ ?_; clear hK K)
  have hl8 : wAt ws (gat N T 11 8) = some (sU 1 z 0 v) := D.live
  rw [acc_acc hne, load_same, load_w hl8]
  refine viaL ?_
  have hws := sWord_sU (accS S p m me (steps + 1 + 1 + 1) ws bs) (k := 1) (s := z) (o := 0) (v := v) (by decide) hz (by decide) hv
  unfold stV at hws
  ((first | refine qc1 rfl rfl fun K hK => ?_ | refine qc3 rfl rfl fun K hK => ?_); simp (disch := (first | omega | (simp only [sz] <;> omega) | fail)) only [go_sem]; refine ⟨_, _, hws, ?_⟩; (try simp only [go_sem]); with_reducible refine hK _ _ ?_; clear hK K)
  refine viaL ?_
  ((first | refine qp1 rfl rfl fun K hK => ?_ | refine qp3 rfl rfl fun K hK => ?_); simp (disch := (first | omega | (simp only [sz] <;> omega) | fail)) only [go_sem]; refine ⟨_, _, .steps (acc_p hp hm), ?_⟩; (try simp only [go_sem]); with_reducible refine hK _ _ ?_; clear hK K)
  refine viaL ?_
  have ht := tells_does (accS S p m me (steps + 1 + 1 + 1) ws bs) p m me _ rm 0 0 (steps + 1 + 1 + 1) 0 (acc_p hp hm)
  unfold rsV at ht
  ((first | refine qc1 rfl rfl fun K hK => ?_ | refine qc3 rfl rfl fun K hK => ?_); simp (disch := (first | omega | (simp only [sz] <;> omega) | fail)) only [go_sem]; refine ⟨_, _, ht, ?_⟩; (try simp only [go_sem]); with_reducible refine hK _ _ ?_; clear hK K)
  refine viaL ?_
  refine Goes.fin rfl (by simp (disch := (first | omega | (simp only [heapL_next, List.length_cons, List.length_nil, List.size_toArray, geo_len] <;> omega) | fail)) only [go_sem, resA, res1A, Try.results83] <;> rfl) ?_
  rfl
def rwP (p e : Nat) : Blk := { cells := [prtV p], elem := e, ro := true }
def rwB (b e : Nat) : Blk := { cells := [.int .u8 b], elem := e, ro := true }
theorem rw_rows {S : St} {p b e1 e2 n : Nat} (h : p < S.length) : ∀ r ∈ [rwP p e1, rwB b e2], ∀ u ∈ r.cells, Clo (Kn n (OF.cnt S)) u := by
  intro r hr u hu
  simp only [List.mem_cons, List.not_mem_nil, or_false] at hr
  rcases hr with rfl | rfl
  · simp only [rwP, List.mem_cons, List.not_mem_nil, or_false] at hu; subst hu; exact pclo h
  · simp only [rwB, List.mem_cons, List.not_mem_nil, or_false] at hu; subst hu; exact iclo
theorem clo_ptr {n c q : Nat} (h : q < n) : Clo (Kn n c) (.pointer (some ⟨q, 0, none⟩)) := fun F F' hs => by
  obtain ⟨h1, h2, h3⟩ := hs q (.inl h)
  simp [adr, h1, h2, h3]
set_option maxHeartbeats 1000000 in
theorem write1_does (S : St) (p m me : Nat) (steps : Nat) (ws : List UInt64) (bs : List UInt8) (n : Int) (b : UInt8) (e1 e2 : Nat) (hp : S[p]? = some (.port m me steps)) (hm : S[m]? = some (.mem ws bs)) (hst : steps ≤ 100000000000) :
    DoesX OF 131 #[.int .i64 n, .pointer (some ⟨0, 0, none⟩), .pointer (some ⟨1, 0, none⟩)] [rwP p e1, rwB b.toNat e2] S (.int .u8 0) [rwP p e1, rwB b.toNat e2] [] (accS S p m me (steps + 1) ws (bS n b bs)) := by
  refine DoesX.mk Try.func131 rfl rfl ?clo ?rows ?_
  case clo => exact clo3 iclo (clo_ptr (by simp)) (clo_ptr (by simp))
  case rows => exact rw_rows (hlt_of hp)
  rw [Try.ntmps131]; simp only [List.size_toArray, List.length_cons, List.length_nil, List.replicate, List.cons_append, List.nil_append]
  simp only [rwP, rwB, List.map_cons, List.map_nil]
  refine via ?_
  ((first | refine qp1 rfl rfl fun K hK => ?_ | refine qp3 rfl rfl fun K hK => ?_); simp (disch := (first | omega | (simp only [sz] <;> omega) | fail)) only [go_sem]; refine ⟨_, _, .put _ b hp hm (by omega), ?_⟩; (try simp only [go_sem]); with_reducible refine hK _ _ ?_; clear hK K)
  refine via ?_
  refine Goes.finS rfl (by simp (disch := (first | omega | (simp only [heapL_next, List.length_cons, List.length_nil, List.size_toArray, geo_len] <;> omega) | fail)) only [go_sem, resA, res1A, Try.results131] <;> rfl) ?_ rfl ?_
  · rfl
  · exact Clo.plain rfl
end Go.Proofs.Ytceddijolfpppaa
namespace Go.Proofs.Ytceddijolfpppaa
open Go Go.RowKit
set_option linter.unusedSimpArgs false
set_option linter.unusedVariables false
attribute [local simp] rwP rwB
def tvR (p : Nat) : Value := .func (.method "Get") #[prtV p] #[]
theorem tvR_clo {n p : Nat} {S : St} (h : p < S.length) : Clo (Kn n (OF.cnt S)) (tvR p) := fun F F' hs => by
  have h1 := pclo (n := n) (S := S) h F F' hs
  simp only [tvR, ren_func, List.map_toArray, List.map_cons, List.map_nil, h1]
def tvW : Value := .func (.func 131) #[] #[.pointer (some ⟨0, 0, none⟩), .pointer (some ⟨1, 0, none⟩)]
theorem tvW_clo {c : Nat} : Clo (Kn 2 c) tvW := fun F F' hs => by
  have h1 := clo_ptr (n := 2) (c := c) (q := 0) (by omega) F F' hs
  have h2 := clo_ptr (n := 2) (c := c) (q := 1) (by omega) F F' hs
  simp only [tvW, ren_func, List.map_toArray, List.map_cons, List.map_nil, h1, h2]
set_option maxHeartbeats 4000000 in
theorem touchesR_bad (S : St) (p m me : Nat) (steps : Nat) (ws : List UInt64) (bs : List UInt8) (N T : Nat) (off : Int) (at' : Int) (hp : S[p]? = some (.port m me steps)) (hm : S[m]? = some (.mem ws bs)) (hst : steps ≤ 10000000000) (hN1 : 4 ≤ N) (hN : N ≤ 256) (hT : T ≤ 64) (hb : at' < 0 ∨ (N : Int) * 64 ≤ at' ∨ at'.tmod 8 ≠ 0) :
    Does OF 130 #[prtV p, .agg (geoC N T), .int .i64 at', .int .i64 off, tvR p] [] S (rsV 0 0 13 steps 0) S := by
  have hne := hne_of hp hm
  refine Does.mk Try.func130 rfl rfl ?clo ?hand ?_
  case clo => exact clo5 (pclo (hlt_of hp)) gclo iclo iclo (tvR_clo (hlt_of hp))
  case hand => exact Hand.plain (rsV_plain _ _ _ _ _)
  rw [Try.ntmps130]; simp only [List.size_toArray, List.length_cons, List.length_nil, List.replicate, List.cons_append, List.nil_append]
  simp only [tvR]
  refine via ?_
  ((first | refine qc1 rfl rfl fun K hK => ?_ | refine qc3 rfl rfl fun K hK => ?_); simp (disch := (first | omega | (simp only [sz] <;> omega) | fail)) only [go_sem]; refine ⟨_, _, looks_bad S p m me steps N T at' hp hN hb, ?_⟩; (try simp only [go_sem]); with_reducible refine hK _ _ ?_; clear hK K)
  unfold lkV seV rsV
  refine via ?_
  refine Goes.fin rfl (by simp (disch := (first | omega | (simp only [heapL_next, List.length_cons, List.length_nil, List.size_toArray, geo_len] <;> omega) | fail)) only [go_sem, resA, res1A, Try.results130] <;> rfl) ?_
  rfl
set_option maxHeartbeats 4000000 in
theorem touchesR_free (S : St) (p m me : Nat) (steps : Nat) (ws : List UInt64) (bs : List UInt8) (N T : Nat) (off : Int) (k : Nat) (hp : S[p]? = some (.port m me steps)) (hm : S[m]? = some (.mem ws bs)) (hst : steps ≤ 10000000000) (hN1 : 4 ≤ N) (hN : N ≤ 256) (hT : T ≤ 64) (hk : k < 8 * N) (h1 : 0 ≤ gat N T 6 me) (h2 : 0 ≤ gat N T 11 k) (hw : wAt ws (gat N T 11 k) = some 0) :
    Does OF 130 #[prtV p, .agg (geoC N T), .int .i64 ((8 * k : Nat) : Int), .int .i64 off, tvR p] [] S (rsV 0 0 13 (steps + 1) 0) (accS S p m me (steps + 1) ws bs) := by
  have hne := hne_of hp hm
  refine Does.mk Try.func130 rfl rfl ?clo ?hand ?_
  case clo => exact clo5 (pclo (hlt_of hp)) gclo iclo iclo (tvR_clo (hlt_of hp))
  case hand => exact Hand.plain (rsV_plain _ _ _ _ _)
  rw [Try.ntmps130]; simp only [List.size_toArray, List.length_cons, List.length_nil, List.replicate, List.cons_append, List.nil_append]
  simp only [tvR]
  refine via ?_
  ((first | refine qc1 rfl rfl fun K hK => ?_ | refine qc3 rfl rfl fun K hK => ?_); simp (disch := (first | omega | (simp only [sz] <;> omega) | fail)) only [go_sem]; refine ⟨_, _, looks_free S p m me steps ws bs N T k hp hm (by omega) hN hT hk h1 h2 hw, ?_⟩; (try simp only [go_sem]); with_reducible refine hK _ _ ?_; clear hK K)
  unfold lkV seV rsV
  refine via ?_
  refine Goes.fin rfl (by simp (disch := (first | omega | (simp only [heapL_next, List.length_cons, List.length_nil, List.size_toArray, geo_len] <;> omega) | fail)) only [go_sem, resA, res1A, Try.results130] <;> rfl) ?_
  rfl
set_option maxHeartbeats 4000000 in
theorem touchesR_out (S : St) (p m me : Nat) (steps : Nat) (ws : List UInt64) (bs : List UInt8) (N T : Nat) (off : Int) (kd ln cl z v : Nat) (hp : S[p]? = some (.port m me steps)) (hm : S[m]? = some (.mem ws bs)) (hst : steps ≤ 10000000000) (hN1 : 4 ≤ N) (hN : N ≤ 256) (hT : T ≤ 64) (h1 : 0 ≤ gat N T 6 me) (hz : z < 65536) (hv : v < 4294967296) (D : Dt N T ws kd ln cl z v) (ho : off < 0 ∨ (z : Int) ≤ off) :
    Does OF 130 #[prtV p, .agg (geoC N T), .int .i64 64, .int .i64 off, tvR p] [] S (rsV 0 0 14 (steps + 1) 0) (accS S p m me (steps + 1) ws bs) := by
  have hne := hne_of hp hm
  refine Does.mk Try.func130 rfl rfl ?clo ?hand ?_
  case clo => exact clo5 (pclo (hlt_of hp)) gclo iclo iclo (tvR_clo (hlt_of hp))
  case hand => exact Hand.plain (rsV_plain _ _ _ _ _)
  rw [Try.ntmps130]; simp only [List.size_toArray, List.length_cons, List.length_nil, List.replicate, List.cons_append, List.nil_append]
  simp only [tvR]
  have g11 : 0 ≤ gat N T 11 ((8 : Nat) : Int) := by rw [gState_at' (by omega) (by omega)]; omega
  have hlk := looks_live S p m me steps ws bs N T 8 z v hp hm (by omega) hN hT (by omega) h1 g11 hz hv D.live
  refine via ?_
  ((first | refine qc1 rfl rfl fun K hK => ?_ | refine qc3 rfl rfl fun K hK => ?_); simp (disch := (first | omega | (simp only [sz] <;> omega) | fail)) only [go_sem]; refine ⟨_, _, hlk, ?_⟩; (try simp only [go_sem]); with_reducible refine hK _ _ ?_; clear hK K)
  unfold lkV seV rsV
  have ht := tells_does (accS S p m me (steps + 1) ws bs) p m me _ 0 0 14 (steps + 1) 0 (acc_p hp hm)
  unfold rsV at ht
  by_cases c1 : off < 0
  · refine via ?_
    ((first | refine qc1 rfl rfl fun K hK => ?_ | refine qc3 rfl rfl fun K hK => ?_); simp (disch := (first | omega | (simp only [sz] <;> omega) | fail)) only [go_sem]; refine ⟨_, _, ht, ?_⟩; (try simp only [go_sem]); with_reducible refine hK _ _ ?_; clear hK K)
    refine via ?_
    refine Goes.fin rfl (by simp (disch := (first | omega | (simp only [heapL_next, List.length_cons, List.length_nil, List.size_toArray, geo_len] <;> omega) | fail)) only [go_sem, resA, res1A, Try.results130] <;> rfl) ?_
    rfl
  · refine via ?_
    ((first | refine qc1 rfl rfl fun K hK => ?_ | refine qc3 rfl rfl fun K hK => ?_); simp (disch := (first | omega | (simp only [sz] <;> omega) | fail)) only [go_sem]; refine ⟨_, _, ht, ?_⟩; (try simp only [go_sem]); with_reducible refine hK _ _ ?_; clear hK K)
    refine via ?_
    refine Goes.fin rfl (by simp (disch := (first | omega | (simp only [heapL_next, List.length_cons, List.length_nil, List.size_toArray, geo_len] <;> omega) | fail)) only [go_sem, resA, res1A, Try.results130] <;> rfl) ?_
    rfl
set_option maxHeartbeats 4000000 in
theorem touchesR_in (S : St) (p m me : Nat) (steps : Nat) (ws : List UInt64) (bs : List UInt8) (N T : Nat) (off : Int) (kd ln cl z v : Nat) (hp : S[p]? = some (.port m me steps)) (hm : S[m]? = some (.mem ws bs)) (hst : steps ≤ 10000000000) (hN1 : 4 ≤ N) (hN : N ≤ 256) (hT : T ≤ 64) (h1 : 0 ≤ gat N T 6 me) (hz : z < 65536) (hv : v < 4294967296) (D : Dt N T ws kd ln cl z v) (ho : 0 ≤ off) (ho' : off < (z : Int)) :
    Does OF 130 #[prtV p, .agg (geoC N T), .int .i64 64, .int .i64 off, tvR p] [] S (rsV 0 (bT (64 + off) bs).toNat 0 (steps + 1) (steps + 2)) (accS S p m me (steps + 2) ws bs) := by
  have hne := hne_of hp hm
  refine Does.mk Try.func130 rfl rfl ?clo ?hand ?_
  case clo => exact clo5 (pclo (hlt_of hp)) gclo iclo iclo (tvR_clo (hlt_of hp))
  case hand => exact Hand.plain (rsV_plain _ _ _ _ _)
  rw [Try.ntmps130]; simp only [List.size_toArray, List.length_cons, List.length_nil, List.replicate, List.cons_append, List.nil_append]
  simp only [tvR]
  have g11 : 0 ≤ gat N T 11 ((8 : Nat) : Int) := by rw [gState_at' (by omega) (by omega)]; omega
  have hlk := looks_live S p m me steps ws bs N T 8 z v hp hm (by omega) hN hT (by omega) h1 g11 hz hv D.live
  refine via ?_
  ((first | refine qc1 rfl rfl fun K hK => ?_ | refine qc3 rfl rfl fun K hK => ?_); simp (disch := (first | omega | (simp only [sz] <;> omega) | fail)) only [go_sem]; refine ⟨_, _, hlk, ?_⟩; (try simp only [go_sem]); with_reducible refine hK _ _ ?_; clear hK K)
  unfold lkV seV rsV
  have ht := tells_does (accS S p m me (steps + 1) ws bs) p m me _ 0 0 0 (steps + 1) 0 (acc_p hp hm)
  unfold rsV at ht
  have q1 : IntKind.i64.wrap (64 + off) = 64 + off := by rw [wrap_i64 (by omega) (by omega)]
  refine via ?_
  ((first | refine qc1 rfl rfl fun K hK => ?_ | refine qc3 rfl rfl fun K hK => ?_); simp (disch := (first | omega | (simp only [sz] <;> omega) | fail)) only [go_sem]; refine ⟨_, _, ht, ?_⟩; (try simp only [go_sem]); with_reducible refine hK _ _ ?_; clear hK K)
  refine viaF q1 ?_
  ((first | refine qp1 rfl rfl fun K hK => ?_ | refine qp3 rfl rfl fun K hK => ?_); simp (disch := (first | omega | (simp only [sz] <;> omega) | fail)) only [go_sem]; refine ⟨_, _, .get _ (acc_p hp hm) (acc_m hp hm) (by omega), ?_⟩; (try simp only [go_sem]); with_reducible refine hK _ _ ?_; clear hK K)
  rw [acc_acc hne]
  refine via ?_
  ((first | refine qp1 rfl rfl fun K hK => ?_ | refine qp3 rfl rfl fun K hK => ?_); simp (disch := (first | omega | (simp only [sz] <;> omega) | fail)) only [go_sem]; refine ⟨_, _, .steps (acc_p hp hm), ?_⟩; (try simp only [go_sem]); with_reducible refine hK _ _ ?_; clear hK K)
  refine via ?_
  have hu := tells_does (accS S p m me (steps + 1 + 1) ws bs) p m me _ 0 (bT (64 + off) bs).toNat 0 (steps + 1) (steps + 1 + 1) (acc_p hp hm)
  unfold rsV at hu
  ((first | refine qc1 rfl rfl fun K hK => ?_ | refine qc3 rfl rfl fun K hK => ?_); simp (disch := (first | omega | (simp only [sz] <;> omega) | fail)) only [go_sem]; refine ⟨_, _, hu, ?_⟩; (try simp only [go_sem]); with_reducible refine hK _ _ ?_; clear hK K)
  refine via ?_
  refine Goes.fin rfl (by simp (disch := (first | omega | (simp only [heapL_next, List.length_cons, List.length_nil, List.size_toArray, geo_len] <;> omega) | fail)) only [go_sem, resA, res1A, Try.results130] <;> rfl) ?_
  rfl
set_option maxHeartbeats 4000000 in
theorem touchesW_free (S : St) (p m me : Nat) (steps : Nat) (ws : List UInt64) (bs : List UInt8) (N T : Nat) (off : Int) (b : UInt8) (e1 e2 : Nat) (k : Nat) (hp : S[p]? = some (.port m me steps)) (hm : S[m]? = some (.mem ws bs)) (hst : steps ≤ 10000000000) (hN1 : 4 ≤ N) (hN : N ≤ 256) (hT : T ≤ 64) (hk : k < 8 * N) (h1 : 0 ≤ gat N T 6 me) (h2 : 0 ≤ gat N T 11 k) (hw : wAt ws (gat N T 11 k) = some 0) :
    DoesX OF 130 #[prtV p, .agg (geoC N T), .int .i64 ((8 * k : Nat) : Int), .int .i64 off, tvW] [rwP p e1, rwB b.toNat e2] S (rsV 0 0 13 (steps + 1) 0) [rwP p e1, rwB b.toNat e2] [] (accS S p m me (steps + 1) ws bs) := by
  have hne := hne_of hp hm
  refine DoesX.mk Try.func130 rfl rfl ?clo ?rows ?_
  case clo => exact clo5 (pclo (hlt_of hp)) gclo iclo iclo tvW_clo
  case rows => exact rw_rows (hlt_of hp)
  rw [Try.ntmps130]; simp only [List.size_toArray, List.length_cons, List.length_nil, List.replicate, List.cons_append, List.nil_append]
  simp only [rwP, rwB, tvW, List.map_cons, List.map_nil]
  refine via ?_
  ((first | refine qc1 rfl rfl fun K hK => ?_ | refine qc3 rfl rfl fun K hK => ?_); simp (disch := (first | omega | (simp only [sz] <;> omega) | fail)) only [go_sem]; refine ⟨_, _, looks_free S p m me steps ws bs N T k hp hm (by omega) hN hT hk h1 h2 hw, ?_⟩; (try simp only [go_sem]); with_reducible refine hK _ _ ?_; clear hK K)
  unfold lkV seV rsV
  refine via ?_
  refine Goes.finS rfl (by simp (disch := (first | omega | (simp only [heapL_next, List.length_cons, List.length_nil, List.size_toArray, geo_len] <;> omega) | fail)) only [go_sem, resA, res1A, Try.results130] <;> rfl) ?_ rfl ?_
  · rfl
  · exact Clo.plain (rsV_plain _ _ _ _ _)
set_option maxHeartbeats 4000000 in
theorem touchesW_out (S : St) (p m me : Nat) (steps : Nat) (ws : List UInt64) (bs : List UInt8) (N T : Nat) (off : Int) (b : UInt8) (e1 e2 : Nat) (kd ln cl z v : Nat) (hp : S[p]? = some (.port m me steps)) (hm : S[m]? = some (.mem ws bs)) (hst : steps ≤ 10000000000) (hN1 : 4 ≤ N) (hN : N ≤ 256) (hT : T ≤ 64) (h1 : 0 ≤ gat N T 6 me) (hz : z < 65536) (hv : v < 4294967296) (D : Dt N T ws kd ln cl z v) (ho : off < 0 ∨ (z : Int) ≤ off) :
    DoesX OF 130 #[prtV p, .agg (geoC N T), .int .i64 64, .int .i64 off, tvW] [rwP p e1, rwB b.toNat e2] S (rsV 0 0 14 (steps + 1) 0) [rwP p e1, rwB b.toNat e2] [] (accS S p m me (steps + 1) ws bs) := by
  have hne := hne_of hp hm
  refine DoesX.mk Try.func130 rfl rfl ?clo ?rows ?_
  case clo => exact clo5 (pclo (hlt_of hp)) gclo iclo iclo tvW_clo
  case rows => exact rw_rows (hlt_of hp)
  rw [Try.ntmps130]; simp only [List.size_toArray, List.length_cons, List.length_nil, List.replicate, List.cons_append, List.nil_append]
  simp only [rwP, rwB, tvW, List.map_cons, List.map_nil]
  have g11 : 0 ≤ gat N T 11 ((8 : Nat) : Int) := by rw [gState_at' (by omega) (by omega)]; omega
  have hlk := looks_live S p m me steps ws bs N T 8 z v hp hm (by omega) hN hT (by omega) h1 g11 hz hv D.live
  refine via ?_
  ((first | refine qc1 rfl rfl fun K hK => ?_ | refine qc3 rfl rfl fun K hK => ?_); simp (disch := (first | omega | (simp only [sz] <;> omega) | fail)) only [go_sem]; refine ⟨_, _, hlk, ?_⟩; (try simp only [go_sem]); with_reducible refine hK _ _ ?_; clear hK K)
  unfold lkV seV rsV
  have ht := tells_does (accS S p m me (steps + 1) ws bs) p m me _ 0 0 14 (steps + 1) 0 (acc_p hp hm)
  unfold rsV at ht
  by_cases c1 : off < 0
  · refine via ?_
    ((first | refine qc1 rfl rfl fun K hK => ?_ | refine qc3 rfl rfl fun K hK => ?_); simp (disch := (first | omega | (simp only [sz] <;> omega) | fail)) only [go_sem]; refine ⟨_, _, ht, ?_⟩; (try simp only [go_sem]); with_reducible refine hK _ _ ?_; clear hK K)
    refine via ?_
    refine Goes.finS rfl (by simp (disch := (first | omega | (simp only [heapL_next, List.length_cons, List.length_nil, List.size_toArray, geo_len] <;> omega) | fail)) only [go_sem, resA, res1A, Try.results130] <;> rfl) ?_ rfl ?_
    · rfl
    · exact Clo.plain (rsV_plain _ _ _ _ _)
  · refine via ?_
    ((first | refine qc1 rfl rfl fun K hK => ?_ | refine qc3 rfl rfl fun K hK => ?_); simp (disch := (first | omega | (simp only [sz] <;> omega) | fail)) only [go_sem]; refine ⟨_, _, ht, ?_⟩; (try simp only [go_sem]); with_reducible refine hK _ _ ?_; clear hK K)
    refine via ?_
    refine Goes.finS rfl (by simp (disch := (first | omega | (simp only [heapL_next, List.length_cons, List.length_nil, List.size_toArray, geo_len] <;> omega) | fail)) only [go_sem, resA, res1A, Try.results130] <;> rfl) ?_ rfl ?_
    · rfl
    · exact Clo.plain (rsV_plain _ _ _ _ _)
set_option maxHeartbeats 4000000 in
theorem touchesW_in (S : St) (p m me : Nat) (steps : Nat) (ws : List UInt64) (bs : List UInt8) (N T : Nat) (off : Int) (b : UInt8) (e1 e2 : Nat) (kd ln cl z v : Nat) (hp : S[p]? = some (.port m me steps)) (hm : S[m]? = some (.mem ws bs)) (hst : steps ≤ 10000000000) (hN1 : 4 ≤ N) (hN : N ≤ 256) (hT : T ≤ 64) (h1 : 0 ≤ gat N T 6 me) (hz : z < 65536) (hv : v < 4294967296) (D : Dt N T ws kd ln cl z v) (ho : 0 ≤ off) (ho' : off < (z : Int)) :
    DoesX OF 130 #[prtV p, .agg (geoC N T), .int .i64 64, .int .i64 off, tvW] [rwP p e1, rwB b.toNat e2] S (rsV 0 0 0 (steps + 1) (steps + 2)) [rwP p e1, rwB b.toNat e2] [] (accS S p m me (steps + 2) ws (bS (64 + off) b bs)) := by
  have hne := hne_of hp hm
  refine DoesX.mk Try.func130 rfl rfl ?clo ?rows ?_
  case clo => exact clo5 (pclo (hlt_of hp)) gclo iclo iclo tvW_clo
  case rows => exact rw_rows (hlt_of hp)
  rw [Try.ntmps130]; simp only [List.size_toArray, List.length_cons, List.length_nil, List.replicate, List.cons_append, List.nil_append]
  simp only [rwP, rwB, tvW, List.map_cons, List.map_nil]
  have g11 : 0 ≤ gat N T 11 ((8 : Nat) : Int) := by rw [gState_at' (by omega) (by omega)]; omega
  have hlk := looks_live S p m me steps ws bs N T 8 z v hp hm (by omega) hN hT (by omega) h1 g11 hz hv D.live
  refine via ?_
  ((first | refine qc1 rfl rfl fun K hK => ?_ | refine qc3 rfl rfl fun K hK => ?_); simp (disch := (first | omega | (simp only [sz] <;> omega) | fail)) only [go_sem]; refine ⟨_, _, hlk, ?_⟩; (try simp only [go_sem]); with_reducible refine hK _ _ ?_; clear hK K)
  unfold lkV seV rsV
  have ht := tells_does (accS S p m me (steps + 1) ws bs) p m me _ 0 0 0 (steps + 1) 0 (acc_p hp hm)
  unfold rsV at ht
  have q1 : IntKind.i64.wrap (64 + off) = 64 + off := by rw [wrap_i64 (by omega) (by omega)]
  refine via ?_
  ((first | refine qc1 rfl rfl fun K hK => ?_ | refine qc3 rfl rfl fun K hK => ?_); simp (disch := (first | omega | (simp only [sz] <;> omega) | fail)) only [go_sem]; refine ⟨_, _, ht, ?_⟩; (try simp only [go_sem]); with_reducible refine hK _ _ ?_; clear hK K)
  refine viaF q1 ?_
  ((first | refine At.callX [0, 1] rfl rfl rfl (by decide) rfl (fun K hK => ?_) | refine RG.callX [0, 1] rfl rfl rfl rfl (by decide) (fun K hK => ?_)); simp (disch := (first | omega | (simp only [heapL_next, List.length_cons, List.length_nil, List.size_toArray, geo_len] <;> omega) | fail)) only [go_sem]; refine ⟨_, _, _, _, _, _, write1_does (accS S p m me (steps + 1) ws bs) p m me (steps + 1) ws bs (64 + off) b e1 e2 (acc_p hp hm) (acc_m hp hm) (by omega), by first | rfl | simp (disch := (first | omega | (simp only [heapL_next, List.length_cons, List.length_nil, List.size_toArray, geo_len] <;> omega) | fail)) only [go_sem], by ((repeat (refine ⟨⟨_, rfl, rfl, ?_, (by first | exact .inr rfl | exact .inl rfl), (by first | exact fun h => h | exact fun _ => rfl | (intro h; cases h))⟩, ?_⟩; · first | exact plain_map numRow_plain | (simp [up_prt]; done) | exact plain_map (by simp [plainB]; done) | simp [up_0, up_1, up_2, up_00, up_base, up_slack, adr])); exact trivial), by first | exact ⟨rfl, rfl⟩ | rfl, ?_⟩; (try simp only [go_sem]); (first | refine hK _ _ _ ?_ | refine hK _ _ _ _ ?_); clear hK K)
  simp only [rwP, rwB, List.map_cons, List.map_nil, reduceCtorEq, if_false, ↓reduceIte]
  rw [acc_acc hne]
  refine via ?_
  ((first | refine qp1 rfl rfl fun K hK => ?_ | refine qp3 rfl rfl fun K hK => ?_); simp (disch := (first | omega | (simp only [sz] <;> omega) | fail)) only [go_sem]; refine ⟨_, _, .steps (acc_p hp hm), ?_⟩; (try simp only [go_sem]); with_reducible refine hK _ _ ?_; clear hK K)
  refine via ?_
  have hu := tells_does (accS S p m me (steps + 1 + 1) ws (bS (64 + off) b bs)) p m me _ 0 0 0 (steps + 1) (steps + 1 + 1) (acc_p hp hm)
  unfold rsV at hu
  ((first | refine qc1 rfl rfl fun K hK => ?_ | refine qc3 rfl rfl fun K hK => ?_); simp (disch := (first | omega | (simp only [sz] <;> omega) | fail)) only [go_sem]; refine ⟨_, _, hu, ?_⟩; (try simp only [go_sem]); with_reducible refine hK _ _ ?_; clear hK K)
  refine via ?_
  refine Goes.finS rfl (by simp (disch := (first | omega | (simp only [heapL_next, List.length_cons, List.length_nil, List.size_toArray, geo_len] <;> omega) | fail)) only [go_sem, resA, res1A, Try.results130] <;> rfl) ?_ rfl ?_
  · rfl
  · exact Clo.plain (rsV_plain _ _ _ _ _)
end Go.Proofs.Ytceddijolfpppaa
namespace Go.Proofs.Ytceddijolfpppaa
open Go Go.RowKit
set_option linter.unusedSimpArgs false
set_option linter.unusedVariables false
attribute [local simp] rwP rwB
set_option maxHeartbeats 2000000 in
theorem read_bad (S : St) (p m me : Nat) (steps : Nat) (ws : List UInt64) (bs : List UInt8) (N T : Nat) (off : Int) (at' : Int) (hp : S[p]? = some (.port m me steps)) (hm : S[m]? = some (.mem ws bs)) (hst : steps ≤ 10000000000) (hN1 : 4 ≤ N) (hN : N ≤ 256) (hT : T ≤ 64) (hb : at' < 0 ∨ (N : Int) * 64 ≤ at' ∨ at'.tmod 8 ≠ 0) :
    Does OF 78 #[prtV p, .agg (geoC N T), .int .i64 at', .int .i64 off] [] S (rsV 0 0 13 steps 0) S := by
  refine Does.mk Try.func78 rfl rfl ?clo ?hand ?_
  case clo => exact clo4 (pclo (hlt_of hp)) gclo iclo iclo
  case hand => exact Hand.plain (rsV_plain _ _ _ _ _)
  rw [Try.ntmps78]; simp only [List.size_toArray, List.length_cons, List.length_nil, List.replicate, List.cons_append, List.nil_append]
  refine via ?_
  have ht := touchesR_bad S p m me steps ws bs N T off at' hp hm hst hN1 hN hT hb
  unfold tvR at ht
  ((first | refine qc1 rfl rfl fun K hK => ?_ | refine qc3 rfl rfl fun K hK => ?_); simp (disch := (first | omega | (simp only [sz] <;> omega) | fail)) only [go_sem]; refine ⟨_, _, ht, ?_⟩; (try simp only [go_sem]); with_reducible refine hK _ _ ?_; clear hK K)
  unfold rsV
  refine via ?_
  refine Goes.fin rfl (by simp (disch := (first | omega | (simp only [heapL_next, List.length_cons, List.length_nil, List.size_toArray, geo_len] <;> omega) | fail)) only [go_sem, resA, res1A, Try.results78] <;> rfl) ?_
  rfl
set_option maxHeartbeats 2000000 in
theorem read_in (S : St) (p m me : Nat) (steps : Nat) (ws : List UInt64) (bs : List UInt8) (N T : Nat) (off : Int) (kd ln cl z v : Nat) (hp : S[p]? = some (.port m me steps)) (hm : S[m]? = some (.mem ws bs)) (hst : steps ≤ 10000000000) (hN1 : 4 ≤ N) (hN : N ≤ 256) (hT : T ≤ 64) (h1 : 0 ≤ gat N T 6 me) (hz : z < 65536) (hv : v < 4294967296) (D : Dt N T ws kd ln cl z v) (ho : 0 ≤ off) (ho' : off < (z : Int)) :
    Does OF 78 #[prtV p, .agg (geoC N T), .int .i64 64, .int .i64 off] [] S (rsV 0 (bT (64 + off) bs).toNat 0 (steps + 1) (steps + 2)) (accS S p m me (steps + 2) ws bs) := by
  refine Does.mk Try.func78 rfl rfl ?clo ?hand ?_
  case clo => exact clo4 (pclo (hlt_of hp)) gclo iclo iclo
  case hand => exact Hand.plain (rsV_plain _ _ _ _ _)
  rw [Try.ntmps78]; simp only [List.size_toArray, List.length_cons, List.length_nil, List.replicate, List.cons_append, List.nil_append]
  refine via ?_
  have ht := touchesR_in S p m me steps ws bs N T off kd ln cl z v hp hm hst hN1 hN hT h1 hz hv D ho ho'
  unfold tvR at ht
  ((first | refine qc1 rfl rfl fun K hK => ?_ | refine qc3 rfl rfl fun K hK => ?_); simp (disch := (first | omega | (simp only [sz] <;> omega) | fail)) only [go_sem]; refine ⟨_, _, ht, ?_⟩; (try simp only [go_sem]); with_reducible refine hK _ _ ?_; clear hK K)
  unfold rsV
  refine via ?_
  refine Goes.fin rfl (by simp (disch := (first | omega | (simp only [heapL_next, List.length_cons, List.length_nil, List.size_toArray, geo_len] <;> omega) | fail)) only [go_sem, resA, res1A, Try.results78] <;> rfl) ?_
  rfl
set_option maxHeartbeats 2000000 in
theorem write_free (S : St) (p m me : Nat) (steps : Nat) (ws : List UInt64) (bs : List UInt8) (N T : Nat) (off : Int) (b : UInt8) (k : Nat) (hp : S[p]? = some (.port m me steps)) (hm : S[m]? = some (.mem ws bs)) (hst : steps ≤ 10000000000) (hN1 : 4 ≤ N) (hN : N ≤ 256) (hT : T ≤ 64) (hk : k < 8 * N) (h1 : 0 ≤ gat N T 6 me) (h2 : 0 ≤ gat N T 11 k) (hw : wAt ws (gat N T 11 k) = some 0) :
    Does OF 77 #[prtV p, .agg (geoC N T), .int .i64 ((8 * k : Nat) : Int), .int .i64 off, .int .u8 b.toNat] [] S (rsV 0 0 13 (steps + 1) 0) (accS S p m me (steps + 1) ws bs) := by
  refine Does.mk Try.func77 rfl rfl ?clo ?hand ?_
  case clo => exact clo5 (pclo (hlt_of hp)) gclo iclo iclo iclo
  case hand => exact Hand.plain (rsV_plain _ _ _ _ _)
  rw [Try.ntmps77]; simp only [List.size_toArray, List.length_cons, List.length_nil, List.replicate, List.cons_append, List.nil_append]
  refine via ?_
  simp only [prtV]
  simp only [iface_prt]
  refine via ?_
  ((first | refine At.callX [0, 2] rfl rfl rfl (by decide) rfl (fun K hK => ?_) | refine RG.callX [0, 2] rfl rfl rfl rfl (by decide) (fun K hK => ?_)); simp (disch := (first | omega | (simp only [heapL_next, List.length_cons, List.length_nil, List.size_toArray, geo_len] <;> omega) | fail)) only [go_sem, tvW, ren_func]; refine ⟨_, _, _, _, _, _, touchesW_free S p m me steps ws bs N T off b _ _ k hp hm hst hN1 hN hT hk h1 h2 hw, by first | rfl | simp (disch := (first | omega | (simp only [heapL_next, List.length_cons, List.length_nil, List.size_toArray, geo_len] <;> omega) | fail)) only [go_sem, tvW, ren_func], by ((repeat (refine ⟨⟨_, rfl, rfl, ?_, (by first | exact .inr rfl | exact .inl rfl), (by first | exact fun h => h | exact fun _ => rfl | (intro h; cases h))⟩, ?_⟩; · first | exact plain_map numRow_plain | (simp [up_prt]; done) | exact plain_map (by simp [plainB]; done) | simp [up_0, up_1, up_2, up_00, up_base, up_slack, adr])); exact trivial), by first | exact ⟨rfl, rfl⟩ | rfl, ?_⟩; (try simp only [go_sem]); (first | refine hK _ _ _ ?_ | refine hK _ _ _ _ ?_); clear hK K)
  simp only [rwP, rwB, List.map_cons, List.map_nil, reduceCtorEq, if_false, ↓reduceIte]
  unfold rsV
  refine via ?_
  refine Goes.fin rfl (by simp (disch := (first | omega | (simp only [heapL_next, List.length_cons, List.length_nil, List.size_toArray, geo_len] <;> omega) | fail)) only [go_sem, resA, res1A, Try.results77] <;> rfl) ?_
  rfl
set_option maxHeartbeats 2000000 in
theorem write_out (S : St) (p m me : Nat) (steps : Nat) (ws : List UInt64) (bs : List UInt8) (N T : Nat) (off : Int) (b : UInt8) (kd ln cl z v : Nat) (hp : S[p]? = some (.port m me steps)) (hm : S[m]? = some (.mem ws bs)) (hst : steps ≤ 10000000000) (hN1 : 4 ≤ N) (hN : N ≤ 256) (hT : T ≤ 64) (h1 : 0 ≤ gat N T 6 me) (hz : z < 65536) (hv : v < 4294967296) (D : Dt N T ws kd ln cl z v) (ho : off < 0 ∨ (z : Int) ≤ off) :
    Does OF 77 #[prtV p, .agg (geoC N T), .int .i64 64, .int .i64 off, .int .u8 b.toNat] [] S (rsV 0 0 14 (steps + 1) 0) (accS S p m me (steps + 1) ws bs) := by
  refine Does.mk Try.func77 rfl rfl ?clo ?hand ?_
  case clo => exact clo5 (pclo (hlt_of hp)) gclo iclo iclo iclo
  case hand => exact Hand.plain (rsV_plain _ _ _ _ _)
  rw [Try.ntmps77]; simp only [List.size_toArray, List.length_cons, List.length_nil, List.replicate, List.cons_append, List.nil_append]
  refine via ?_
  simp only [prtV]
  simp only [iface_prt]
  refine via ?_
  ((first | refine At.callX [0, 2] rfl rfl rfl (by decide) rfl (fun K hK => ?_) | refine RG.callX [0, 2] rfl rfl rfl rfl (by decide) (fun K hK => ?_)); simp (disch := (first | omega | (simp only [heapL_next, List.length_cons, List.length_nil, List.size_toArray, geo_len] <;> omega) | fail)) only [go_sem, tvW, ren_func]; refine ⟨_, _, _, _, _, _, touchesW_out S p m me steps ws bs N T off b _ _ kd ln cl z v hp hm hst hN1 hN hT h1 hz hv D ho, by first | rfl | simp (disch := (first | omega | (simp only [heapL_next, List.length_cons, List.length_nil, List.size_toArray, geo_len] <;> omega) | fail)) only [go_sem, tvW, ren_func], by ((repeat (refine ⟨⟨_, rfl, rfl, ?_, (by first | exact .inr rfl | exact .inl rfl), (by first | exact fun h => h | exact fun _ => rfl | (intro h; cases h))⟩, ?_⟩; · first | exact plain_map numRow_plain | (simp [up_prt]; done) | exact plain_map (by simp [plainB]; done) | simp [up_0, up_1, up_2, up_00, up_base, up_slack, adr])); exact trivial), by first | exact ⟨rfl, rfl⟩ | rfl, ?_⟩; (try simp only [go_sem]); (first | refine hK _ _ _ ?_ | refine hK _ _ _ _ ?_); clear hK K)
  simp only [rwP, rwB, List.map_cons, List.map_nil, reduceCtorEq, if_false, ↓reduceIte]
  unfold rsV
  refine via ?_
  refine Goes.fin rfl (by simp (disch := (first | omega | (simp only [heapL_next, List.length_cons, List.length_nil, List.size_toArray, geo_len] <;> omega) | fail)) only [go_sem, resA, res1A, Try.results77] <;> rfl) ?_
  rfl
set_option maxHeartbeats 2000000 in
theorem write_in (S : St) (p m me : Nat) (steps : Nat) (ws : List UInt64) (bs : List UInt8) (N T : Nat) (off : Int) (b : UInt8) (kd ln cl z v : Nat) (hp : S[p]? = some (.port m me steps)) (hm : S[m]? = some (.mem ws bs)) (hst : steps ≤ 10000000000) (hN1 : 4 ≤ N) (hN : N ≤ 256) (hT : T ≤ 64) (h1 : 0 ≤ gat N T 6 me) (hz : z < 65536) (hv : v < 4294967296) (D : Dt N T ws kd ln cl z v) (ho : 0 ≤ off) (ho' : off < (z : Int)) :
    Does OF 77 #[prtV p, .agg (geoC N T), .int .i64 64, .int .i64 off, .int .u8 b.toNat] [] S (rsV 0 0 0 (steps + 1) (steps + 2)) (accS S p m me (steps + 2) ws (bS (64 + off) b bs)) := by
  refine Does.mk Try.func77 rfl rfl ?clo ?hand ?_
  case clo => exact clo5 (pclo (hlt_of hp)) gclo iclo iclo iclo
  case hand => exact Hand.plain (rsV_plain _ _ _ _ _)
  rw [Try.ntmps77]; simp only [List.size_toArray, List.length_cons, List.length_nil, List.replicate, List.cons_append, List.nil_append]
  refine via ?_
  simp only [prtV]
  simp only [iface_prt]
  refine via ?_
  ((first | refine At.callX [0, 2] rfl rfl rfl (by decide) rfl (fun K hK => ?_) | refine RG.callX [0, 2] rfl rfl rfl rfl (by decide) (fun K hK => ?_)); simp (disch := (first | omega | (simp only [heapL_next, List.length_cons, List.length_nil, List.size_toArray, geo_len] <;> omega) | fail)) only [go_sem, tvW, ren_func]; refine ⟨_, _, _, _, _, _, touchesW_in S p m me steps ws bs N T off b _ _ kd ln cl z v hp hm hst hN1 hN hT h1 hz hv D ho ho', by first | rfl | simp (disch := (first | omega | (simp only [heapL_next, List.length_cons, List.length_nil, List.size_toArray, geo_len] <;> omega) | fail)) only [go_sem, tvW, ren_func], by ((repeat (refine ⟨⟨_, rfl, rfl, ?_, (by first | exact .inr rfl | exact .inl rfl), (by first | exact fun h => h | exact fun _ => rfl | (intro h; cases h))⟩, ?_⟩; · first | exact plain_map numRow_plain | (simp [up_prt]; done) | exact plain_map (by simp [plainB]; done) | simp [up_0, up_1, up_2, up_00, up_base, up_slack, adr])); exact trivial), by first | exact ⟨rfl, rfl⟩ | rfl, ?_⟩; (try simp only [go_sem]); (first | refine hK _ _ _ ?_ | refine hK _ _ _ _ ?_); clear hK K)
  simp only [rwP, rwB, List.map_cons, List.map_nil, reduceCtorEq, if_false, ↓reduceIte]
  unfold rsV
  refine via ?_
  refine Goes.fin rfl (by simp (disch := (first | omega | (simp only [heapL_next, List.length_cons, List.length_nil, List.size_toArray, geo_len] <;> omega) | fail)) only [go_sem, resA, res1A, Try.results77] <;> rfl) ?_
  rfl
end Go.Proofs.Ytceddijolfpppaa
namespace Go.Proofs.Ytceddijolfpppaa
open Go Go.RowKit
set_option linter.unusedSimpArgs false
set_option linter.unusedVariables false
theorem is_does (S : St) (n b e lin touch : Nat) : Does OF 86 #[rsV n b e lin touch, .int .i64 n, .int .u8 b, .int .i64 e] [] S (.bool true) S := by
  refine Does.mk Try.func86 rfl rfl ?clo ?hand ?_
  case clo => exact clo4 (Clo.plain (rsV_plain _ _ _ _ _)) iclo iclo iclo
  case hand => exact Hand.plain rfl
  rw [Try.ntmps86]; simp only [List.size_toArray, List.length_cons, List.length_nil, List.replicate, List.cons_append, List.nil_append]
  unfold rsV
  repeat (first | refine Goes.reg ?_ | refine Goes.ctl2 rfl ?_ | ((first | refine qv1 rfl rfl rfl fun K hK => ?_ | refine qv3 rfl rfl rfl fun K hK => ?_ | refine qv2 rfl rfl rfl rfl rfl rfl fun K hK => ?_ | refine qv4 rfl rfl rfl rfl rfl rfl fun K hK => ?_ | refine qn1 rfl rfl rfl fun K hK => ?_ | refine qn3 rfl rfl rfl fun K hK => ?_ | refine qt1 rfl rfl rfl fun K hK => ?_ | refine qt3 rfl rfl rfl fun K hK => ?_); simp (disch := (first | omega | (simp only [sz] <;> omega) | fail)) only [go_sem, beq_self_eq_true]; with_reducible refine hK _ _ ?_; clear hK K) | refine At.nil rfl ?_ | refine RG.nil rfl ?_ | ((first | refine AtL.skipg rfl rfl rfl rfl rfl ?_ | refine RGL.skipg rfl rfl rfl rfl rfl ?_ | refine AtL.skipu rfl rfl rfl rfl ?_ | refine RGL.skipu rfl rfl rfl rfl ?_); simp only [putL, List.set_cons_zero, List.set_cons_succ]) | refine Goes.yes rfl ?_ | refine Goes.no rfl ?_ | refine Goes.drawR [] (by kernel_rfl) ?_)
  refine Goes.fin rfl (by simp (disch := (first | omega | (simp only [heapL_next, List.length_cons, List.length_nil, List.size_toArray, geo_len] <;> omega) | fail)) only [go_sem, resA, res1A, Try.results86] <;> rfl) ?_
  rfl
theorem roomK_le (k : Nat) (hk : k < 5) : 1 ≤ roomK k ∧ roomK k ≤ 128 := by
  obtain rfl | rfl | rfl | rfl | rfl : k = 0 ∨ k = 1 ∨ k = 2 ∨ k = 3 ∨ k = 4 := by omega
  all_goals decide
theorem begun17_does (S : St) (N T z k : Nat) (hk : k < 5) (hN1 : 4 ≤ N) (hN : N ≤ 256) (hT1 : 1 ≤ T) (hT : T ≤ 64) (hz0 : z ≤ 1000000) :
    ∃ ws st kd ln cl, st ≤ 2000 ∧ Dt N T ws kd ln cl (z % roomK k + 1) 64 ∧ kd < 8 ∧ ln < 1024 ∧ cl < 4 ∧ (∀ S, Does OF 133 #[pgV kd ln cl 0] [] S (.int .i64 (roomK k : Nat)) S) ∧
    Does OF 76 #[.int .i64 N, .int .i64 T, .int .i64 k, .int .i64 z] [] S (.tuple #[.agg (geoC N T), hndV S.length, hndV (S.length + 2), blkV 64 (z % roomK k + 1) (roomK k)]) (S ++ [.mem ws (List.replicate (64 * N) 0), .port S.length 0 st, .port S.length 0 0]) := by
  by_cases h : k < 4
  · obtain ⟨ws, st, h1, h2, h3⟩ := begun17_class S N T z k h hN1 hN hT1 hT hz0
    exact ⟨ws, st, 3, 1, k, h1, h2, by decide, by decide, h, fun S => room_slab S 1 k 0 h, h3⟩
  · obtain rfl : k = 4 := by omega
    obtain ⟨ws, st, h1, h2, h3⟩ := begun17_run S N T z hN1 hN hT1 hT hz0
    exact ⟨ws, st, 4, 2, 0, h1, h2, by decide, by decide, by decide, fun S => room_run S 2 0 0 (by decide), h3⟩
set_option maxHeartbeats 4000000 in
theorem awake17_does (S : St) : ∃ S', Does OF 75 #[] [] S (.bool true) S' := by
  obtain ⟨ws, st, kd, ln, cl, hst, D, hkd, hln, hcl, hroom, hbeg⟩ := begun17_does S 4 2 19 2 (by decide) (by decide) (by decide) (by decide) (by decide) (by decide)
  rw [show 19 % roomK 2 + 1 = 20 by decide] at D hbeg
  rw [show roomK 2 = 24 by decide] at hroom hbeg
  have hbt : bT (64 + 3) (bS (64 + 3) 9 (List.replicate (64 * 4) 0)) = 9 := by decide
  generalize List.replicate (64 * 4) (0 : UInt8) = bs at hbeg hbt
  refine ⟨S ++ [.mem ws (bS (64 + 3) 9 bs), .port S.length 0 st, .port S.length 0 8], ?_⟩
  have hu := usable_live (S ++ [.mem ws bs, .port S.length 0 st, .port S.length 0 0]) (S.length + 2) S.length 0 0 ws bs 4 2 kd ln cl 20 64 24 three_q three_m (by decide) (by decide) (by decide) (by decide) (by decide) (by decide) (by decide) D hkd hln hcl hroom
  rw [three_acc2] at hu
  have hw := write_in (S ++ [.mem ws bs, .port S.length 0 st, .port S.length 0 3]) (S.length + 2) S.length 0 3 ws bs 4 2 3 9 kd ln cl 20 64 three_q three_m (by decide) (by decide) (by decide) (by decide) (by decide) (by decide) (by decide) D (by decide) (by decide)
  rw [three_acc2] at hw
  have hr := read_in (S ++ [.mem ws (bS (64 + 3) 9 bs), .port S.length 0 st, .port S.length 0 5]) (S.length + 2) S.length 0 5 ws (bS (64 + 3) 9 bs) 4 2 3 kd ln cl 20 64 three_q three_m (by decide) (by decide) (by decide) (by decide) (by decide) (by decide) (by decide) D (by decide) (by decide)
  rw [three_acc2, show (bT (64 + 3) (bS (64 + 3) 9 bs)).toNat = 9 by rw [hbt]; rfl] at hr
  have hw2 := write_out (S ++ [.mem ws (bS (64 + 3) 9 bs), .port S.length 0 st, .port S.length 0 7]) (S.length + 2) S.length 0 7 ws (bS (64 + 3) 9 bs) 4 2 20 9 kd ln cl 20 64 three_q three_m (by decide) (by decide) (by decide) (by decide) (by decide) (by decide) (by decide) D (by decide)
  rw [three_acc2] at hw2
  have hr2 := read_bad (S ++ [.mem ws (bS (64 + 3) 9 bs), .port S.length 0 st, .port S.length 0 8]) (S.length + 2) S.length 0 8 ws (bS (64 + 3) 9 bs) 4 2 0 65 three_q three_m (by decide) (by decide) (by decide) (by decide) (by decide)
  refine Does.mk Try.func75 rfl rfl ?clo ?hand ?_
  case clo => intro u hu; simp at hu
  case hand => exact Hand.plain rfl
  rw [Try.ntmps75]; simp only [List.size_toArray, List.length_cons, List.length_nil, List.replicate, List.cons_append, List.nil_append]
  refine via ?_
  ((first | refine qc1 rfl rfl fun K hK => ?_ | refine qc3 rfl rfl fun K hK => ?_); simp (disch := (first | omega | (simp only [sz] <;> omega) | fail)) only [go_sem]; refine ⟨_, _, hbeg, ?_⟩; (try simp only [go_sem]); with_reducible refine hK _ _ ?_; clear hK K)
  unfold blkV
  repeat (first | refine Goes.reg ?_ | refine Goes.ctl2 rfl ?_ | ((first | refine qv1 rfl rfl rfl fun K hK => ?_ | refine qv3 rfl rfl rfl fun K hK => ?_ | refine qv2 rfl rfl rfl rfl rfl rfl fun K hK => ?_ | refine qv4 rfl rfl rfl rfl rfl rfl fun K hK => ?_ | refine qn1 rfl rfl rfl fun K hK => ?_ | refine qn3 rfl rfl rfl fun K hK => ?_ | refine qt1 rfl rfl rfl fun K hK => ?_ | refine qt3 rfl rfl rfl fun K hK => ?_); simp (disch := (first | omega | (simp only [sz] <;> omega) | fail)) only [go_sem, beq_self_eq_true]; with_reducible refine hK _ _ ?_; clear hK K) | refine At.nil rfl ?_ | refine RG.nil rfl ?_ | ((first | refine AtL.skipg rfl rfl rfl rfl rfl ?_ | refine RGL.skipg rfl rfl rfl rfl rfl ?_ | refine AtL.skipu rfl rfl rfl rfl ?_ | refine RGL.skipu rfl rfl rfl rfl ?_); simp only [putL, List.set_cons_zero, List.set_cons_succ]) | refine Goes.yes rfl ?_ | refine Goes.no rfl ?_ | refine Goes.drawR [] (by kernel_rfl) ?_)
  ((first | refine qc1 rfl rfl fun K hK => ?_ | refine qc3 rfl rfl fun K hK => ?_); simp (disch := (first | omega | (simp only [sz] <;> omega) | fail)) only [go_sem]; refine ⟨_, _, hu, ?_⟩; (try simp only [go_sem]); with_reducible refine hK _ _ ?_; clear hK K)
  refine via ?_
  ((first | refine qc1 rfl rfl fun K hK => ?_ | refine qc3 rfl rfl fun K hK => ?_); simp (disch := (first | omega | (simp only [sz] <;> omega) | fail)) only [go_sem]; refine ⟨_, _, is_does _ 24 0 0 (0 + 3) 0, ?_⟩; (try simp only [go_sem]); with_reducible refine hK _ _ ?_; clear hK K)
  refine via ?_
  ((first | refine qc1 rfl rfl fun K hK => ?_ | refine qc3 rfl rfl fun K hK => ?_); simp (disch := (first | omega | (simp only [sz] <;> omega) | fail)) only [go_sem]; refine ⟨_, _, hw, ?_⟩; (try simp only [go_sem]); with_reducible refine hK _ _ ?_; clear hK K)
  refine via ?_
  ((first | refine qc1 rfl rfl fun K hK => ?_ | refine qc3 rfl rfl fun K hK => ?_); simp (disch := (first | omega | (simp only [sz] <;> omega) | fail)) only [go_sem]; refine ⟨_, _, is_does _ 0 0 0 (3 + 1) (3 + 2), ?_⟩; (try simp only [go_sem]); with_reducible refine hK _ _ ?_; clear hK K)
  refine via ?_
  ((first | refine qc1 rfl rfl fun K hK => ?_ | refine qc3 rfl rfl fun K hK => ?_); simp (disch := (first | omega | (simp only [sz] <;> omega) | fail)) only [go_sem]; refine ⟨_, _, hr, ?_⟩; (try simp only [go_sem]); with_reducible refine hK _ _ ?_; clear hK K)
  refine via ?_
  ((first | refine qc1 rfl rfl fun K hK => ?_ | refine qc3 rfl rfl fun K hK => ?_); simp (disch := (first | omega | (simp only [sz] <;> omega) | fail)) only [go_sem]; refine ⟨_, _, is_does _ 0 9 0 (5 + 1) (5 + 2), ?_⟩; (try simp only [go_sem]); with_reducible refine hK _ _ ?_; clear hK K)
  refine via ?_
  ((first | refine qc1 rfl rfl fun K hK => ?_ | refine qc3 rfl rfl fun K hK => ?_); simp (disch := (first | omega | (simp only [sz] <;> omega) | fail)) only [go_sem]; refine ⟨_, _, hw2, ?_⟩; (try simp only [go_sem]); with_reducible refine hK _ _ ?_; clear hK K)
  refine via ?_
  ((first | refine qc1 rfl rfl fun K hK => ?_ | refine qc3 rfl rfl fun K hK => ?_); simp (disch := (first | omega | (simp only [sz] <;> omega) | fail)) only [go_sem]; refine ⟨_, _, is_does _ 0 0 14 (7 + 1) 0, ?_⟩; (try simp only [go_sem]); with_reducible refine hK _ _ ?_; clear hK K)
  refine via ?_
  ((first | refine qc1 rfl rfl fun K hK => ?_ | refine qc3 rfl rfl fun K hK => ?_); simp (disch := (first | omega | (simp only [sz] <;> omega) | fail)) only [go_sem]; refine ⟨_, _, hr2, ?_⟩; (try simp only [go_sem]); with_reducible refine hK _ _ ?_; clear hK K)
  refine via ?_
  ((first | refine qc1 rfl rfl fun K hK => ?_ | refine qc3 rfl rfl fun K hK => ?_); simp (disch := (first | omega | (simp only [sz] <;> omega) | fail)) only [go_sem]; refine ⟨_, _, is_does _ 0 0 13 8 0, ?_⟩; (try simp only [go_sem]); with_reducible refine hK _ _ ?_; clear hK K)
  refine via ?_
  refine Goes.fin rfl (by simp (disch := (first | omega | (simp only [heapL_next, List.length_cons, List.length_nil, List.size_toArray, geo_len] <;> omega) | fail)) only [go_sem, resA, res1A, Try.results75] <;> rfl) ?_
  rfl
end Go.Proofs.Ytceddijolfpppaa
namespace Go.Proofs.Ytceddijolfpppaa
open Go Go.RowKit
set_option linter.unusedSimpArgs false
set_option linter.unusedVariables false
end Go.Proofs.Ytceddijolfpppaa
