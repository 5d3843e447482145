/-
  Layer 17 over the abstract machine: what the statements share: is, awake, the document's answers.
  Conditions: those of each contract.
-/
import Derived.Test.YtceddijolfpppaaUData
import Derived.Test.YtceddijolfpppaaUApp
namespace Go.Proofs.Ytceddijolfpppaa
open Go Go.RowKit
set_option linter.unusedSimpArgs false
set_option linter.unusedVariables false
theorem is_does (S : St) (n b e lin touch : Nat) : Does OF 86 #[rsV n b e lin touch, .int .i64 n, .int .u8 b, .int .i64 e] [] S (.bool true) S := by
  refine Does.mk Try.func86 rfl rfl ?clo ?hand ?_
  case clo => exact clo4 (Clo.plain (rsV_plain _ _ _ _ _)) iclo iclo iclo
  case hand => exact Hand.plain rfl
  rw [Try.ntmps86]; simp only [List.size_toArray, List.length_cons, List.length_nil, List.replicate, List.cons_append, List.nil_append]
  unfold rsV
  repeat (first | refine Goes.reg ?_ | refine Goes.ctl2 rfl ?_ | ((first | refine qv1 rfl rfl rfl fun K hK => ?_ | refine qv3 rfl rfl rfl fun K hK => ?_ | refine qv2 rfl rfl rfl rfl rfl rfl fun K hK => ?_ | refine qv4 rfl rfl rfl rfl rfl rfl fun K hK => ?_ | refine qn1 rfl rfl rfl fun K hK => ?_ | refine qn3 rfl rfl rfl fun K hK => ?_ | refine qt1 rfl rfl rfl fun K hK => ?_ | refine qt3 rfl rfl rfl fun K hK => ?_); simp (disch := (first | omega | (simp only [sz] <;> omega) | fail)) only [go_sem, beq_self_eq_true]; with_reducible refine hK _ _ ?_; clear hK K) | refine At.nil rfl ?_ | refine RG.nil rfl ?_ | ((first | refine AtL.skipg rfl rfl rfl rfl rfl ?_ | refine RGL.skipg rfl rfl rfl rfl rfl ?_ | refine AtL.skipu rfl rfl rfl rfl ?_ | refine RGL.skipu rfl rfl rfl rfl ?_); simp only [putL, List.set_cons_zero, List.set_cons_succ]) | refine Goes.yes rfl ?_ | refine Goes.no rfl ?_ | refine Goes.drawR [] (by kernel_rfl) ?_)
  refine Goes.fin rfl (by simp (disch := (first | omega | (simp only [heapL_next, List.length_cons, List.length_nil, List.size_toArray, geo_len] <;> omega) | fail)) only [go_sem, resA, res1A, Try.results86] <;> rfl) ?_
  rfl
theorem roomK_le (k : Nat) (hk : k < 5) : 1 ≤ roomK k ∧ roomK k ≤ 128 := by
  obtain rfl | rfl | rfl | rfl | rfl : k = 0 ∨ k = 1 ∨ k = 2 ∨ k = 3 ∨ k = 4 := by omega
  all_goals decide
theorem begun17_does (S : St) (N T z k : Nat) (hk : k < 5) (hN1 : 4 ≤ N) (hN : N ≤ 256) (hT1 : 1 ≤ T) (hT : T ≤ 64) (hz0 : z ≤ 1000000) :
    ∃ ws st kd ln cl, st ≤ 2000 ∧ Dt N T ws kd ln cl (z % roomK k + 1) 64 ∧ kd < 8 ∧ ln < 1024 ∧ cl < 4 ∧ (∀ S, Does OF 133 #[pgV kd ln cl 0] [] S (.int .i64 (roomK k : Nat)) S) ∧
    Does OF 76 #[.int .i64 N, .int .i64 T, .int .i64 k, .int .i64 z] [] S (.tuple #[.agg (geoC N T), hndV S.length, hndV (S.length + 2), blkV 64 (z % roomK k + 1) (roomK k)]) (S ++ [.mem ws (List.replicate (64 * N) 0), .port S.length 0 st, .port S.length 0 0]) := by
  by_cases h : k < 4
  · obtain ⟨ws, st, h1, h2, h3⟩ := begun17_class S N T z k h hN1 hN hT1 hT hz0
    exact ⟨ws, st, 3, 1, k, h1, h2, by decide, by decide, h, fun S => room_slab S 1 k 0 h, h3⟩
  · obtain rfl : k = 4 := by omega
    obtain ⟨ws, st, h1, h2, h3⟩ := begun17_run S N T z hN1 hN hT1 hT hz0
    exact ⟨ws, st, 4, 2, 0, h1, h2, by decide, by decide, by decide, fun S => room_run S 2 0 0 (by decide), h3⟩
theorem refUsable_does (S : St) (z rm : Nat) : Does OF 80 #[.int .i64 z, .int .i64 rm] [] S (.tuple #[.int .i64 rm, .int .i64 0]) S := by
  refine Does.mk Try.func80 rfl rfl ?clo ?hand ?_
  case clo => exact clo2 iclo iclo
  case hand => exact Hand.plain (by simp [plainB])
  rw [Try.ntmps80]; simp only [List.size_toArray, List.length_cons, List.length_nil, List.replicate, List.cons_append, List.nil_append]
  refine via ?_
  refine Goes.fin rfl (by simp (disch := (first | omega | (simp only [heapL_next, List.length_cons, List.length_nil, List.size_toArray, geo_len] <;> omega) | fail)) only [go_sem, resA, res1A, Try.results80] <;> rfl) ?_
  rfl
theorem refUsable_none (S : St) (rm : Nat) : Does OF 80 #[.int .i64 (-1), .int .i64 rm] [] S (.tuple #[.int .i64 0, .int .i64 13]) S := by
  refine Does.mk Try.func80 rfl rfl ?clo ?hand ?_
  case clo => exact clo2 iclo iclo
  case hand => exact Hand.plain (by simp [plainB])
  rw [Try.ntmps80]; simp only [List.size_toArray, List.length_cons, List.length_nil, List.replicate, List.cons_append, List.nil_append]
  refine via ?_
  refine Goes.fin rfl (by simp (disch := (first | omega | (simp only [heapL_next, List.length_cons, List.length_nil, List.size_toArray, geo_len] <;> omega) | fail)) only [go_sem, resA, res1A, Try.results80] <;> rfl) ?_
  rfl
theorem refTouch_none (S : St) (off : Int) : Does OF 81 #[.int .i64 (-1), .int .i64 off] [] S (.int .i64 13) S := by
  refine Does.mk Try.func81 rfl rfl ?clo ?hand ?_
  case clo => exact clo2 iclo iclo
  case hand => exact Hand.plain rfl
  rw [Try.ntmps81]; simp only [List.size_toArray, List.length_cons, List.length_nil, List.replicate, List.cons_append, List.nil_append]
  refine via ?_
  refine Goes.fin rfl (by simp (disch := (first | omega | (simp only [heapL_next, List.length_cons, List.length_nil, List.size_toArray, geo_len] <;> omega) | fail)) only [go_sem, resA, res1A, Try.results81] <;> rfl) ?_
  rfl
theorem refTouch_in (S : St) (z : Nat) (off : Int) (h0 : 0 ≤ off) (h1 : off < z) : Does OF 81 #[.int .i64 z, .int .i64 off] [] S (.int .i64 0) S := by
  refine Does.mk Try.func81 rfl rfl ?clo ?hand ?_
  case clo => exact clo2 iclo iclo
  case hand => exact Hand.plain rfl
  rw [Try.ntmps81]; simp only [List.size_toArray, List.length_cons, List.length_nil, List.replicate, List.cons_append, List.nil_append]
  refine via ?_
  refine Goes.fin rfl (by simp (disch := (first | omega | (simp only [heapL_next, List.length_cons, List.length_nil, List.size_toArray, geo_len] <;> omega) | fail)) only [go_sem, resA, res1A, Try.results81] <;> rfl) ?_
  rfl
theorem refTouch_out (S : St) (z : Nat) (off : Int) (h0 : off < 0 ∨ (z : Int) ≤ off) : Does OF 81 #[.int .i64 z, .int .i64 off] [] S (.int .i64 14) S := by
  by_cases c : off < 0
  all_goals
    refine Does.mk Try.func81 rfl rfl ?clo ?hand ?_
    case clo => exact clo2 iclo iclo
    case hand => exact Hand.plain rfl
    rw [Try.ntmps81]; simp only [List.size_toArray, List.length_cons, List.length_nil, List.replicate, List.cons_append, List.nil_append]
    refine via ?_
    refine Goes.fin rfl (by simp (disch := (first | omega | (simp only [heapL_next, List.length_cons, List.length_nil, List.size_toArray, geo_len] <;> omega) | fail)) only [go_sem, resA, res1A, Try.results81] <;> rfl) ?_
    rfl
theorem refGood_does (S : St) (N : Nat) (hN : 4 ≤ N) (hN' : N ≤ 256) : Does OF 82 #[.int .i64 64, .int .i64 N] [] S (.bool true) S := by
  refine Does.mk Try.func82 rfl rfl ?clo ?hand ?_
  case clo => exact clo2 iclo iclo
  case hand => exact Hand.plain rfl
  rw [Try.ntmps82]; simp only [List.size_toArray, List.length_cons, List.length_nil, List.replicate, List.cons_append, List.nil_append]
  refine viaL ?_
  refine Goes.fin rfl (by simp (disch := (first | omega | (simp only [heapL_next, List.length_cons, List.length_nil, List.size_toArray, geo_len] <;> omega) | fail)) only [go_sem, resA, res1A, Try.results82] <;> rfl) ?_
  rfl
set_option maxHeartbeats 4000000 in
theorem awake17_does (S : St) : ∃ S', Does OF 75 #[] [] S (.bool true) S' := by
  obtain ⟨ws, st, kd, ln, cl, hst, D, hkd, hln, hcl, hroom, hbeg⟩ := begun17_does S 4 2 19 2 (by decide) (by decide) (by decide) (by decide) (by decide) (by decide)
  rw [show 19 % roomK 2 + 1 = 20 by decide] at D hbeg
  rw [show roomK 2 = 24 by decide] at hroom hbeg
  have hbt : bT (64 + 3) (bS (64 + 3) 9 (List.replicate (64 * 4) 0)) = 9 := by decide
  generalize List.replicate (64 * 4) (0 : UInt8) = bs at hbeg hbt
  refine ⟨S ++ [.mem ws (bS (64 + 3) 9 bs), .port S.length 0 st, .port S.length 0 8], ?_⟩
  have hu := usable_live (S ++ [.mem ws bs, .port S.length 0 st, .port S.length 0 0]) (S.length + 2) S.length 0 0 ws bs 4 2 kd ln cl 20 64 24 three_q three_m (by decide) (by decide) (by decide) (by decide) (by decide) (by decide) (by decide) D hkd hln hcl hroom
  rw [three_acc2] at hu
  have hw := write_in (S ++ [.mem ws bs, .port S.length 0 st, .port S.length 0 3]) (S.length + 2) S.length 0 3 ws bs 4 2 3 9 kd ln cl 20 64 three_q three_m (by decide) (by decide) (by decide) (by decide) (by decide) (by decide) (by decide) D (by decide) (by decide)
  rw [three_acc2] at hw
  have hr := read_in (S ++ [.mem ws (bS (64 + 3) 9 bs), .port S.length 0 st, .port S.length 0 5]) (S.length + 2) S.length 0 5 ws (bS (64 + 3) 9 bs) 4 2 3 kd ln cl 20 64 three_q three_m (by decide) (by decide) (by decide) (by decide) (by decide) (by decide) (by decide) D (by decide) (by decide)
  rw [three_acc2, show (bT (64 + 3) (bS (64 + 3) 9 bs)).toNat = 9 by rw [hbt]; rfl] at hr
  have hw2 := write_out (S ++ [.mem ws (bS (64 + 3) 9 bs), .port S.length 0 st, .port S.length 0 7]) (S.length + 2) S.length 0 7 ws (bS (64 + 3) 9 bs) 4 2 20 9 kd ln cl 20 64 three_q three_m (by decide) (by decide) (by decide) (by decide) (by decide) (by decide) (by decide) D (by decide)
  rw [three_acc2] at hw2
  have hr2 := read_bad (S ++ [.mem ws (bS (64 + 3) 9 bs), .port S.length 0 st, .port S.length 0 8]) (S.length + 2) S.length 0 8 ws (bS (64 + 3) 9 bs) 4 2 0 65 three_q three_m (by decide) (by decide) (by decide) (by decide) (by decide)
  refine Does.mk Try.func75 rfl rfl ?clo ?hand ?_
  case clo => intro u hu; simp at hu
  case hand => exact Hand.plain rfl
  rw [Try.ntmps75]; simp only [List.size_toArray, List.length_cons, List.length_nil, List.replicate, List.cons_append, List.nil_append]
  refine via ?_
  ((first | refine qc1 rfl rfl fun K hK => ?_ | refine qc3 rfl rfl fun K hK => ?_); simp (disch := (first | omega | (simp only [sz] <;> omega) | fail)) only [go_sem]; refine ⟨_, _, hbeg, ?_⟩; (try simp only [go_sem]); with_reducible refine hK _ _ ?_; clear hK K)
  unfold blkV
  repeat (first | refine Goes.reg ?_ | refine Goes.ctl2 rfl ?_ | ((first | refine qv1 rfl rfl rfl fun K hK => ?_ | refine qv3 rfl rfl rfl fun K hK => ?_ | refine qv2 rfl rfl rfl rfl rfl rfl fun K hK => ?_ | refine qv4 rfl rfl rfl rfl rfl rfl fun K hK => ?_ | refine qn1 rfl rfl rfl fun K hK => ?_ | refine qn3 rfl rfl rfl fun K hK => ?_ | refine qt1 rfl rfl rfl fun K hK => ?_ | refine qt3 rfl rfl rfl fun K hK => ?_); simp (disch := (first | omega | (simp only [sz] <;> omega) | fail)) only [go_sem, beq_self_eq_true]; with_reducible refine hK _ _ ?_; clear hK K) | refine At.nil rfl ?_ | refine RG.nil rfl ?_ | ((first | refine AtL.skipg rfl rfl rfl rfl rfl ?_ | refine RGL.skipg rfl rfl rfl rfl rfl ?_ | refine AtL.skipu rfl rfl rfl rfl ?_ | refine RGL.skipu rfl rfl rfl rfl ?_); simp only [putL, List.set_cons_zero, List.set_cons_succ]) | refine Goes.yes rfl ?_ | refine Goes.no rfl ?_ | refine Goes.drawR [] (by kernel_rfl) ?_)
  ((first | refine qc1 rfl rfl fun K hK => ?_ | refine qc3 rfl rfl fun K hK => ?_); simp (disch := (first | omega | (simp only [sz] <;> omega) | fail)) only [go_sem]; refine ⟨_, _, hu, ?_⟩; (try simp only [go_sem]); with_reducible refine hK _ _ ?_; clear hK K)
  refine via ?_
  ((first | refine qc1 rfl rfl fun K hK => ?_ | refine qc3 rfl rfl fun K hK => ?_); simp (disch := (first | omega | (simp only [sz] <;> omega) | fail)) only [go_sem]; refine ⟨_, _, is_does _ 24 0 0 (0 + 3) 0, ?_⟩; (try simp only [go_sem]); with_reducible refine hK _ _ ?_; clear hK K)
  refine via ?_
  ((first | refine qc1 rfl rfl fun K hK => ?_ | refine qc3 rfl rfl fun K hK => ?_); simp (disch := (first | omega | (simp only [sz] <;> omega) | fail)) only [go_sem]; refine ⟨_, _, hw, ?_⟩; (try simp only [go_sem]); with_reducible refine hK _ _ ?_; clear hK K)
  refine via ?_
  ((first | refine qc1 rfl rfl fun K hK => ?_ | refine qc3 rfl rfl fun K hK => ?_); simp (disch := (first | omega | (simp only [sz] <;> omega) | fail)) only [go_sem]; refine ⟨_, _, is_does _ 0 0 0 (3 + 1) (3 + 2), ?_⟩; (try simp only [go_sem]); with_reducible refine hK _ _ ?_; clear hK K)
  refine via ?_
  ((first | refine qc1 rfl rfl fun K hK => ?_ | refine qc3 rfl rfl fun K hK => ?_); simp (disch := (first | omega | (simp only [sz] <;> omega) | fail)) only [go_sem]; refine ⟨_, _, hr, ?_⟩; (try simp only [go_sem]); with_reducible refine hK _ _ ?_; clear hK K)
  refine via ?_
  ((first | refine qc1 rfl rfl fun K hK => ?_ | refine qc3 rfl rfl fun K hK => ?_); simp (disch := (first | omega | (simp only [sz] <;> omega) | fail)) only [go_sem]; refine ⟨_, _, is_does _ 0 9 0 (5 + 1) (5 + 2), ?_⟩; (try simp only [go_sem]); with_reducible refine hK _ _ ?_; clear hK K)
  refine via ?_
  ((first | refine qc1 rfl rfl fun K hK => ?_ | refine qc3 rfl rfl fun K hK => ?_); simp (disch := (first | omega | (simp only [sz] <;> omega) | fail)) only [go_sem]; refine ⟨_, _, hw2, ?_⟩; (try simp only [go_sem]); with_reducible refine hK _ _ ?_; clear hK K)
  refine via ?_
  ((first | refine qc1 rfl rfl fun K hK => ?_ | refine qc3 rfl rfl fun K hK => ?_); simp (disch := (first | omega | (simp only [sz] <;> omega) | fail)) only [go_sem]; refine ⟨_, _, is_does _ 0 0 14 (7 + 1) 0, ?_⟩; (try simp only [go_sem]); with_reducible refine hK _ _ ?_; clear hK K)
  refine via ?_
  ((first | refine qc1 rfl rfl fun K hK => ?_ | refine qc3 rfl rfl fun K hK => ?_); simp (disch := (first | omega | (simp only [sz] <;> omega) | fail)) only [go_sem]; refine ⟨_, _, hr2, ?_⟩; (try simp only [go_sem]); with_reducible refine hK _ _ ?_; clear hK K)
  refine via ?_
  ((first | refine qc1 rfl rfl fun K hK => ?_ | refine qc3 rfl rfl fun K hK => ?_); simp (disch := (first | omega | (simp only [sz] <;> omega) | fail)) only [go_sem]; refine ⟨_, _, is_does _ 0 0 13 8 0, ?_⟩; (try simp only [go_sem]); with_reducible refine hK _ _ ?_; clear hK K)
  refine via ?_
  refine Goes.fin rfl (by simp (disch := (first | omega | (simp only [heapL_next, List.length_cons, List.length_nil, List.size_toArray, geo_len] <;> omega) | fail)) only [go_sem, resA, res1A, Try.results75] <;> rfl) ?_
  rfl
end Go.Proofs.Ytceddijolfpppaa
namespace Go.Proofs.Ytceddijolfpppaa
open Go Go.RowKit
set_option linter.unusedSimpArgs false
set_option linter.unusedVariables false
theorem clo6 {K : Nat → Prop} {a b c d e f : Value} (ha : Clo K a) (hb : Clo K b) (hc : Clo K c) (hd : Clo K d) (he : Clo K e) (hf : Clo K f) : ∀ u ∈ #[a, b, c, d, e, f].toList, Clo K u := fun u hu => by
  simp only [List.mem_cons, List.not_mem_nil, or_false] at hu; rcases hu with rfl | rfl | rfl | rfl | rfl | rfl <;> assumption
end Go.Proofs.Ytceddijolfpppaa
namespace Go.Proofs.Ytceddijolfpppaa
open Go Go.RowKit
set_option linter.unusedSimpArgs false
set_option linter.unusedVariables false
set_option maxHeartbeats 8000000 in
set_option maxRecDepth 10000 in
theorem dataTells_law (pg k z : Nat) (at' off : Int) (b : UInt8) (h1 : pg ≤ 255) (h2 : k ≤ 255) (h3 : z ≤ 65535) (ha : -9223372036854775808 ≤ at' ∧ at' ≤ 9223372036854775807) (ho : -9223372036854775808 ≤ off ∧ off ≤ 9223372036854775807) :
    Law 13 #[.int .u8 pg, .int .u8 k, .int .u16 z, .int .i64 at', .int .i64 off, .int .u8 b.toNat] [] := by
  refine Law.mk Try.func13 rfl rfl (clo6 iclo iclo iclo iclo iclo iclo) ?_
  rw [Try.ntmps13]; simp only [List.size_toArray, List.length_cons, List.length_nil, List.replicate, List.cons_append, List.nil_append]
  have h9 := Nat.mod_lt pg (show 0 < 9 by decide)
  have h5 := Nat.mod_lt k (show 0 < 5 by decide)
  have m9 : (pg : Int).tmod 9 = ((pg % 9 : Nat) : Int) := tmod_n pg 9
  have m5 : (k : Int).tmod 5 = ((k % 5 : Nat) : Int) := tmod_n k 5
  have e4 : ((pg % 9 : Nat) : Int) + 4 = ((pg % 9 + 4 : Nat) : Int) := by push_cast; rfl
  have u9 : IntKind.u8.wrap ((pg % 9 : Nat) : Int) = ((pg % 9 : Nat) : Int) := by rw [IntKind.wrap_u8]; omega
  have u5 : IntKind.u8.wrap ((k % 5 : Nat) : Int) = ((k % 5 : Nat) : Int) := by rw [IntKind.wrap_u8]; omega
  refine viaF (And.intro m9 (And.intro u9 (And.intro e4 (And.intro m5 u5)))) ?_
  obtain ⟨N, hN⟩ : ∃ N, N = pg % 9 + 4 := ⟨_, rfl⟩
  obtain ⟨c, hc⟩ : ∃ c, c = k % 5 := ⟨_, rfl⟩
  rw [← hN, ← hc]
  rw [← hc] at h5
  have hN1 : 4 ≤ N := by omega
  have hN2 : N ≤ 256 := by omega
  clear m9 e4 u9 u5 m5
  obtain ⟨ws, st, kd, ln, cl, hst, D, hkd, hln, hcl, hroom, hbeg⟩ := begun17_does [] N 2 z c h5 hN1 hN2 (by decide) (by decide) (by omega)
  simp only [List.length_nil, List.nil_append, Nat.zero_add] at hbeg
  ((first | refine qc1 rfl rfl fun K hK => ?_ | refine qc3 rfl rfl fun K hK => ?_); simp (disch := (first | omega | (simp only [sz] <;> omega) | fail)) only [go_sem]; refine ⟨_, _, hbeg, ?_⟩; (try simp only [go_sem]); with_reducible refine hK _ _ ?_; clear hK K)
  unfold blkV
  obtain ⟨rm, hrm⟩ : ∃ rm, rm = roomK c := ⟨_, rfl⟩
  obtain ⟨zz, hzz⟩ : ∃ zz, zz = z % roomK c + 1 := ⟨_, rfl⟩
  rw [← hzz] at D
  rw [← hrm] at hroom
  rw [← hzz, ← hrm]
  have hrl := roomK_le c h5
  have hzl : zz ≤ 128 := by have := Nat.mod_lt z hrl.1; omega
  have hz1 : 1 ≤ zz := by omega
  clear hzz hrm
  have g6 : 0 ≤ gat N 2 6 ((0 : Nat) : Int) := by rw [gSerial_at' (by omega) (by decide)]; omega
  by_cases hat : at' = 64
  · subst hat
    by_cases hin : off < 0 ∨ (zz : Int) ≤ off
    · repeat (first | refine Goes.reg ?_ | refine Goes.ctl2 rfl ?_ | ((first | refine qv1 rfl rfl rfl fun K hK => ?_ | refine qv3 rfl rfl rfl fun K hK => ?_ | refine qv2 rfl rfl rfl rfl rfl rfl fun K hK => ?_ | refine qv4 rfl rfl rfl rfl rfl rfl fun K hK => ?_ | refine qn1 rfl rfl rfl fun K hK => ?_ | refine qn3 rfl rfl rfl fun K hK => ?_ | refine qt1 rfl rfl rfl fun K hK => ?_ | refine qt3 rfl rfl rfl fun K hK => ?_); simp (disch := (first | omega | (simp only [sz] <;> omega) | fail)) only [go_sem, beq_self_eq_true]; with_reducible refine hK _ _ ?_; clear hK K) | refine At.nil rfl ?_ | refine RG.nil rfl ?_ | ((first | refine AtL.skipg rfl rfl rfl rfl rfl ?_ | refine RGL.skipg rfl rfl rfl rfl rfl ?_ | refine AtL.skipu rfl rfl rfl rfl ?_ | refine RGL.skipu rfl rfl rfl rfl ?_); simp only [putL, List.set_cons_zero, List.set_cons_succ]) | refine Goes.yes rfl ?_ | refine Goes.no rfl ?_ | refine Goes.drawR [] (by kernel_rfl) ?_)
      ((first | refine qc1 rfl rfl fun K hK => ?_ | refine qc3 rfl rfl fun K hK => ?_); simp (disch := (first | omega | (simp only [sz] <;> omega) | fail)) only [go_sem]; refine ⟨_, _, refUsable_does _ zz rm, ?_⟩; (try simp only [go_sem]); with_reducible refine hK _ _ ?_; clear hK K)
      refine via ?_
      ((first | refine qc1 rfl rfl fun K hK => ?_ | refine qc3 rfl rfl fun K hK => ?_); simp (disch := (first | omega | (simp only [sz] <;> omega) | fail)) only [go_sem]; refine ⟨_, _, refTouch_out _ zz off hin, ?_⟩; (try simp only [go_sem]); with_reducible refine hK _ _ ?_; clear hK K)
      refine via ?_
      ((first | refine qc1 rfl rfl fun K hK => ?_ | refine qc3 rfl rfl fun K hK => ?_); simp (disch := (first | omega | (simp only [sz] <;> omega) | fail)) only [go_sem]; refine ⟨_, _, refGood_does _ N hN1 hN2, ?_⟩; (try simp only [go_sem]); with_reducible refine hK _ _ ?_; clear hK K)
      refine via ?_
      ((first | refine qp1 rfl rfl fun K hK => ?_ | refine qp3 rfl rfl fun K hK => ?_); simp (disch := (first | omega | (simp only [sz] <;> omega) | fail)) only [go_sem]; refine ⟨_, _, .mcopy (k := 0) rfl, ?_⟩; (try simp only [go_sem]); with_reducible refine hK _ _ ?_; clear hK K)
      try simp only [List.length_cons, List.length_nil, List.cons_append, List.nil_append]
      refine via ?_
      ((first | refine qc1 rfl rfl fun K hK => ?_ | refine qc3 rfl rfl fun K hK => ?_); simp (disch := (first | omega | (simp only [sz] <;> omega) | fail)) only [go_sem]; refine ⟨_, _, usable_live [.mem ws (List.replicate (64 * N) 0), .port 0 0 st, .port 0 0 0, .mem ws (List.replicate (64 * N) 0)] 2 0 0 0 ws _ N 2 kd ln cl zz 64 rm rfl rfl (by decide) hN1 hN2 (by decide) g6 (by omega) (by decide) D hkd hln hcl hroom, ?_⟩; (try simp only [go_sem]); with_reducible refine hK _ _ ?_; clear hK K)
      simp only [accS, List.set_cons_zero, List.set_cons_succ]
      unfold rsV
      refine via ?_
      ((first | refine qp1 rfl rfl fun K hK => ?_ | refine qp3 rfl rfl fun K hK => ?_); simp (disch := (first | omega | (simp only [sz] <;> omega) | fail)) only [go_sem]; refine ⟨_, _, .fresh rfl, ?_⟩; (try simp only [go_sem]); with_reducible refine hK _ _ ?_; clear hK K)
      try simp only [List.set_cons_zero, List.set_cons_succ]
      refine via ?_
      ((first | refine qc1 rfl rfl fun K hK => ?_ | refine qc3 rfl rfl fun K hK => ?_); simp (disch := (first | omega | (simp only [sz] <;> omega) | fail)) only [go_sem]; refine ⟨_, _, read_out [.mem ws (List.replicate (64 * N) 0), .port 0 0 st, .port 0 0 0, .mem ws (List.replicate (64 * N) 0)] 2 0 0 0 ws _ N 2 off kd ln cl zz 64 rfl rfl (by decide) hN1 hN2 (by decide) g6 (by omega) (by decide) D hin, ?_⟩; (try simp only [go_sem]); with_reducible refine hK _ _ ?_; clear hK K)
      simp only [accS, List.set_cons_zero, List.set_cons_succ]
      unfold rsV
      refine via ?_
      ((first | refine qp1 rfl rfl fun K hK => ?_ | refine qp3 rfl rfl fun K hK => ?_); simp (disch := (first | omega | (simp only [sz] <;> omega) | fail)) only [go_sem]; refine ⟨_, _, .msame rfl rfl, ?_⟩; (try simp only [go_sem]); with_reducible refine hK _ _ ?_; clear hK K)
      try simp only [decide_true, Bool.and_self]
      refine via ?_
      ((first | refine qp1 rfl rfl fun K hK => ?_ | refine qp3 rfl rfl fun K hK => ?_); simp (disch := (first | omega | (simp only [sz] <;> omega) | fail)) only [go_sem]; refine ⟨_, _, .fresh rfl, ?_⟩; (try simp only [go_sem]); with_reducible refine hK _ _ ?_; clear hK K)
      try simp only [List.set_cons_zero, List.set_cons_succ]
      refine via ?_
      ((first | refine qc1 rfl rfl fun K hK => ?_ | refine qc3 rfl rfl fun K hK => ?_); simp (disch := (first | omega | (simp only [sz] <;> omega) | fail)) only [go_sem]; refine ⟨_, _, write_out [.mem ws (List.replicate (64 * N) 0), .port 0 0 st, .port 0 0 0, .mem ws (List.replicate (64 * N) 0)] 2 0 0 0 ws _ N 2 off b kd ln cl zz 64 rfl rfl (by decide) hN1 hN2 (by decide) g6 (by omega) (by decide) D hin, ?_⟩; (try simp only [go_sem]); with_reducible refine hK _ _ ?_; clear hK K)
      simp only [accS, List.set_cons_zero, List.set_cons_succ]
      unfold rsV
      refine via ?_
      ((first | refine qp1 rfl rfl fun K hK => ?_ | refine qp3 rfl rfl fun K hK => ?_); simp (disch := (first | omega | (simp only [sz] <;> omega) | fail)) only [go_sem]; refine ⟨_, _, .msame rfl rfl, ?_⟩; (try simp only [go_sem]); with_reducible refine hK _ _ ?_; clear hK K)
      try simp only [decide_true, Bool.and_self]
      refine via ?_
      ((first | refine qc1 rfl rfl fun K hK => ?_ | refine qc3 rfl rfl fun K hK => ?_); simp (disch := (first | omega | (simp only [sz] <;> omega) | fail)) only [go_sem]; refine ⟨_, _, is_does _ rm 0 0 (0 + 3) 0, ?_⟩; (try simp only [go_sem]); with_reducible refine hK _ _ ?_; clear hK K)
      refine via ?_
      ((first | refine qc1 rfl rfl fun K hK => ?_ | refine qc3 rfl rfl fun K hK => ?_); simp (disch := (first | omega | (simp only [sz] <;> omega) | fail)) only [go_sem]; refine ⟨_, _, is_does _ 0 0 14 (0 + 1) 0, ?_⟩; (try simp only [go_sem]); with_reducible refine hK _ _ ?_; clear hK K)
      refine via ?_
      ((first | refine qc1 rfl rfl fun K hK => ?_ | refine qc3 rfl rfl fun K hK => ?_); simp (disch := (first | omega | (simp only [sz] <;> omega) | fail)) only [go_sem]; refine ⟨_, _, is_does _ 0 0 14 (0 + 1) 0, ?_⟩; (try simp only [go_sem]); with_reducible refine hK _ _ ?_; clear hK K)
      refine via ?_
      obtain ⟨S9, hA⟩ := awake17_does _
      ((first | refine qc1 rfl rfl fun K hK => ?_ | refine qc3 rfl rfl fun K hK => ?_); simp (disch := (first | omega | (simp only [sz] <;> omega) | fail)) only [go_sem]; refine ⟨_, _, hA, ?_⟩; (try simp only [go_sem]); with_reducible refine hK _ _ ?_; clear hK K)
      refine via ?_
      exact Goes.law rfl rfl
    have hin : 0 ≤ off ∧ off < (zz : Int) := by omega
    repeat (first | refine Goes.reg ?_ | refine Goes.ctl2 rfl ?_ | ((first | refine qv1 rfl rfl rfl fun K hK => ?_ | refine qv3 rfl rfl rfl fun K hK => ?_ | refine qv2 rfl rfl rfl rfl rfl rfl fun K hK => ?_ | refine qv4 rfl rfl rfl rfl rfl rfl fun K hK => ?_ | refine qn1 rfl rfl rfl fun K hK => ?_ | refine qn3 rfl rfl rfl fun K hK => ?_ | refine qt1 rfl rfl rfl fun K hK => ?_ | refine qt3 rfl rfl rfl fun K hK => ?_); simp (disch := (first | omega | (simp only [sz] <;> omega) | fail)) only [go_sem, beq_self_eq_true]; with_reducible refine hK _ _ ?_; clear hK K) | refine At.nil rfl ?_ | refine RG.nil rfl ?_ | ((first | refine AtL.skipg rfl rfl rfl rfl rfl ?_ | refine RGL.skipg rfl rfl rfl rfl rfl ?_ | refine AtL.skipu rfl rfl rfl rfl ?_ | refine RGL.skipu rfl rfl rfl rfl ?_); simp only [putL, List.set_cons_zero, List.set_cons_succ]) | refine Goes.yes rfl ?_ | refine Goes.no rfl ?_ | refine Goes.drawR [] (by kernel_rfl) ?_)
    ((first | refine qc1 rfl rfl fun K hK => ?_ | refine qc3 rfl rfl fun K hK => ?_); simp (disch := (first | omega | (simp only [sz] <;> omega) | fail)) only [go_sem]; refine ⟨_, _, refUsable_does _ zz rm, ?_⟩; (try simp only [go_sem]); with_reducible refine hK _ _ ?_; clear hK K)
    refine via ?_
    ((first | refine qc1 rfl rfl fun K hK => ?_ | refine qc3 rfl rfl fun K hK => ?_); simp (disch := (first | omega | (simp only [sz] <;> omega) | fail)) only [go_sem]; refine ⟨_, _, refTouch_in _ zz off hin.1 hin.2, ?_⟩; (try simp only [go_sem]); with_reducible refine hK _ _ ?_; clear hK K)
    refine via ?_
    ((first | refine qc1 rfl rfl fun K hK => ?_ | refine qc3 rfl rfl fun K hK => ?_); simp (disch := (first | omega | (simp only [sz] <;> omega) | fail)) only [go_sem]; refine ⟨_, _, refGood_does _ N hN1 hN2, ?_⟩; (try simp only [go_sem]); with_reducible refine hK _ _ ?_; clear hK K)
    refine via ?_
    ((first | refine qp1 rfl rfl fun K hK => ?_ | refine qp3 rfl rfl fun K hK => ?_); simp (disch := (first | omega | (simp only [sz] <;> omega) | fail)) only [go_sem]; refine ⟨_, _, .mcopy (k := 0) rfl, ?_⟩; (try simp only [go_sem]); with_reducible refine hK _ _ ?_; clear hK K)
    try simp only [List.length_cons, List.length_nil, List.cons_append, List.nil_append]
    refine via ?_
    ((first | refine qc1 rfl rfl fun K hK => ?_ | refine qc3 rfl rfl fun K hK => ?_); simp (disch := (first | omega | (simp only [sz] <;> omega) | fail)) only [go_sem]; refine ⟨_, _, usable_live [.mem ws (List.replicate (64 * N) 0), .port 0 0 st, .port 0 0 0, .mem ws (List.replicate (64 * N) 0)] 2 0 0 0 ws _ N 2 kd ln cl zz 64 rm rfl rfl (by decide) hN1 hN2 (by decide) g6 (by omega) (by decide) D hkd hln hcl hroom, ?_⟩; (try simp only [go_sem]); with_reducible refine hK _ _ ?_; clear hK K)
    simp only [accS, List.set_cons_zero, List.set_cons_succ]
    unfold rsV
    refine via ?_
    ((first | refine qp1 rfl rfl fun K hK => ?_ | refine qp3 rfl rfl fun K hK => ?_); simp (disch := (first | omega | (simp only [sz] <;> omega) | fail)) only [go_sem]; refine ⟨_, _, .fresh rfl, ?_⟩; (try simp only [go_sem]); with_reducible refine hK _ _ ?_; clear hK K)
    try simp only [List.set_cons_zero, List.set_cons_succ]
    refine via ?_
    ((first | refine qc1 rfl rfl fun K hK => ?_ | refine qc3 rfl rfl fun K hK => ?_); simp (disch := (first | omega | (simp only [sz] <;> omega) | fail)) only [go_sem]; refine ⟨_, _, read_in [.mem ws (List.replicate (64 * N) 0), .port 0 0 st, .port 0 0 0, .mem ws (List.replicate (64 * N) 0)] 2 0 0 0 ws _ N 2 off kd ln cl zz 64 rfl rfl (by decide) hN1 hN2 (by decide) g6 (by omega) (by decide) D hin.1 hin.2, ?_⟩; (try simp only [go_sem]); with_reducible refine hK _ _ ?_; clear hK K)
    simp only [accS, List.set_cons_zero, List.set_cons_succ]
    unfold rsV
    refine via ?_
    ((first | refine qp1 rfl rfl fun K hK => ?_ | refine qp3 rfl rfl fun K hK => ?_); simp (disch := (first | omega | (simp only [sz] <;> omega) | fail)) only [go_sem]; refine ⟨_, _, .msame rfl rfl, ?_⟩; (try simp only [go_sem]); with_reducible refine hK _ _ ?_; clear hK K)
    try simp only [decide_true, Bool.and_self]
    refine via ?_
    ((first | refine qp1 rfl rfl fun K hK => ?_ | refine qp3 rfl rfl fun K hK => ?_); simp (disch := (first | omega | (simp only [sz] <;> omega) | fail)) only [go_sem]; refine ⟨_, _, .fresh rfl, ?_⟩; (try simp only [go_sem]); with_reducible refine hK _ _ ?_; clear hK K)
    try simp only [List.set_cons_zero, List.set_cons_succ]
    refine via ?_
    ((first | refine qc1 rfl rfl fun K hK => ?_ | refine qc3 rfl rfl fun K hK => ?_); simp (disch := (first | omega | (simp only [sz] <;> omega) | fail)) only [go_sem]; refine ⟨_, _, write_in [.mem ws (List.replicate (64 * N) 0), .port 0 0 st, .port 0 0 0, .mem ws (List.replicate (64 * N) 0)] 2 0 0 0 ws _ N 2 off b kd ln cl zz 64 rfl rfl (by decide) hN1 hN2 (by decide) g6 (by omega) (by decide) D hin.1 hin.2, ?_⟩; (try simp only [go_sem]); with_reducible refine hK _ _ ?_; clear hK K)
    simp only [accS, List.set_cons_zero, List.set_cons_succ]
    unfold rsV
    refine via ?_
    have q1 : IntKind.i64.wrap (64 + off) = 64 + off := by rw [wrap_i64 (by omega) (by omega)]
    have hb8 : ((b.toNat : Nat) : Int) = ((b.toUInt64).toNat : Int) := by simp
    have u64b : IntKind.u64.wrap (b.toNat : Int) = ((b.toUInt64).toNat : Int) := by rw [← hb8, IntKind.wrap_u64]; have := b.toNat_lt; omega
    have b88 : b.toUInt64.toUInt8 = b := by simp
    ((first | refine qp1 rfl rfl fun K hK => ?_ | refine qp3 rfl rfl fun K hK => ?_); simp (disch := (first | omega | (simp only [sz] <;> omega) | fail)) only [go_sem]; refine ⟨_, _, .byte (k := 3) _ rfl, ?_⟩; (try simp only [go_sem]); with_reducible refine hK _ _ ?_; clear hK K)
    refine viaF u64b ?_
    ((first | refine qp1 rfl rfl fun K hK => ?_ | refine qp3 rfl rfl fun K hK => ?_); simp (disch := (first | omega | (simp only [sz] <;> omega) | fail)) only [go_sem]; refine ⟨_, _, .dput (k := 3) (64 + off) b.toUInt64 0 rfl, ?_⟩; (try simp only [go_sem]); with_reducible refine hK _ _ ?_; clear hK K)
    rw [b88]
    try simp only [List.set_cons_zero, List.set_cons_succ]
    refine via ?_
    ((first | refine qp1 rfl rfl fun K hK => ?_ | refine qp3 rfl rfl fun K hK => ?_); simp (disch := (first | omega | (simp only [sz] <;> omega) | fail)) only [go_sem]; refine ⟨_, _, .msame rfl rfl, ?_⟩; (try simp only [go_sem]); with_reducible refine hK _ _ ?_; clear hK K)
    try simp only [decide_true, Bool.and_self]
    refine via ?_
    ((first | refine qc1 rfl rfl fun K hK => ?_ | refine qc3 rfl rfl fun K hK => ?_); simp (disch := (first | omega | (simp only [sz] <;> omega) | fail)) only [go_sem]; refine ⟨_, _, is_does _ rm 0 0 (0 + 3) 0, ?_⟩; (try simp only [go_sem]); with_reducible refine hK _ _ ?_; clear hK K)
    refine via ?_
    ((first | refine qc1 rfl rfl fun K hK => ?_ | refine qc3 rfl rfl fun K hK => ?_); simp (disch := (first | omega | (simp only [sz] <;> omega) | fail)) only [go_sem]; refine ⟨_, _, is_does _ 0 (bT (64 + off) (List.replicate (64 * N) 0)).toNat 0 (0 + 1) (0 + 2), ?_⟩; (try simp only [go_sem]); with_reducible refine hK _ _ ?_; clear hK K)
    refine via ?_
    ((first | refine qc1 rfl rfl fun K hK => ?_ | refine qc3 rfl rfl fun K hK => ?_); simp (disch := (first | omega | (simp only [sz] <;> omega) | fail)) only [go_sem]; refine ⟨_, _, is_does _ 0 0 0 (0 + 1) (0 + 2), ?_⟩; (try simp only [go_sem]); with_reducible refine hK _ _ ?_; clear hK K)
    refine via ?_
    obtain ⟨S9, hA⟩ := awake17_does _
    ((first | refine qc1 rfl rfl fun K hK => ?_ | refine qc3 rfl rfl fun K hK => ?_); simp (disch := (first | omega | (simp only [sz] <;> omega) | fail)) only [go_sem]; refine ⟨_, _, hA, ?_⟩; (try simp only [go_sem]); with_reducible refine hK _ _ ?_; clear hK K)
    refine via ?_
    exact Goes.law rfl rfl
  have hne64 : (at' == 64) = false := by rw [beq_eq_false_iff_ne]; exact hat
  by_cases hbad : at' < 0 ∨ (N : Int) * 64 ≤ at' ∨ at'.tmod 8 ≠ 0
  · repeat (first | refine Goes.reg ?_ | refine Goes.ctl2 rfl ?_ | ((first | refine qv1 rfl rfl rfl fun K hK => ?_ | refine qv3 rfl rfl rfl fun K hK => ?_ | refine qv2 rfl rfl rfl rfl rfl rfl fun K hK => ?_ | refine qv4 rfl rfl rfl rfl rfl rfl fun K hK => ?_ | refine qn1 rfl rfl rfl fun K hK => ?_ | refine qn3 rfl rfl rfl fun K hK => ?_ | refine qt1 rfl rfl rfl fun K hK => ?_ | refine qt3 rfl rfl rfl fun K hK => ?_); simp (disch := (first | omega | (simp only [sz] <;> omega) | fail)) only [go_sem, beq_self_eq_true, hne64]; with_reducible refine hK _ _ ?_; clear hK K) | refine At.nil rfl ?_ | refine RG.nil rfl ?_ | ((first | refine AtL.skipg rfl rfl rfl rfl rfl ?_ | refine RGL.skipg rfl rfl rfl rfl rfl ?_ | refine AtL.skipu rfl rfl rfl rfl ?_ | refine RGL.skipu rfl rfl rfl rfl ?_); simp only [putL, List.set_cons_zero, List.set_cons_succ]) | refine Goes.yes rfl ?_ | refine Goes.no rfl ?_ | refine Goes.drawR [] (by kernel_rfl) ?_)
    ((first | refine qc1 rfl rfl fun K hK => ?_ | refine qc3 rfl rfl fun K hK => ?_); simp (disch := (first | omega | (simp only [sz] <;> omega) | fail)) only [go_sem]; refine ⟨_, _, refUsable_none _ rm, ?_⟩; (try simp only [go_sem]); with_reducible refine hK _ _ ?_; clear hK K)
    refine via ?_
    ((first | refine qc1 rfl rfl fun K hK => ?_ | refine qc3 rfl rfl fun K hK => ?_); simp (disch := (first | omega | (simp only [sz] <;> omega) | fail)) only [go_sem]; refine ⟨_, _, refTouch_none _ off, ?_⟩; (try simp only [go_sem]); with_reducible refine hK _ _ ?_; clear hK K)
    refine via ?_
    ((first | refine qp1 rfl rfl fun K hK => ?_ | refine qp3 rfl rfl fun K hK => ?_); simp (disch := (first | omega | (simp only [sz] <;> omega) | fail)) only [go_sem]; refine ⟨_, _, .mcopy (k := 0) rfl, ?_⟩; (try simp only [go_sem]); with_reducible refine hK _ _ ?_; clear hK K)
    try simp only [List.length_cons, List.length_nil, List.cons_append, List.nil_append]
    refine via ?_
    ((first | refine qc1 rfl rfl fun K hK => ?_ | refine qc3 rfl rfl fun K hK => ?_); simp (disch := (first | omega | (simp only [sz] <;> omega) | fail)) only [go_sem]; refine ⟨_, _, usable_bad [.mem ws (List.replicate (64 * N) 0), .port 0 0 st, .port 0 0 0, .mem ws (List.replicate (64 * N) 0)] 2 0 0 0 N 2 at' rfl hN2 hbad, ?_⟩; (try simp only [go_sem]); with_reducible refine hK _ _ ?_; clear hK K)
    unfold rsV
    refine via ?_
    ((first | refine qp1 rfl rfl fun K hK => ?_ | refine qp3 rfl rfl fun K hK => ?_); simp (disch := (first | omega | (simp only [sz] <;> omega) | fail)) only [go_sem]; refine ⟨_, _, .fresh rfl, ?_⟩; (try simp only [go_sem]); with_reducible refine hK _ _ ?_; clear hK K)
    try simp only [List.set_cons_zero, List.set_cons_succ]
    refine via ?_
    ((first | refine qc1 rfl rfl fun K hK => ?_ | refine qc3 rfl rfl fun K hK => ?_); simp (disch := (first | omega | (simp only [sz] <;> omega) | fail)) only [go_sem]; refine ⟨_, _, read_bad [.mem ws (List.replicate (64 * N) 0), .port 0 0 st, .port 0 0 0, .mem ws (List.replicate (64 * N) 0)] 2 0 0 0 ws (List.replicate (64 * N) 0) N 2 off at' rfl rfl (by decide) hN1 hN2 (by decide) hbad, ?_⟩; (try simp only [go_sem]); with_reducible refine hK _ _ ?_; clear hK K)
    unfold rsV
    refine via ?_
    ((first | refine qp1 rfl rfl fun K hK => ?_ | refine qp3 rfl rfl fun K hK => ?_); simp (disch := (first | omega | (simp only [sz] <;> omega) | fail)) only [go_sem]; refine ⟨_, _, .msame rfl rfl, ?_⟩; (try simp only [go_sem]); with_reducible refine hK _ _ ?_; clear hK K)
    try simp only [decide_true, Bool.and_self]
    refine via ?_
    ((first | refine qp1 rfl rfl fun K hK => ?_ | refine qp3 rfl rfl fun K hK => ?_); simp (disch := (first | omega | (simp only [sz] <;> omega) | fail)) only [go_sem]; refine ⟨_, _, .fresh rfl, ?_⟩; (try simp only [go_sem]); with_reducible refine hK _ _ ?_; clear hK K)
    try simp only [List.set_cons_zero, List.set_cons_succ]
    refine via ?_
    ((first | refine qc1 rfl rfl fun K hK => ?_ | refine qc3 rfl rfl fun K hK => ?_); simp (disch := (first | omega | (simp only [sz] <;> omega) | fail)) only [go_sem]; refine ⟨_, _, write_bad [.mem ws (List.replicate (64 * N) 0), .port 0 0 st, .port 0 0 0, .mem ws (List.replicate (64 * N) 0)] 2 0 0 0 ws (List.replicate (64 * N) 0) N 2 off b at' rfl rfl (by decide) hN1 hN2 (by decide) hbad, ?_⟩; (try simp only [go_sem]); with_reducible refine hK _ _ ?_; clear hK K)
    unfold rsV
    refine via ?_
    ((first | refine qp1 rfl rfl fun K hK => ?_ | refine qp3 rfl rfl fun K hK => ?_); simp (disch := (first | omega | (simp only [sz] <;> omega) | fail)) only [go_sem]; refine ⟨_, _, .msame rfl rfl, ?_⟩; (try simp only [go_sem]); with_reducible refine hK _ _ ?_; clear hK K)
    try simp only [decide_true, Bool.and_self]
    refine via ?_
    ((first | refine qc1 rfl rfl fun K hK => ?_ | refine qc3 rfl rfl fun K hK => ?_); simp (disch := (first | omega | (simp only [sz] <;> omega) | fail)) only [go_sem]; refine ⟨_, _, is_does _ 0 0 13 0 0, ?_⟩; (try simp only [go_sem]); with_reducible refine hK _ _ ?_; clear hK K)
    refine via ?_
    ((first | refine qc1 rfl rfl fun K hK => ?_ | refine qc3 rfl rfl fun K hK => ?_); simp (disch := (first | omega | (simp only [sz] <;> omega) | fail)) only [go_sem]; refine ⟨_, _, is_does _ 0 0 13 0 0, ?_⟩; (try simp only [go_sem]); with_reducible refine hK _ _ ?_; clear hK K)
    refine via ?_
    ((first | refine qc1 rfl rfl fun K hK => ?_ | refine qc3 rfl rfl fun K hK => ?_); simp (disch := (first | omega | (simp only [sz] <;> omega) | fail)) only [go_sem]; refine ⟨_, _, is_does _ 0 0 13 0 0, ?_⟩; (try simp only [go_sem]); with_reducible refine hK _ _ ?_; clear hK K)
    refine via ?_
    obtain ⟨S9, hA⟩ := awake17_does _
    ((first | refine qc1 rfl rfl fun K hK => ?_ | refine qc3 rfl rfl fun K hK => ?_); simp (disch := (first | omega | (simp only [sz] <;> omega) | fail)) only [go_sem]; refine ⟨_, _, hA, ?_⟩; (try simp only [go_sem]); with_reducible refine hK _ _ ?_; clear hK K)
    refine via ?_
    exact Goes.law rfl rfl
  obtain ⟨j, hj, hj8, rfl⟩ : ∃ j : Nat, j < 8 * N ∧ j ≠ 8 ∧ at' = ((8 * j : Nat) : Int) := by
    refine ⟨at'.toNat / 8, by omega, ?_, ?_⟩
    · have := Int.tmod_eq_emod_of_nonneg (show 0 ≤ at' by omega) (b := 8)
      omega
    · have := Int.tmod_eq_emod_of_nonneg (show 0 ≤ at' by omega) (b := 8)
      omega
  have g11 : 0 ≤ gat N 2 11 ((j : Nat) : Int) := by rw [gState_at' (by omega) (by omega)]; omega
  repeat (first | refine Goes.reg ?_ | refine Goes.ctl2 rfl ?_ | ((first | refine qv1 rfl rfl rfl fun K hK => ?_ | refine qv3 rfl rfl rfl fun K hK => ?_ | refine qv2 rfl rfl rfl rfl rfl rfl fun K hK => ?_ | refine qv4 rfl rfl rfl rfl rfl rfl fun K hK => ?_ | refine qn1 rfl rfl rfl fun K hK => ?_ | refine qn3 rfl rfl rfl fun K hK => ?_ | refine qt1 rfl rfl rfl fun K hK => ?_ | refine qt3 rfl rfl rfl fun K hK => ?_); simp (disch := (first | omega | (simp only [sz] <;> omega) | fail)) only [go_sem, beq_self_eq_true, hne64]; with_reducible refine hK _ _ ?_; clear hK K) | refine At.nil rfl ?_ | refine RG.nil rfl ?_ | ((first | refine AtL.skipg rfl rfl rfl rfl rfl ?_ | refine RGL.skipg rfl rfl rfl rfl rfl ?_ | refine AtL.skipu rfl rfl rfl rfl ?_ | refine RGL.skipu rfl rfl rfl rfl ?_); simp only [putL, List.set_cons_zero, List.set_cons_succ]) | refine Goes.yes rfl ?_ | refine Goes.no rfl ?_ | refine Goes.drawR [] (by kernel_rfl) ?_)
  ((first | refine qc1 rfl rfl fun K hK => ?_ | refine qc3 rfl rfl fun K hK => ?_); simp (disch := (first | omega | (simp only [sz] <;> omega) | fail)) only [go_sem]; refine ⟨_, _, refUsable_none _ rm, ?_⟩; (try simp only [go_sem]); with_reducible refine hK _ _ ?_; clear hK K)
  refine via ?_
  ((first | refine qc1 rfl rfl fun K hK => ?_ | refine qc3 rfl rfl fun K hK => ?_); simp (disch := (first | omega | (simp only [sz] <;> omega) | fail)) only [go_sem]; refine ⟨_, _, refTouch_none _ off, ?_⟩; (try simp only [go_sem]); with_reducible refine hK _ _ ?_; clear hK K)
  refine via ?_
  ((first | refine qp1 rfl rfl fun K hK => ?_ | refine qp3 rfl rfl fun K hK => ?_); simp (disch := (first | omega | (simp only [sz] <;> omega) | fail)) only [go_sem]; refine ⟨_, _, .mcopy (k := 0) rfl, ?_⟩; (try simp only [go_sem]); with_reducible refine hK _ _ ?_; clear hK K)
  try simp only [List.length_cons, List.length_nil, List.cons_append, List.nil_append]
  refine via ?_
  ((first | refine qc1 rfl rfl fun K hK => ?_ | refine qc3 rfl rfl fun K hK => ?_); simp (disch := (first | omega | (simp only [sz] <;> omega) | fail)) only [go_sem]; refine ⟨_, _, usable_free [.mem ws (List.replicate (64 * N) 0), .port 0 0 st, .port 0 0 0, .mem ws (List.replicate (64 * N) 0)] 2 0 0 0 ws _ N 2 j rfl rfl (by decide) hN2 (by decide) hj g6 g11 (D.free j hj hj8), ?_⟩; (try simp only [go_sem]); with_reducible refine hK _ _ ?_; clear hK K)
  simp only [accS, List.set_cons_zero, List.set_cons_succ]
  unfold rsV
  refine via ?_
  ((first | refine qp1 rfl rfl fun K hK => ?_ | refine qp3 rfl rfl fun K hK => ?_); simp (disch := (first | omega | (simp only [sz] <;> omega) | fail)) only [go_sem]; refine ⟨_, _, .fresh rfl, ?_⟩; (try simp only [go_sem]); with_reducible refine hK _ _ ?_; clear hK K)
  try simp only [List.set_cons_zero, List.set_cons_succ]
  refine via ?_
  ((first | refine qc1 rfl rfl fun K hK => ?_ | refine qc3 rfl rfl fun K hK => ?_); simp (disch := (first | omega | (simp only [sz] <;> omega) | fail)) only [go_sem]; refine ⟨_, _, read_free [.mem ws (List.replicate (64 * N) 0), .port 0 0 st, .port 0 0 0, .mem ws (List.replicate (64 * N) 0)] 2 0 0 0 ws _ N 2 off j rfl rfl (by decide) hN1 hN2 (by decide) hj g6 g11 (D.free j hj hj8), ?_⟩; (try simp only [go_sem]); with_reducible refine hK _ _ ?_; clear hK K)
  simp only [accS, List.set_cons_zero, List.set_cons_succ]
  unfold rsV
  refine via ?_
  ((first | refine qp1 rfl rfl fun K hK => ?_ | refine qp3 rfl rfl fun K hK => ?_); simp (disch := (first | omega | (simp only [sz] <;> omega) | fail)) only [go_sem]; refine ⟨_, _, .msame rfl rfl, ?_⟩; (try simp only [go_sem]); with_reducible refine hK _ _ ?_; clear hK K)
  try simp only [decide_true, Bool.and_self]
  refine via ?_
  ((first | refine qp1 rfl rfl fun K hK => ?_ | refine qp3 rfl rfl fun K hK => ?_); simp (disch := (first | omega | (simp only [sz] <;> omega) | fail)) only [go_sem]; refine ⟨_, _, .fresh rfl, ?_⟩; (try simp only [go_sem]); with_reducible refine hK _ _ ?_; clear hK K)
  try simp only [List.set_cons_zero, List.set_cons_succ]
  refine via ?_
  ((first | refine qc1 rfl rfl fun K hK => ?_ | refine qc3 rfl rfl fun K hK => ?_); simp (disch := (first | omega | (simp only [sz] <;> omega) | fail)) only [go_sem]; refine ⟨_, _, write_free [.mem ws (List.replicate (64 * N) 0), .port 0 0 st, .port 0 0 0, .mem ws (List.replicate (64 * N) 0)] 2 0 0 0 ws _ N 2 off b j rfl rfl (by decide) hN1 hN2 (by decide) hj g6 g11 (D.free j hj hj8), ?_⟩; (try simp only [go_sem]); with_reducible refine hK _ _ ?_; clear hK K)
  simp only [accS, List.set_cons_zero, List.set_cons_succ]
  unfold rsV
  refine via ?_
  ((first | refine qp1 rfl rfl fun K hK => ?_ | refine qp3 rfl rfl fun K hK => ?_); simp (disch := (first | omega | (simp only [sz] <;> omega) | fail)) only [go_sem]; refine ⟨_, _, .msame rfl rfl, ?_⟩; (try simp only [go_sem]); with_reducible refine hK _ _ ?_; clear hK K)
  try simp only [decide_true, Bool.and_self]
  refine via ?_
  ((first | refine qc1 rfl rfl fun K hK => ?_ | refine qc3 rfl rfl fun K hK => ?_); simp (disch := (first | omega | (simp only [sz] <;> omega) | fail)) only [go_sem]; refine ⟨_, _, is_does _ 0 0 13 (0 + 1) 0, ?_⟩; (try simp only [go_sem]); with_reducible refine hK _ _ ?_; clear hK K)
  refine via ?_
  ((first | refine qc1 rfl rfl fun K hK => ?_ | refine qc3 rfl rfl fun K hK => ?_); simp (disch := (first | omega | (simp only [sz] <;> omega) | fail)) only [go_sem]; refine ⟨_, _, is_does _ 0 0 13 (0 + 1) 0, ?_⟩; (try simp only [go_sem]); with_reducible refine hK _ _ ?_; clear hK K)
  refine via ?_
  ((first | refine qc1 rfl rfl fun K hK => ?_ | refine qc3 rfl rfl fun K hK => ?_); simp (disch := (first | omega | (simp only [sz] <;> omega) | fail)) only [go_sem]; refine ⟨_, _, is_does _ 0 0 13 (0 + 1) 0, ?_⟩; (try simp only [go_sem]); with_reducible refine hK _ _ ?_; clear hK K)
  refine via ?_
  obtain ⟨S9, hA⟩ := awake17_does _
  ((first | refine qc1 rfl rfl fun K hK => ?_ | refine qc3 rfl rfl fun K hK => ?_); simp (disch := (first | omega | (simp only [sz] <;> omega) | fail)) only [go_sem]; refine ⟨_, _, hA, ?_⟩; (try simp only [go_sem]); with_reducible refine hK _ _ ?_; clear hK K)
  refine via ?_
  exact Goes.law rfl rfl
theorem dataTells_walk (a0 a1 a2 a3 a4 a5 : Int) (w : World) (w0 : (Lit.int .u8 a0).wf = true) (w1 : (Lit.int .u8 a1).wf = true) (w2 : (Lit.int .u16 a2).wf = true) (w3 : (Lit.int .i64 a3).wf = true) (w4 : (Lit.int .i64 a4).wf = true) (w5 : (Lit.int .u8 a5).wf = true) :
    Calls Try.prog 13 #[.int .u8 a0, .int .u8 a1, .int .u16 a2, .int .i64 a3, .int .i64 a4, .int .u8 a5] w fun e w' => e = .returned (.bool true) ∧ Below w.heap.size w w' := by
  have h0 : 0 ≤ a0 ∧ a0 ≤ 255 := by simpa [Lit.wf, IntKind.min, IntKind.max, IntKind.signed, IntKind.bits] using w0
  have h1 : 0 ≤ a1 ∧ a1 ≤ 255 := by simpa [Lit.wf, IntKind.min, IntKind.max, IntKind.signed, IntKind.bits] using w1
  have h2 : 0 ≤ a2 ∧ a2 ≤ 65535 := by simpa [Lit.wf, IntKind.min, IntKind.max, IntKind.signed, IntKind.bits] using w2
  have h3 : -9223372036854775808 ≤ a3 ∧ a3 ≤ 9223372036854775807 := by simpa [Lit.wf, IntKind.min, IntKind.max, IntKind.signed, IntKind.bits] using w3
  have h4 : -9223372036854775808 ≤ a4 ∧ a4 ≤ 9223372036854775807 := by simpa [Lit.wf, IntKind.min, IntKind.max, IntKind.signed, IntKind.bits] using w4
  have h5 : 0 ≤ a5 ∧ a5 ≤ 255 := by simpa [Lit.wf, IntKind.min, IntKind.max, IntKind.signed, IntKind.bits] using w5
  obtain ⟨x, rfl⟩ := Int.eq_ofNat_of_zero_le h0.1
  obtain ⟨y, rfl⟩ := Int.eq_ofNat_of_zero_le h1.1
  obtain ⟨z, rfl⟩ := Int.eq_ofNat_of_zero_le h2.1
  obtain ⟨v, rfl⟩ := Int.eq_ofNat_of_zero_le h5.1
  have hv : ((UInt8.ofNat v).toNat : Int) = (v : Int) := by simp; omega
  have L := (dataTells_law x y z a3 a4 (UInt8.ofNat v) (by omega) (by omega) (by omega) h3 h4).calls ⟨fun _ => 0, fun _ => 0, fun _ => 0⟩ w (fun n b hb => by simp at hb) (by simp)
  simp only [List.map_toArray, List.map_cons, List.map_nil, ren_int, hv] at L
  exact L.mono fun e w' h => ⟨h.1, h.2.below⟩
end Go.Proofs.Ytceddijolfpppaa
