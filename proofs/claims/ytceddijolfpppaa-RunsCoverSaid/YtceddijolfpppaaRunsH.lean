/-
  Layer 10 over the abstract machine: Init, the laws' beginning, their wakefulness.
  Conditions: those of each contract.
-/
import Derived.Test.YtceddijolfpppaaRunsG
import Derived.Test.YtceddijolfpppaaRun6
namespace Go.Proofs.Ytceddijolfpppaa
open Go Go.RowKit
set_option linter.unusedSimpArgs false
set_option linter.unusedVariables false

theorem gb_mono' (N T i j : Nat) (h : i ≤ j) : gb N T i ≤ gb N T j := by
  induction h with
  | refl => exact Nat.le_refl _
  | step _ ih => exact Nat.le_trans ih (gb_mono N T _)
theorem gb8 {N T : Nat} (hN : 1 ≤ N) : gb N T 8 = 21 + T + N := by
  have e : gb N T 8 = gb N T 7 + N := by unfold gb; rw [if_neg (by omega), if_neg (by omega)]; rfl
  have e2 : gb N T 7 = 21 + T := by unfold gb; rw [if_neg (by omega)]; simp only [gsum, gsz]
  omega
theorem wAt_zeros {n k : Nat} (h : k < n) : wAt (List.replicate n (0 : UInt64)) (k : Nat) = some 0 := by
  unfold wAt
  rw [if_neg (by omega), Int.toNat_natCast, List.getElem?_replicate, if_pos h]
theorem Pg.new {N T : Nat} (hN : 1 ≤ N) : Pg N T (List.replicate (gb N T 19) 0) (List.replicate (gb N T 19) 0) (fun _ => 0) (fun _ => 0) := by
  have h8 := gb8 (T := T) hN
  have hm := gb_mono' N T 8 19 (by decide)
  exact ⟨rfl, fun x hx => by rw [gPage_at hN hx]; exact wAt_zeros (by omega), fun b hb => by rw [gBin_at hN hb]; exact wAt_zeros (by omega), fun _ _ _ => rfl⟩
theorem lay_new {N : Nat} (hN : 1 ≤ N) (x : Nat) (hx : x < N) : layP (fun _ => 0) 0 N x = pw [(1, N)] x := by
  rw [layP_in (by omega), pw_free hx]
  by_cases h : x = 0
  · rw [if_pos h, if_pos h]
  · rw [if_neg h, if_neg h]
    by_cases h2 : x + 1 = N
    · rw [if_pos (by omega), if_pos h2]
    · rw [if_neg (by omega), if_neg h2]
theorem layB_new {N : Nat} (hN : 1 ≤ N) (b : Nat) : layB (fun _ => 0) N b = bw [(1, N)] b := by
  rw [layB_at, fr_pos (by omega)]
  unfold bw
  simp

theorem hand3 {c : Nat} {a b d : Value} (ha : Hand c a) (hb : Hand c b) (hd : Hand c d) : Hand c (.tuple #[a, b, d]) := fun F F' hs => by
  simp only [ren_tuple, List.map_toArray, List.map_cons, List.map_nil]
  rw [ha F F' hs, hb F F' hs, hd F F' hs]

set_option maxHeartbeats 1000000 in
theorem init_does (S : St) (p m me : Nat) (steps : Nat) (ws0 ws : List UInt64) (bs : List UInt8) (N T : Nat) {P B : Nat → UInt64} (hp : S[p]? = some (.port m me steps)) (hm : S[m]? = some (.mem ws bs)) (hst : steps ≤ 10000000) (h1 : 1 ≤ N) (hN : N ≤ 256) (hT : T ≤ 64) (hP : Pg N T ws0 ws P B) :
    ∃ ws' st', st' ≤ steps + 3 ∧ Pg N T ws0 ws' (layP P 0 N) (layB B N) ∧ Does OF 100 #[prtV p, .agg (geoC N T)] [] S (.tuple #[]) (accS S p m me st' ws' bs) := by
  obtain ⟨w1, s1, hs1, hP1, hd1⟩ := dlay_does S p m me steps ws0 ws bs N T 0 N hp hm (by omega) h1 hN hT hP (by omega)
  refine ⟨w1, s1, hs1, hP1, ?_⟩
  refine Does.mk Try.func100 rfl rfl ?clo ?hand ?_
  case clo => exact clo2 (pclo (hlt_of hp)) (Clo.plain (geo_plain _ _))
  case hand => exact Hand.plain (by simp [plainB])
  rw [Try.ntmps100]; simp only [List.size_toArray, List.length_cons, List.length_nil, List.replicate, List.cons_append, List.nil_append]
  repeat (first | refine Goes.reg ?_ | refine Goes.ctl2 rfl ?_ | ((first | refine qv1 rfl rfl rfl fun K hK => ?_ | refine qv3 rfl rfl rfl fun K hK => ?_ | refine qv2 rfl rfl rfl rfl rfl rfl fun K hK => ?_ | refine qv4 rfl rfl rfl rfl rfl rfl fun K hK => ?_ | refine qn1 rfl rfl rfl fun K hK => ?_ | refine qn3 rfl rfl rfl fun K hK => ?_ | refine qt1 rfl rfl rfl fun K hK => ?_ | refine qt3 rfl rfl rfl fun K hK => ?_); simp (disch := (first | omega | (simp only [sz] <;> omega) | fail)) only [go_sem]; with_reducible refine hK _ _ ?_; clear hK K) | refine At.nil rfl ?_ | refine RG.nil rfl ?_ | ((first | refine AtL.skipg rfl rfl rfl rfl rfl ?_ | refine RGL.skipg rfl rfl rfl rfl rfl ?_ | refine AtL.skipu rfl rfl rfl rfl ?_ | refine RGL.skipu rfl rfl rfl rfl ?_); simp only [putL, List.set_cons_zero, List.set_cons_succ]) | refine Goes.yes rfl ?_ | refine Goes.no rfl ?_ | refine Goes.drawR [] (by kernel_rfl) ?_)
  ((first | refine qp1 rfl rfl fun K hK => ?_ | refine qp3 rfl rfl fun K hK => ?_); simp (disch := (first | omega | (simp only [sz] <;> omega) | fail)) only [go_sem]; refine ⟨_, _, qpu fun w => gPages_any N T w, ?_⟩; (try simp only [go_sem]); with_reducible refine hK _ _ ?_; clear hK K)
  repeat (first | refine Goes.reg ?_ | refine Goes.ctl2 rfl ?_ | ((first | refine qv1 rfl rfl rfl fun K hK => ?_ | refine qv3 rfl rfl rfl fun K hK => ?_ | refine qv2 rfl rfl rfl rfl rfl rfl fun K hK => ?_ | refine qv4 rfl rfl rfl rfl rfl rfl fun K hK => ?_ | refine qn1 rfl rfl rfl fun K hK => ?_ | refine qn3 rfl rfl rfl fun K hK => ?_ | refine qt1 rfl rfl rfl fun K hK => ?_ | refine qt3 rfl rfl rfl fun K hK => ?_); simp (disch := (first | omega | (simp only [sz] <;> omega) | fail)) only [go_sem]; with_reducible refine hK _ _ ?_; clear hK K) | refine At.nil rfl ?_ | refine RG.nil rfl ?_ | ((first | refine AtL.skipg rfl rfl rfl rfl rfl ?_ | refine RGL.skipg rfl rfl rfl rfl rfl ?_ | refine AtL.skipu rfl rfl rfl rfl ?_ | refine RGL.skipu rfl rfl rfl rfl ?_); simp only [putL, List.set_cons_zero, List.set_cons_succ]) | refine Goes.yes rfl ?_ | refine Goes.no rfl ?_ | refine Goes.drawR [] (by kernel_rfl) ?_)
  ((first | refine qc1 rfl rfl fun K hK => ?_ | refine qc3 rfl rfl fun K hK => ?_); simp (disch := (first | omega | (simp only [sz] <;> omega) | fail)) only [go_sem]; refine ⟨_, _, hd1, ?_⟩; (try simp only [go_sem]); with_reducible refine hK _ _ ?_; clear hK K)
  repeat (first | refine Goes.reg ?_ | refine Goes.ctl2 rfl ?_ | ((first | refine qv1 rfl rfl rfl fun K hK => ?_ | refine qv3 rfl rfl rfl fun K hK => ?_ | refine qv2 rfl rfl rfl rfl rfl rfl fun K hK => ?_ | refine qv4 rfl rfl rfl rfl rfl rfl fun K hK => ?_ | refine qn1 rfl rfl rfl fun K hK => ?_ | refine qn3 rfl rfl rfl fun K hK => ?_ | refine qt1 rfl rfl rfl fun K hK => ?_ | refine qt3 rfl rfl rfl fun K hK => ?_); simp (disch := (first | omega | (simp only [sz] <;> omega) | fail)) only [go_sem]; with_reducible refine hK _ _ ?_; clear hK K) | refine At.nil rfl ?_ | refine RG.nil rfl ?_ | ((first | refine AtL.skipg rfl rfl rfl rfl rfl ?_ | refine RGL.skipg rfl rfl rfl rfl rfl ?_ | refine AtL.skipu rfl rfl rfl rfl ?_ | refine RGL.skipu rfl rfl rfl rfl ?_); simp only [putL, List.set_cons_zero, List.set_cons_succ]) | refine Goes.yes rfl ?_ | refine Goes.no rfl ?_ | refine Goes.drawR [] (by kernel_rfl) ?_)
  refine Goes.fin rfl (by simp (disch := (first | omega | (simp only [heapL_next, List.length_cons, List.length_nil, List.size_toArray, geo_len] <;> omega) | fail)) only [go_sem, resA, res1A, Try.results100] <;> rfl) ?_
  rfl
theorem begun10_does (S : St) (N T : Nat) (hN1 : 1 ≤ N) (hN : N ≤ 256) (hT1 : 1 ≤ T) (hT : T ≤ 64) :
    ∃ ws st, st ≤ 3 ∧ Pg N T (List.replicate (gb N T 19) 0) ws (pw [(1, N)]) (bw [(1, N)]) ∧
    Does OF 33 #[.int .i64 N, .int .i64 T] [] S (.tuple #[.agg (geoC N T), hndV S.length, hndV (S.length + 1)]) (S ++ [.mem ws (List.replicate (64 * N) 0), .port S.length 0 st]) := by
  obtain ⟨w1, s1, hs1, hP1, hd1⟩ := init_does (S ++ [.mem (List.replicate (gb N T 19) 0) (List.replicate (64 * N) 0), .port S.length 0 0]) (S.length + 1) S.length 0 0 _ _ (List.replicate (64 * N) 0) N T (by simp) (by simp) (by omega) hN1 hN hT (Pg.new (T := T) hN1)
  refine ⟨w1, s1, by omega, hP1.congr (fun x hx => lay_new hN1 x hx) (fun b _ => layB_new hN1 b), ?_⟩
  have hacc : accS (S ++ [.mem (List.replicate (gb N T 19) 0) (List.replicate (64 * N) 0), .port S.length 0 0]) (S.length + 1) S.length 0 s1 w1 (List.replicate (64 * N) 0) = S ++ [.mem w1 (List.replicate (64 * N) 0), .port S.length 0 s1] := by
    unfold accS
    simp
  rw [← hacc]
  refine Does.mk Try.func33 rfl rfl ?clo ?hand ?_
  case clo => exact clo2 iclo iclo
  case hand => exact hand3 ghand (hhand (by simp [OF, accS])) (hhand (by simp [OF, accS]))
  rw [Try.ntmps33]; simp only [List.size_toArray, List.length_cons, List.length_nil, List.replicate, List.cons_append, List.nil_append]
  repeat (first | refine Goes.reg ?_ | refine Goes.ctl2 rfl ?_ | ((first | refine qv1 rfl rfl rfl fun K hK => ?_ | refine qv3 rfl rfl rfl fun K hK => ?_ | refine qv2 rfl rfl rfl rfl rfl rfl fun K hK => ?_ | refine qv4 rfl rfl rfl rfl rfl rfl fun K hK => ?_ | refine qn1 rfl rfl rfl fun K hK => ?_ | refine qn3 rfl rfl rfl fun K hK => ?_ | refine qt1 rfl rfl rfl fun K hK => ?_ | refine qt3 rfl rfl rfl fun K hK => ?_); simp (disch := (first | omega | (simp only [sz] <;> omega) | fail)) only [go_sem]; with_reducible refine hK _ _ ?_; clear hK K) | refine At.nil rfl ?_ | refine RG.nil rfl ?_ | ((first | refine AtL.skipg rfl rfl rfl rfl rfl ?_ | refine RGL.skipg rfl rfl rfl rfl rfl ?_ | refine AtL.skipu rfl rfl rfl rfl ?_ | refine RGL.skipu rfl rfl rfl rfl ?_); simp only [putL, List.set_cons_zero, List.set_cons_succ]) | refine Goes.yes rfl ?_ | refine Goes.no rfl ?_ | refine Goes.drawR [] (by kernel_rfl) ?_)
  ((first | refine qc1 rfl rfl fun K hK => ?_ | refine qc3 rfl rfl fun K hK => ?_); simp (disch := (first | omega | (simp only [sz] <;> omega) | fail)) only [go_sem]; refine ⟨_, _, begun_does _ N T hN1 hN hT1 hT (gbLim N T hN hT), ?_⟩; (try simp only [go_sem]); with_reducible refine hK _ _ ?_; clear hK K)
  repeat (first | refine Goes.reg ?_ | refine Goes.ctl2 rfl ?_ | ((first | refine qv1 rfl rfl rfl fun K hK => ?_ | refine qv3 rfl rfl rfl fun K hK => ?_ | refine qv2 rfl rfl rfl rfl rfl rfl fun K hK => ?_ | refine qv4 rfl rfl rfl rfl rfl rfl fun K hK => ?_ | refine qn1 rfl rfl rfl fun K hK => ?_ | refine qn3 rfl rfl rfl fun K hK => ?_ | refine qt1 rfl rfl rfl fun K hK => ?_ | refine qt3 rfl rfl rfl fun K hK => ?_); simp (disch := (first | omega | (simp only [sz] <;> omega) | fail)) only [go_sem]; with_reducible refine hK _ _ ?_; clear hK K) | refine At.nil rfl ?_ | refine RG.nil rfl ?_ | ((first | refine AtL.skipg rfl rfl rfl rfl rfl ?_ | refine RGL.skipg rfl rfl rfl rfl rfl ?_ | refine AtL.skipu rfl rfl rfl rfl ?_ | refine RGL.skipu rfl rfl rfl rfl ?_); simp only [putL, List.set_cons_zero, List.set_cons_succ]) | refine Goes.yes rfl ?_ | refine Goes.no rfl ?_ | refine Goes.drawR [] (by kernel_rfl) ?_)
  ((first | refine qp1 rfl rfl fun K hK => ?_ | refine qp3 rfl rfl fun K hK => ?_); simp (disch := (first | omega | (simp only [sz] <;> omega) | fail)) only [go_sem]; refine ⟨_, _, .pnew (m := S.length) (me := 0) (ws := List.replicate (gb N T 19) 0) (bs := List.replicate (64 * N) 0) (by simp), ?_⟩; (try simp only [go_sem]); with_reducible refine hK _ _ ?_; clear hK K)
  rw [show (S ++ [Ob.mem (List.replicate (gb N T 19) 0) (List.replicate (64 * N) 0)] ++ [Ob.port S.length 0 0]) = S ++ [Ob.mem (List.replicate (gb N T 19) 0) (List.replicate (64 * N) 0), Ob.port S.length 0 0] by simp, show (S ++ [Ob.mem (List.replicate (gb N T 19) 0) (List.replicate (64 * N) 0)]).length = S.length + 1 by simp]
  repeat (first | refine Goes.reg ?_ | refine Goes.ctl2 rfl ?_ | ((first | refine qv1 rfl rfl rfl fun K hK => ?_ | refine qv3 rfl rfl rfl fun K hK => ?_ | refine qv2 rfl rfl rfl rfl rfl rfl fun K hK => ?_ | refine qv4 rfl rfl rfl rfl rfl rfl fun K hK => ?_ | refine qn1 rfl rfl rfl fun K hK => ?_ | refine qn3 rfl rfl rfl fun K hK => ?_ | refine qt1 rfl rfl rfl fun K hK => ?_ | refine qt3 rfl rfl rfl fun K hK => ?_); simp (disch := (first | omega | (simp only [sz] <;> omega) | fail)) only [go_sem]; with_reducible refine hK _ _ ?_; clear hK K) | refine At.nil rfl ?_ | refine RG.nil rfl ?_ | ((first | refine AtL.skipg rfl rfl rfl rfl rfl ?_ | refine RGL.skipg rfl rfl rfl rfl rfl ?_ | refine AtL.skipu rfl rfl rfl rfl ?_ | refine RGL.skipu rfl rfl rfl rfl ?_); simp only [putL, List.set_cons_zero, List.set_cons_succ]) | refine Goes.yes rfl ?_ | refine Goes.no rfl ?_ | refine Goes.drawR [] (by kernel_rfl) ?_)
  ((first | refine qc1 rfl rfl fun K hK => ?_ | refine qc3 rfl rfl fun K hK => ?_); simp (disch := (first | omega | (simp only [sz] <;> omega) | fail)) only [go_sem]; refine ⟨_, _, hd1, ?_⟩; (try simp only [go_sem]); with_reducible refine hK _ _ ?_; clear hK K)
  repeat (first | refine Goes.reg ?_ | refine Goes.ctl2 rfl ?_ | ((first | refine qv1 rfl rfl rfl fun K hK => ?_ | refine qv3 rfl rfl rfl fun K hK => ?_ | refine qv2 rfl rfl rfl rfl rfl rfl fun K hK => ?_ | refine qv4 rfl rfl rfl rfl rfl rfl fun K hK => ?_ | refine qn1 rfl rfl rfl fun K hK => ?_ | refine qn3 rfl rfl rfl fun K hK => ?_ | refine qt1 rfl rfl rfl fun K hK => ?_ | refine qt3 rfl rfl rfl fun K hK => ?_); simp (disch := (first | omega | (simp only [sz] <;> omega) | fail)) only [go_sem]; with_reducible refine hK _ _ ?_; clear hK K) | refine At.nil rfl ?_ | refine RG.nil rfl ?_ | ((first | refine AtL.skipg rfl rfl rfl rfl rfl ?_ | refine RGL.skipg rfl rfl rfl rfl rfl ?_ | refine AtL.skipu rfl rfl rfl rfl ?_ | refine RGL.skipu rfl rfl rfl rfl ?_); simp only [putL, List.set_cons_zero, List.set_cons_succ]) | refine Goes.yes rfl ?_ | refine Goes.no rfl ?_ | refine Goes.drawR [] (by kernel_rfl) ?_)
  refine Goes.fin rfl (by simp (disch := (first | omega | (simp only [heapL_next, List.length_cons, List.length_nil, List.size_toArray, geo_len] <;> omega) | fail)) only [go_sem, resA, res1A, Try.results33] <;> rfl) ?_
  rfl
theorem awake10_true : trueB OK6 [] 32 1000000 = true := by kernel_rfl
theorem awake10_any (w : World) : Calls Try.prog 32 #[] w (Ret (.bool true) (Ext [] w)) := by
  have L := (closed_lawK awake10_true).calls ⟨fun _ => 0, fun _ => 0, fun _ => 0⟩ w (fun n b hb => by simp at hb) (by simp)
  rwa [show (#[] : Array Value).map (ren ⟨fun _ => 0, fun _ => 0, fun _ => 0⟩) = #[] by simp] at L
end Go.Proofs.Ytceddijolfpppaa
