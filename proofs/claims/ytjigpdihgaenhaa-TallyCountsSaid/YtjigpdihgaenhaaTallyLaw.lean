/-
  The laws of layer 18: TallyPairs.
  No condition.
-/
import Derived.Test.YtjigpdihgaenhaaTally
import Derived.Test.YtjigpdihgaenhaaLaw
namespace Go.Proofs.Ytjigpdihgaenhaa
open Go Go.RowKit

/-- An act: what, and of which sizes. -/
structure Act18 where
  d : Nat
  a : Int
  b : Int

/-- The turns of an act. -/
def actT (x : Act18) : List (Int × UInt64) :=
  if x.d % 4 = 0 then [(0, 1), (3, 1), (4, UInt64.ofInt x.a)] else if x.d % 4 = 1 then [(1, 1), (3, UInt64.ofInt (-1)), (4, UInt64.ofInt (0 - x.a))] else if x.d % 4 = 2 then [(2, 1)] else [(4, UInt64.ofInt (x.b - x.a))]

def actV (x : Act18) : Value := .agg #[.int .u8 x.d, .int .i64 x.a, .int .i64 x.b]
theorem actV_plain (x : Act18) : plainB (actV x) = true := by simp [actV, plainB]

theorem tmod4 (d k : Nat) (h : d % 4 = k) : (d : Int).tmod 4 = (k : Int) := by
  rw [Int.tmod_eq_emod_of_nonneg (by omega)]; omega

set_option maxHeartbeats 2000000 in
theorem lawDoes (S : St) (p m me : Nat) (steps : Nat) (ws : List UInt64) (bs : List UInt8) (N T : Nat) (x : Act18) (hp : S[p]? = some (.port m me steps)) (hm : S[m]? = some (.mem ws bs)) (hs : steps ≤ 100000000000) (hN : N ≤ 256) (hT : T ≤ 64) :
    Does OF 14 #[prtV p, .agg (geoC N T), actV x] [] S (.tuple #[]) (accS S p m me (steps + (actT x).length) (tAdd N T (actT x) ws) bs) := by
  refine Does.mk Try.func14 rfl rfl ?clo ?hand ?_
  case clo => exact clo3 (pclo (hlt_of hp)) gclo (Clo.plain (actV_plain x))
  case hand => exact Hand.plain (by simp [plainB])
  rw [Try.ntmps14]; simp only [List.size_toArray, List.length_cons, List.length_nil, List.replicate, List.cons_append, List.nil_append]
  have h4 : x.d % 4 < 4 := Nat.mod_lt _ (by decide)
  have hc : x.d % 4 = 0 ∨ x.d % 4 = 1 ∨ x.d % 4 = 2 ∨ x.d % 4 = 3 := by omega
  unfold actV
  rcases hc with hd | hd | hd | hd
  · have ha : actT x = [(0, 1), (3, 1), (4, UInt64.ofInt x.a)] := by simp [actT, hd]
    rw [ha]
    have e := tmod4 x.d _ hd
    repeat (first | refine Goes.reg ?_ | refine Goes.ctl2 rfl ?_ | ((first | refine AtL.val rfl rfl rfl (fun K hK => ?_) | refine RGL.val (heapL_low _) rfl rfl rfl rfl (fun K hK => ?_)); simp (disch := (first | omega | (simp only [heapL_next, List.length_cons, List.length_nil, List.size_toArray, geo_len] <;> omega) | fail)) only [go_sem, e]; with_reducible refine hK _ _ ?_; clear hK K) | (first | refine At.nil rfl ?_ | refine RG.nil rfl ?_) | ((first | refine AtL.new rfl rfl rfl (heapL_lim rfl) (fun K hK => ?_) | refine RGL.new (heapL_low _) rfl rfl rfl rfl (heapL_lim rfl) rfl (fun K hK => ?_)); simp (disch := (first | omega | (simp only [heapL_next, List.length_cons, List.length_nil, List.size_toArray, geo_len] <;> omega) | fail)) only [go_sem, e]; with_reducible refine hK _ _ ?_; clear hK K) | ((first | refine AtL.store rfl rfl rfl (fun K hK => ?_) | refine RGL.store rfl rfl rfl (fun K hK => ?_)); simp (disch := (first | omega | (simp only [heapL_next, List.length_cons, List.length_nil, List.size_toArray, geo_len] <;> omega) | fail)) only [go_sem, e]; with_reducible refine hK _ _ ?_; clear hK K) | (first | refine AtL.skip rfl rfl ?_ | refine RGL.skip rfl rfl ?_) | refine Goes.yes rfl ?_ | refine Goes.no rfl ?_ | refine Goes.drawR [] (by kernel_rfl) ?_)
    ((first | refine At.call2 rfl rfl rfl (fun K hK => ?_) | refine RG.call2 (heapL_low _) rfl rfl rfl rfl (fun K hK => ?_)); simp (disch := (first | omega | (simp only [heapL_next, List.length_cons, List.length_nil, List.size_toArray, geo_len] <;> omega) | fail)) only [go_sem]; refine ⟨_, _, tAllocated S p m me steps ws bs N T x.a hp hm hs hN hT, ?_⟩; (try simp only [go_sem]); with_reducible refine hK _ _ ?_; clear hK K)
    repeat (first | refine Goes.reg ?_ | refine Goes.ctl2 rfl ?_ | ((first | refine AtL.val rfl rfl rfl (fun K hK => ?_) | refine RGL.val (heapL_low _) rfl rfl rfl rfl (fun K hK => ?_)); simp (disch := (first | omega | (simp only [heapL_next, List.length_cons, List.length_nil, List.size_toArray, geo_len] <;> omega) | fail)) only [go_sem, e]; with_reducible refine hK _ _ ?_; clear hK K) | (first | refine At.nil rfl ?_ | refine RG.nil rfl ?_) | ((first | refine AtL.new rfl rfl rfl (heapL_lim rfl) (fun K hK => ?_) | refine RGL.new (heapL_low _) rfl rfl rfl rfl (heapL_lim rfl) rfl (fun K hK => ?_)); simp (disch := (first | omega | (simp only [heapL_next, List.length_cons, List.length_nil, List.size_toArray, geo_len] <;> omega) | fail)) only [go_sem, e]; with_reducible refine hK _ _ ?_; clear hK K) | ((first | refine AtL.store rfl rfl rfl (fun K hK => ?_) | refine RGL.store rfl rfl rfl (fun K hK => ?_)); simp (disch := (first | omega | (simp only [heapL_next, List.length_cons, List.length_nil, List.size_toArray, geo_len] <;> omega) | fail)) only [go_sem, e]; with_reducible refine hK _ _ ?_; clear hK K) | (first | refine AtL.skip rfl rfl ?_ | refine RGL.skip rfl rfl ?_) | refine Goes.yes rfl ?_ | refine Goes.no rfl ?_ | refine Goes.drawR [] (by kernel_rfl) ?_)
    refine Goes.fin rfl (by simp (disch := (first | omega | (simp only [heapL_next, List.length_cons, List.length_nil, List.size_toArray, geo_len] <;> omega) | fail)) only [go_sem, resA, res1A, Try.results14] <;> rfl) ?_
    rfl
  · have ha : actT x = [(1, 1), (3, UInt64.ofInt (-1)), (4, UInt64.ofInt (0 - x.a))] := by simp [actT, hd]
    rw [ha]
    have e := tmod4 x.d _ hd
    repeat (first | refine Goes.reg ?_ | refine Goes.ctl2 rfl ?_ | ((first | refine AtL.val rfl rfl rfl (fun K hK => ?_) | refine RGL.val (heapL_low _) rfl rfl rfl rfl (fun K hK => ?_)); simp (disch := (first | omega | (simp only [heapL_next, List.length_cons, List.length_nil, List.size_toArray, geo_len] <;> omega) | fail)) only [go_sem, e]; with_reducible refine hK _ _ ?_; clear hK K) | (first | refine At.nil rfl ?_ | refine RG.nil rfl ?_) | ((first | refine AtL.new rfl rfl rfl (heapL_lim rfl) (fun K hK => ?_) | refine RGL.new (heapL_low _) rfl rfl rfl rfl (heapL_lim rfl) rfl (fun K hK => ?_)); simp (disch := (first | omega | (simp only [heapL_next, List.length_cons, List.length_nil, List.size_toArray, geo_len] <;> omega) | fail)) only [go_sem, e]; with_reducible refine hK _ _ ?_; clear hK K) | ((first | refine AtL.store rfl rfl rfl (fun K hK => ?_) | refine RGL.store rfl rfl rfl (fun K hK => ?_)); simp (disch := (first | omega | (simp only [heapL_next, List.length_cons, List.length_nil, List.size_toArray, geo_len] <;> omega) | fail)) only [go_sem, e]; with_reducible refine hK _ _ ?_; clear hK K) | (first | refine AtL.skip rfl rfl ?_ | refine RGL.skip rfl rfl ?_) | refine Goes.yes rfl ?_ | refine Goes.no rfl ?_ | refine Goes.drawR [] (by kernel_rfl) ?_)
    ((first | refine At.call2 rfl rfl rfl (fun K hK => ?_) | refine RG.call2 (heapL_low _) rfl rfl rfl rfl (fun K hK => ?_)); simp (disch := (first | omega | (simp only [heapL_next, List.length_cons, List.length_nil, List.size_toArray, geo_len] <;> omega) | fail)) only [go_sem]; refine ⟨_, _, tFreed S p m me steps ws bs N T x.a hp hm hs hN hT, ?_⟩; (try simp only [go_sem]); with_reducible refine hK _ _ ?_; clear hK K)
    repeat (first | refine Goes.reg ?_ | refine Goes.ctl2 rfl ?_ | ((first | refine AtL.val rfl rfl rfl (fun K hK => ?_) | refine RGL.val (heapL_low _) rfl rfl rfl rfl (fun K hK => ?_)); simp (disch := (first | omega | (simp only [heapL_next, List.length_cons, List.length_nil, List.size_toArray, geo_len] <;> omega) | fail)) only [go_sem, e]; with_reducible refine hK _ _ ?_; clear hK K) | (first | refine At.nil rfl ?_ | refine RG.nil rfl ?_) | ((first | refine AtL.new rfl rfl rfl (heapL_lim rfl) (fun K hK => ?_) | refine RGL.new (heapL_low _) rfl rfl rfl rfl (heapL_lim rfl) rfl (fun K hK => ?_)); simp (disch := (first | omega | (simp only [heapL_next, List.length_cons, List.length_nil, List.size_toArray, geo_len] <;> omega) | fail)) only [go_sem, e]; with_reducible refine hK _ _ ?_; clear hK K) | ((first | refine AtL.store rfl rfl rfl (fun K hK => ?_) | refine RGL.store rfl rfl rfl (fun K hK => ?_)); simp (disch := (first | omega | (simp only [heapL_next, List.length_cons, List.length_nil, List.size_toArray, geo_len] <;> omega) | fail)) only [go_sem, e]; with_reducible refine hK _ _ ?_; clear hK K) | (first | refine AtL.skip rfl rfl ?_ | refine RGL.skip rfl rfl ?_) | refine Goes.yes rfl ?_ | refine Goes.no rfl ?_ | refine Goes.drawR [] (by kernel_rfl) ?_)
    refine Goes.fin rfl (by simp (disch := (first | omega | (simp only [heapL_next, List.length_cons, List.length_nil, List.size_toArray, geo_len] <;> omega) | fail)) only [go_sem, resA, res1A, Try.results14] <;> rfl) ?_
    rfl
  · have ha : actT x = [(2, 1)] := by simp [actT, hd]
    rw [ha]
    have e := tmod4 x.d _ hd
    repeat (first | refine Goes.reg ?_ | refine Goes.ctl2 rfl ?_ | ((first | refine AtL.val rfl rfl rfl (fun K hK => ?_) | refine RGL.val (heapL_low _) rfl rfl rfl rfl (fun K hK => ?_)); simp (disch := (first | omega | (simp only [heapL_next, List.length_cons, List.length_nil, List.size_toArray, geo_len] <;> omega) | fail)) only [go_sem, e]; with_reducible refine hK _ _ ?_; clear hK K) | (first | refine At.nil rfl ?_ | refine RG.nil rfl ?_) | ((first | refine AtL.new rfl rfl rfl (heapL_lim rfl) (fun K hK => ?_) | refine RGL.new (heapL_low _) rfl rfl rfl rfl (heapL_lim rfl) rfl (fun K hK => ?_)); simp (disch := (first | omega | (simp only [heapL_next, List.length_cons, List.length_nil, List.size_toArray, geo_len] <;> omega) | fail)) only [go_sem, e]; with_reducible refine hK _ _ ?_; clear hK K) | ((first | refine AtL.store rfl rfl rfl (fun K hK => ?_) | refine RGL.store rfl rfl rfl (fun K hK => ?_)); simp (disch := (first | omega | (simp only [heapL_next, List.length_cons, List.length_nil, List.size_toArray, geo_len] <;> omega) | fail)) only [go_sem, e]; with_reducible refine hK _ _ ?_; clear hK K) | (first | refine AtL.skip rfl rfl ?_ | refine RGL.skip rfl rfl ?_) | refine Goes.yes rfl ?_ | refine Goes.no rfl ?_ | refine Goes.drawR [] (by kernel_rfl) ?_)
    ((first | refine At.call2 rfl rfl rfl (fun K hK => ?_) | refine RG.call2 (heapL_low _) rfl rfl rfl rfl (fun K hK => ?_)); simp (disch := (first | omega | (simp only [heapL_next, List.length_cons, List.length_nil, List.size_toArray, geo_len] <;> omega) | fail)) only [go_sem]; refine ⟨_, _, tFailed S p m me steps ws bs N T hp hm hs hN hT, ?_⟩; (try simp only [go_sem]); with_reducible refine hK _ _ ?_; clear hK K)
    repeat (first | refine Goes.reg ?_ | refine Goes.ctl2 rfl ?_ | ((first | refine AtL.val rfl rfl rfl (fun K hK => ?_) | refine RGL.val (heapL_low _) rfl rfl rfl rfl (fun K hK => ?_)); simp (disch := (first | omega | (simp only [heapL_next, List.length_cons, List.length_nil, List.size_toArray, geo_len] <;> omega) | fail)) only [go_sem, e]; with_reducible refine hK _ _ ?_; clear hK K) | (first | refine At.nil rfl ?_ | refine RG.nil rfl ?_) | ((first | refine AtL.new rfl rfl rfl (heapL_lim rfl) (fun K hK => ?_) | refine RGL.new (heapL_low _) rfl rfl rfl rfl (heapL_lim rfl) rfl (fun K hK => ?_)); simp (disch := (first | omega | (simp only [heapL_next, List.length_cons, List.length_nil, List.size_toArray, geo_len] <;> omega) | fail)) only [go_sem, e]; with_reducible refine hK _ _ ?_; clear hK K) | ((first | refine AtL.store rfl rfl rfl (fun K hK => ?_) | refine RGL.store rfl rfl rfl (fun K hK => ?_)); simp (disch := (first | omega | (simp only [heapL_next, List.length_cons, List.length_nil, List.size_toArray, geo_len] <;> omega) | fail)) only [go_sem, e]; with_reducible refine hK _ _ ?_; clear hK K) | (first | refine AtL.skip rfl rfl ?_ | refine RGL.skip rfl rfl ?_) | refine Goes.yes rfl ?_ | refine Goes.no rfl ?_ | refine Goes.drawR [] (by kernel_rfl) ?_)
    refine Goes.fin rfl (by simp (disch := (first | omega | (simp only [heapL_next, List.length_cons, List.length_nil, List.size_toArray, geo_len] <;> omega) | fail)) only [go_sem, resA, res1A, Try.results14] <;> rfl) ?_
    rfl
  · have ha : actT x = [(4, UInt64.ofInt (x.b - x.a))] := by simp [actT, hd]
    rw [ha]
    have e := tmod4 x.d _ hd
    repeat (first | refine Goes.reg ?_ | refine Goes.ctl2 rfl ?_ | ((first | refine AtL.val rfl rfl rfl (fun K hK => ?_) | refine RGL.val (heapL_low _) rfl rfl rfl rfl (fun K hK => ?_)); simp (disch := (first | omega | (simp only [heapL_next, List.length_cons, List.length_nil, List.size_toArray, geo_len] <;> omega) | fail)) only [go_sem, e]; with_reducible refine hK _ _ ?_; clear hK K) | (first | refine At.nil rfl ?_ | refine RG.nil rfl ?_) | ((first | refine AtL.new rfl rfl rfl (heapL_lim rfl) (fun K hK => ?_) | refine RGL.new (heapL_low _) rfl rfl rfl rfl (heapL_lim rfl) rfl (fun K hK => ?_)); simp (disch := (first | omega | (simp only [heapL_next, List.length_cons, List.length_nil, List.size_toArray, geo_len] <;> omega) | fail)) only [go_sem, e]; with_reducible refine hK _ _ ?_; clear hK K) | ((first | refine AtL.store rfl rfl rfl (fun K hK => ?_) | refine RGL.store rfl rfl rfl (fun K hK => ?_)); simp (disch := (first | omega | (simp only [heapL_next, List.length_cons, List.length_nil, List.size_toArray, geo_len] <;> omega) | fail)) only [go_sem, e]; with_reducible refine hK _ _ ?_; clear hK K) | (first | refine AtL.skip rfl rfl ?_ | refine RGL.skip rfl rfl ?_) | refine Goes.yes rfl ?_ | refine Goes.no rfl ?_ | refine Goes.drawR [] (by kernel_rfl) ?_)
    ((first | refine At.call2 rfl rfl rfl (fun K hK => ?_) | refine RG.call2 (heapL_low _) rfl rfl rfl rfl (fun K hK => ?_)); simp (disch := (first | omega | (simp only [heapL_next, List.length_cons, List.length_nil, List.size_toArray, geo_len] <;> omega) | fail)) only [go_sem]; refine ⟨_, _, tResized S p m me steps ws bs N T x.a x.b hp hm hs hN hT, ?_⟩; (try simp only [go_sem]); with_reducible refine hK _ _ ?_; clear hK K)
    repeat (first | refine Goes.reg ?_ | refine Goes.ctl2 rfl ?_ | ((first | refine AtL.val rfl rfl rfl (fun K hK => ?_) | refine RGL.val (heapL_low _) rfl rfl rfl rfl (fun K hK => ?_)); simp (disch := (first | omega | (simp only [heapL_next, List.length_cons, List.length_nil, List.size_toArray, geo_len] <;> omega) | fail)) only [go_sem, e]; with_reducible refine hK _ _ ?_; clear hK K) | (first | refine At.nil rfl ?_ | refine RG.nil rfl ?_) | ((first | refine AtL.new rfl rfl rfl (heapL_lim rfl) (fun K hK => ?_) | refine RGL.new (heapL_low _) rfl rfl rfl rfl (heapL_lim rfl) rfl (fun K hK => ?_)); simp (disch := (first | omega | (simp only [heapL_next, List.length_cons, List.length_nil, List.size_toArray, geo_len] <;> omega) | fail)) only [go_sem, e]; with_reducible refine hK _ _ ?_; clear hK K) | ((first | refine AtL.store rfl rfl rfl (fun K hK => ?_) | refine RGL.store rfl rfl rfl (fun K hK => ?_)); simp (disch := (first | omega | (simp only [heapL_next, List.length_cons, List.length_nil, List.size_toArray, geo_len] <;> omega) | fail)) only [go_sem, e]; with_reducible refine hK _ _ ?_; clear hK K) | (first | refine AtL.skip rfl rfl ?_ | refine RGL.skip rfl rfl ?_) | refine Goes.yes rfl ?_ | refine Goes.no rfl ?_ | refine Goes.drawR [] (by kernel_rfl) ?_)
    refine Goes.fin rfl (by simp (disch := (first | omega | (simp only [heapL_next, List.length_cons, List.length_nil, List.size_toArray, geo_len] <;> omega) | fail)) only [go_sem, resA, res1A, Try.results14] <;> rfl) ?_
    rfl

/-- The cells of an act. -/
def actC (x : Act18) : List Value := [.int .u8 x.d, .int .i64 x.a, .int .i64 x.b]
theorem actC_len (x : Act18) : (actC x).length = 3 := rfl
theorem actC_plain (x : Act18) : ∀ v ∈ actC x, plainB v = true := by simp [actC, plainB]
theorem act_at {l : List Act18} {k : Nat} (h : k < l.length) : (((rowC actC l).drop (k * 3)).take 3).toArray = #[.int .u8 l[k].d, .int .i64 l[k].a, .int .i64 l[k].b] := by
  rw [rowC_at actC_len (List.getElem?_eq_getElem h)]; rfl

/-- The words behind acts. -/
def actsW (N T : Nat) (l : List Act18) (ws : List UInt64) : List UInt64 := l.foldl (fun ws x => tAdd N T (actT x) ws) ws

theorem actsW_succ {N T : Nat} {l : List Act18} {k : Nat} {ws : List UInt64} (h : k < l.length) : actsW N T (l.take (k + 1)) ws = tAdd N T (actT l[k]) (actsW N T (l.take k) ws) := by
  unfold actsW
  rw [List.take_succ_eq_append_getElem h, List.foldl_append]
  rfl
theorem actT_len (x : Act18) : (actT x).length ≤ 3 := by unfold actT; split; simp; split; simp; split <;> simp

theorem wS_len (k : Nat) (n : Int) (A B : UInt64) (ws : List UInt64) : (wS k n A B ws).length = ws.length := by
  unfold wS; split <;> simp
theorem tAdd_len {N T : Nat} : ∀ {l : List (Int × UInt64)} {ws : List UInt64}, (tAdd N T l ws).length = ws.length
  | [], _ => rfl
  | x :: l, ws => by
    show (tAdd N T l (wS 4 (gat N T 2 x.1) x.2 0 ws)).length = _
    rw [tAdd_len, wS_len]
theorem actsW_len {N T : Nat} : ∀ {l : List Act18} {ws : List UInt64}, (actsW N T l ws).length = ws.length
  | [], _ => rfl
  | x :: l, ws => by
    show (actsW N T l (tAdd N T (actT x) ws)).length = _
    rw [actsW_len, tAdd_len]
theorem gat_count {N T : Nat} (hN : 1 ≤ N) {k : Int} (h0 : 0 ≤ k) (h5 : k < 5) : gat N T 2 k = 2 + k := by
  have h2 : gb N T 2 = 2 := by unfold gb; rw [if_neg (by omega)]; rfl
  have h3 : gb N T 3 = 7 := by unfold gb; rw [if_neg (by omega)]; rfl
  rw [gat_in N T 2 h0 (by rw [h2, h3]; omega), h2]
  rfl
/-- A count behind a turn. -/
theorem tCount_turn {N T : Nat} (hN : 1 ≤ N) {j k : Int} (h0 : 0 ≤ j) (h5 : j < 5) (h0' : 0 ≤ k) (h5' : k < 5) {A : UInt64} {ws : List UInt64} (hl : 7 ≤ ws.length) :
    tCount N T j (wS 4 (gat N T 2 k) A 0 ws) = if j = k then tCount N T j ws + A else tCount N T j ws := by
  obtain ⟨j, rfl⟩ := Int.eq_ofNat_of_zero_le h0
  obtain ⟨k, rfl⟩ := Int.eq_ofNat_of_zero_le h0'
  have hk : wAt ws (2 + (k : Int)) = some ws[2 + k] := by
    have := wAt_in (ws := ws) (n := 2 + k) (by omega)
    rw [← this]; congr 1
  have hj : wAt ws (2 + (j : Int)) = some ws[2 + j] := by
    have := wAt_in (ws := ws) (n := 2 + j) (by omega)
    rw [← this]; congr 1
  have hs : wS 4 (2 + (k : Int)) A 0 ws = ws.set (2 + k) (ws[2 + k] + A) := by
    unfold wS
    rw [hk]
    simp only [kNow]
    congr 1
  unfold tCount
  rw [gat_count hN h0 h5, gat_count hN h0' h5', hs]
  have hj' : wAt (ws.set (2 + k) (ws[2 + k] + A)) (2 + (j : Int)) = some ((ws.set (2 + k) (ws[2 + k] + A))[2 + j]'(by simp; omega)) := by
    have := wAt_in (ws := ws.set (2 + k) (ws[2 + k] + A)) (n := 2 + j) (by simp; omega)
    rw [← this]; congr 1
  unfold wT
  rw [hj, hj']
  simp only [kTold, List.getElem_set]
  by_cases h : j = k
  · subst h; simp
  · rw [if_neg (by omega), if_neg (by omega)]
theorem tCount_nil {N T : Nat} {j : Int} {ws : List UInt64} : tCount N T j (tAdd N T [] ws) = tCount N T j ws := rfl
theorem tCount_cons {N T : Nat} (hN : 1 ≤ N) {j : Int} {x : Int × UInt64} {l : List (Int × UInt64)} (h0 : 0 ≤ j) (h5 : j < 5) {ws : List UInt64} : tCount N T j (tAdd N T (x :: l) ws) = tCount N T j (tAdd N T l (wS 4 (gat N T 2 x.1) x.2 0 ws)) := rfl

theorem ofInt_add (a b : Int) : UInt64.ofInt a + UInt64.ofInt b = UInt64.ofInt (a + b) := by
  apply UInt64.toNat_inj.1
  rw [UInt64.toNat_add]
  have h1 := u64_wrap a
  have h2 := u64_wrap b
  have h3 := u64_wrap (a + b)
  rw [IntKind.wrap_u64] at h1 h2 h3
  omega
theorem ofInt_cancel (x : UInt64) (a b : Int) (h : a + b = 0) : x + UInt64.ofInt a + UInt64.ofInt b = x := by
  rw [UInt64.add_assoc, ofInt_add, h]
  show x + 0 = x
  simp
theorem add_one_wrap (x : UInt64) : ((x + 1).toNat : Int) = IntKind.u64.wrap ((x.toNat : Int) + 1) := by
  rw [IntKind.wrap_u64, UInt64.toNat_add]
  simp

/-- What TallyPairs does behind its acts. -/
def pairW (a b : Int) (W : List UInt64) : List UInt64 := tAdd 2 2 [(1, 1), (3, UInt64.ofInt (-1)), (4, UInt64.ofInt (0 - a))] (tAdd 2 2 [(4, UInt64.ofInt (a - b))] (tAdd 2 2 [(4, UInt64.ofInt (b - a))] (tAdd 2 2 [(0, 1), (3, 1), (4, UInt64.ofInt a)] W)))
theorem pair_counts (a b : Int) (W : List UInt64) (hl : 7 ≤ W.length) : tCount 2 2 0 (pairW a b W) = tCount 2 2 0 W + 1 ∧ tCount 2 2 1 (pairW a b W) = tCount 2 2 1 W + 1 ∧ tCount 2 2 2 (pairW a b W) = tCount 2 2 2 W ∧ tCount 2 2 3 (pairW a b W) = tCount 2 2 3 W ∧ tCount 2 2 4 (pairW a b W) = tCount 2 2 4 W := by
  have key : ∀ (j : Int), 0 ≤ j → j < 5 → tCount 2 2 j (pairW a b W) = (((((((if j = 0 then tCount 2 2 j W + 1 else tCount 2 2 j W) + (if j = 3 then 1 else 0)) + (if j = 4 then UInt64.ofInt a else 0)) + (if j = 4 then UInt64.ofInt (b - a) else 0)) + (if j = 4 then UInt64.ofInt (a - b) else 0)) + (if j = 1 then 1 else 0)) + (if j = 3 then UInt64.ofInt (-1) else 0)) + (if j = 4 then UInt64.ofInt (0 - a) else 0) := by
    intro j h0 h5
    unfold pairW
    simp only [tAdd, List.foldl_cons, List.foldl_nil]
    repeat rw [tCount_turn (by decide) h0 h5 (by decide) (by decide) (by simpa only [wS_len] using hl)]
    have hz : ∀ (p : Prop) [Decidable p] (x y : UInt64), (if p then x + y else x) = x + if p then y else 0 := fun p _ x y => by split <;> simp
    simp only [hz]
  refine ⟨?_, ?_, ?_, ?_, ?_⟩
  · rw [key 0 (by decide) (by decide)]; simp
  · rw [key 1 (by decide) (by decide)]; simp
  · rw [key 2 (by decide) (by decide)]; simp
  · rw [key 3 (by decide) (by decide)]
    simp only [show ((3 : Int) = 0) = False by simp, show ((3 : Int) = 4) = False by simp, show ((3 : Int) = 1) = False by simp, if_false, if_true, UInt64.add_zero]
    exact ofInt_cancel _ 1 (-1) rfl
  · rw [key 4 (by decide) (by decide)]
    simp only [show ((4 : Int) = 0) = False by simp, show ((4 : Int) = 3) = False by simp, show ((4 : Int) = 1) = False by simp, if_false, if_true, UInt64.add_zero]
    rw [UInt64.add_assoc, UInt64.add_assoc, UInt64.add_assoc, ofInt_add, ofInt_add, ofInt_add, show a + (b - a + (a - b + (0 - a))) = 0 by omega]
    show _ + 0 = _
    simp

set_option maxHeartbeats 4000000 in
theorem tallyPairs_law (sl : Option Addr) (c : Nat) (l : List Act18) (a b : Int) (ob : Option Blk) (hcl : SlAt 0 sl) (hrow : RowIs actC 0 sl l ob) (hlen : l.length ≤ 9223372036854775807) :
    Law 3 #[.slice sl l.length c, .int .i64 a, .int .i64 b] [ob] := by
  refine Law.mk Try.func3 rfl rfl (clo3 (hcl.clo (by simp)) iclo iclo) ?_
  rw [Try.ntmps3]; simp only [List.size_toArray, List.length_cons, List.length_nil, List.replicate, List.cons_append, List.nil_append]
  by_cases h40 : l.length > 40
  · have hd : decide ((40 : Int) < (l.length : Int)) = true := decide_eq_true (by omega)
    repeat (first | refine Goes.reg ?_ | refine Goes.ctl2 rfl ?_ | ((first | refine AtL.val rfl rfl rfl (fun K hK => ?_) | refine RGL.val (heapL_low _) rfl rfl rfl rfl (fun K hK => ?_)); simp (disch := (first | omega | (simp only [heapL_next, List.length_cons, List.length_nil, List.size_toArray, geo_len] <;> omega) | fail)) only [go_sem, hd]; with_reducible refine hK _ _ ?_; clear hK K) | (first | refine At.nil rfl ?_ | refine RG.nil rfl ?_) | ((first | refine AtL.new rfl rfl rfl (heapL_lim rfl) (fun K hK => ?_) | refine RGL.new (heapL_low _) rfl rfl rfl rfl (heapL_lim rfl) rfl (fun K hK => ?_)); simp (disch := (first | omega | (simp only [heapL_next, List.length_cons, List.length_nil, List.size_toArray, geo_len] <;> omega) | fail)) only [go_sem, hd]; with_reducible refine hK _ _ ?_; clear hK K) | ((first | refine AtL.store rfl rfl rfl (fun K hK => ?_) | refine RGL.store rfl rfl rfl (fun K hK => ?_)); simp (disch := (first | omega | (simp only [heapL_next, List.length_cons, List.length_nil, List.size_toArray, geo_len] <;> omega) | fail)) only [go_sem, hd]; with_reducible refine hK _ _ ?_; clear hK K) | (first | refine AtL.skip rfl rfl ?_ | refine RGL.skip rfl rfl ?_) | refine Goes.yes rfl ?_ | refine Goes.no rfl ?_ | refine Goes.drawR [] (by kernel_rfl) ?_)
    ((first | refine At.call2 rfl rfl rfl (fun K hK => ?_) | refine RG.call2 (heapL_low _) rfl rfl rfl rfl (fun K hK => ?_)); simp (disch := (first | omega | (simp only [heapL_next, List.length_cons, List.length_nil, List.size_toArray, geo_len] <;> omega) | fail)) only [go_sem]; refine ⟨_, _, awake18 [], ?_⟩; (try simp only [go_sem]); with_reducible refine hK _ _ ?_; clear hK K)
    repeat (first | refine Goes.reg ?_ | refine Goes.ctl2 rfl ?_ | ((first | refine AtL.val rfl rfl rfl (fun K hK => ?_) | refine RGL.val (heapL_low _) rfl rfl rfl rfl (fun K hK => ?_)); simp (disch := (first | omega | (simp only [heapL_next, List.length_cons, List.length_nil, List.size_toArray, geo_len] <;> omega) | fail)) only [go_sem]; with_reducible refine hK _ _ ?_; clear hK K) | (first | refine At.nil rfl ?_ | refine RG.nil rfl ?_) | ((first | refine AtL.new rfl rfl rfl (heapL_lim rfl) (fun K hK => ?_) | refine RGL.new (heapL_low _) rfl rfl rfl rfl (heapL_lim rfl) rfl (fun K hK => ?_)); simp (disch := (first | omega | (simp only [heapL_next, List.length_cons, List.length_nil, List.size_toArray, geo_len] <;> omega) | fail)) only [go_sem]; with_reducible refine hK _ _ ?_; clear hK K) | ((first | refine AtL.store rfl rfl rfl (fun K hK => ?_) | refine RGL.store rfl rfl rfl (fun K hK => ?_)); simp (disch := (first | omega | (simp only [heapL_next, List.length_cons, List.length_nil, List.size_toArray, geo_len] <;> omega) | fail)) only [go_sem]; with_reducible refine hK _ _ ?_; clear hK K) | (first | refine AtL.skip rfl rfl ?_ | refine RGL.skip rfl rfl ?_) | refine Goes.yes rfl ?_ | refine Goes.no rfl ?_ | refine Goes.drawR [] (by kernel_rfl) ?_)
    exact Goes.law rfl rfl
  · have hd : decide ((40 : Int) < (l.length : Int)) = false := decide_eq_false (by omega)
    repeat (first | refine Goes.reg ?_ | refine Goes.ctl2 rfl ?_ | ((first | refine AtL.val rfl rfl rfl (fun K hK => ?_) | refine RGL.val (heapL_low _) rfl rfl rfl rfl (fun K hK => ?_)); simp (disch := (first | omega | (simp only [heapL_next, List.length_cons, List.length_nil, List.size_toArray, geo_len] <;> omega) | fail)) only [go_sem, hd]; with_reducible refine hK _ _ ?_; clear hK K) | (first | refine At.nil rfl ?_ | refine RG.nil rfl ?_) | ((first | refine AtL.new rfl rfl rfl (heapL_lim rfl) (fun K hK => ?_) | refine RGL.new (heapL_low _) rfl rfl rfl rfl (heapL_lim rfl) rfl (fun K hK => ?_)); simp (disch := (first | omega | (simp only [heapL_next, List.length_cons, List.length_nil, List.size_toArray, geo_len] <;> omega) | fail)) only [go_sem, hd]; with_reducible refine hK _ _ ?_; clear hK K) | ((first | refine AtL.store rfl rfl rfl (fun K hK => ?_) | refine RGL.store rfl rfl rfl (fun K hK => ?_)); simp (disch := (first | omega | (simp only [heapL_next, List.length_cons, List.length_nil, List.size_toArray, geo_len] <;> omega) | fail)) only [go_sem, hd]; with_reducible refine hK _ _ ?_; clear hK K) | (first | refine AtL.skip rfl rfl ?_ | refine RGL.skip rfl rfl ?_) | refine Goes.yes rfl ?_ | refine Goes.no rfl ?_ | refine Goes.drawR [] (by kernel_rfl) ?_)
    ((first | refine At.call2 rfl rfl rfl (fun K hK => ?_) | refine RG.call2 (heapL_low _) rfl rfl rfl rfl (fun K hK => ?_)); simp (disch := (first | omega | (simp only [heapL_next, List.length_cons, List.length_nil, List.size_toArray, geo_len] <;> omega) | fail)) only [go_sem]; refine ⟨_, _, begun_does _ 2 2 (by decide) (by decide) (by decide) (by decide) (by decide), ?_⟩; (try simp only [go_sem]); with_reducible refine hK _ _ ?_; clear hK K)
    repeat (first | refine Goes.reg ?_ | refine Goes.ctl2 rfl ?_ | ((first | refine AtL.val rfl rfl rfl (fun K hK => ?_) | refine RGL.val (heapL_low _) rfl rfl rfl rfl (fun K hK => ?_)); simp (disch := (first | omega | (simp only [heapL_next, List.length_cons, List.length_nil, List.size_toArray, geo_len] <;> omega) | fail)) only [go_sem]; with_reducible refine hK _ _ ?_; clear hK K) | (first | refine At.nil rfl ?_ | refine RG.nil rfl ?_) | ((first | refine AtL.new rfl rfl rfl (heapL_lim rfl) (fun K hK => ?_) | refine RGL.new (heapL_low _) rfl rfl rfl rfl (heapL_lim rfl) rfl (fun K hK => ?_)); simp (disch := (first | omega | (simp only [heapL_next, List.length_cons, List.length_nil, List.size_toArray, geo_len] <;> omega) | fail)) only [go_sem]; with_reducible refine hK _ _ ?_; clear hK K) | ((first | refine AtL.store rfl rfl rfl (fun K hK => ?_) | refine RGL.store rfl rfl rfl (fun K hK => ?_)); simp (disch := (first | omega | (simp only [heapL_next, List.length_cons, List.length_nil, List.size_toArray, geo_len] <;> omega) | fail)) only [go_sem]; with_reducible refine hK _ _ ?_; clear hK K) | (first | refine AtL.skip rfl rfl ?_ | refine RGL.skip rfl rfl ?_) | refine Goes.yes rfl ?_ | refine Goes.no rfl ?_ | refine Goes.drawR [] (by kernel_rfl) ?_)
    ((first | refine At.prim2 rfl rfl rfl (fun K hK => ?_) | refine RG.prim2 (heapL_low _) rfl rfl rfl rfl (fun K hK => ?_)); simp (disch := (first | omega | (simp only [heapL_next, List.length_cons, List.length_nil, List.size_toArray, geo_len] <;> omega) | fail)) only [go_sem]; refine ⟨_, _, .pnew (m := 0) rfl, ?_⟩; (try simp only [go_sem]); with_reducible refine hK _ _ ?_; clear hK K)
    repeat (first | refine Goes.reg ?_ | refine Goes.ctl2 rfl ?_ | ((first | refine AtL.val rfl rfl rfl (fun K hK => ?_) | refine RGL.val (heapL_low _) rfl rfl rfl rfl (fun K hK => ?_)); simp (disch := (first | omega | (simp only [heapL_next, List.length_cons, List.length_nil, List.size_toArray, geo_len] <;> omega) | fail)) only [go_sem]; with_reducible refine hK _ _ ?_; clear hK K) | (first | refine At.nil rfl ?_ | refine RG.nil rfl ?_) | ((first | refine AtL.new rfl rfl rfl (heapL_lim rfl) (fun K hK => ?_) | refine RGL.new (heapL_low _) rfl rfl rfl rfl (heapL_lim rfl) rfl (fun K hK => ?_)); simp (disch := (first | omega | (simp only [heapL_next, List.length_cons, List.length_nil, List.size_toArray, geo_len] <;> omega) | fail)) only [go_sem]; with_reducible refine hK _ _ ?_; clear hK K) | ((first | refine AtL.store rfl rfl rfl (fun K hK => ?_) | refine RGL.store rfl rfl rfl (fun K hK => ?_)); simp (disch := (first | omega | (simp only [heapL_next, List.length_cons, List.length_nil, List.size_toArray, geo_len] <;> omega) | fail)) only [go_sem]; with_reducible refine hK _ _ ?_; clear hK K) | (first | refine AtL.skip rfl rfl ?_ | refine RGL.skip rfl rfl ?_) | refine Goes.yes rfl ?_ | refine Goes.no rfl ?_ | refine Goes.drawR [] (by kernel_rfl) ?_)
    refine Goes.wh (fun m tmps h S => ∃ k st, m = l.length - k ∧ k ≤ l.length ∧ st ≤ 3 * k ∧ h = heapL [ob, some { cells := (geoC 2 2).toList, elem := 26 }] ∧ S = [.mem (actsW 2 2 (l.take k) (List.replicate (gb 2 2 19) 0)) (List.replicate 128 0), .port 0 0 st] ∧
      tmps.length = 105 ∧ tmps.getD 0 undef = .slice sl l.length c ∧ tmps.getD 1 undef = .int .i64 a ∧ tmps.getD 2 undef = .int .i64 b ∧ tmps.getD 7 undef = .pointer (some ⟨1, 0, none⟩) ∧ tmps.getD 8 undef = hndV 0 ∧ tmps.getD 9 undef = hndV 1 ∧ tmps.getD 10 undef = .int .i64 k) (m := l.length) ⟨0, 0, by omega, by omega, by omega, rfl, rfl, rfl, rfl, rfl, rfl, rfl, rfl, rfl, rfl⟩ ?_
    rintro m tmps h S ih ⟨k, st, rfl, hk, hst, rfl, rfl, hl, f0, f1, f2, f7, f8, f9, f10⟩
    obtain ⟨V, hV, hT⟩ := frame_lit hl; replace hT : _ = ([V 0, V 1, V 2, V 3, V 4, V 5, V 6, V 7, V 8, V 9, V 10, V 11, V 12, V 13, V 14, V 15, V 16, V 17, V 18, V 19, V 20, V 21, V 22, V 23, V 24, V 25, V 26, V 27, V 28, V 29, V 30, V 31, V 32, V 33, V 34, V 35, V 36, V 37, V 38, V 39, V 40, V 41, V 42, V 43, V 44, V 45, V 46, V 47, V 48, V 49, V 50, V 51, V 52, V 53, V 54, V 55, V 56, V 57, V 58, V 59, V 60, V 61, V 62, V 63, V 64, V 65, V 66, V 67, V 68, V 69, V 70, V 71, V 72, V 73, V 74, V 75, V 76, V 77, V 78, V 79, V 80, V 81, V 82, V 83, V 84, V 85, V 86, V 87, V 88, V 89, V 90, V 91, V 92, V 93, V 94, V 95, V 96, V 97, V 98, V 99, V 100, V 101, V 102, V 103, V 104] : List Value) := hT; rw [hV] at f0 f1 f2 f7 f8 f9 f10; subst hT; simp only [f0, f1, f2, f7, f8, f9, f10]; clear hV hl
    by_cases hlt : k < l.length
    · obtain ⟨rfl, el, rfl⟩ := hrow (by omega)
      have hd1 : decide ((k : Int) < (l.length : Int)) = true := decide_eq_true (by omega)
      have hd2 : (0 ≤ (k : Int)) = True := eq_true (by omega)
      have hd3 : ((k : Int) < (l.length : Int)) = True := eq_true (by omega)
      have hcl := rowC_len actC_len l
      have hx := act_at hlt
      repeat (first | refine Goes.reg ?_ | refine Goes.ctl2 rfl ?_ | ((first | refine AtL.val rfl rfl rfl (fun K hK => ?_) | refine RGL.val (heapL_low _) rfl rfl rfl rfl (fun K hK => ?_)); simp (disch := (first | omega | (simp only [heapL_next, List.length_cons, List.length_nil, List.size_toArray, geo_len] <;> omega) | fail)) only [go_sem, hd1, hd2, hd3, hx]; with_reducible refine hK _ _ ?_; clear hK K) | (first | refine At.nil rfl ?_ | refine RG.nil rfl ?_) | ((first | refine AtL.new rfl rfl rfl (heapL_lim rfl) (fun K hK => ?_) | refine RGL.new (heapL_low _) rfl rfl rfl rfl (heapL_lim rfl) rfl (fun K hK => ?_)); simp (disch := (first | omega | (simp only [heapL_next, List.length_cons, List.length_nil, List.size_toArray, geo_len] <;> omega) | fail)) only [go_sem, hd1, hd2, hd3, hx]; with_reducible refine hK _ _ ?_; clear hK K) | ((first | refine AtL.store rfl rfl rfl (fun K hK => ?_) | refine RGL.store rfl rfl rfl (fun K hK => ?_)); simp (disch := (first | omega | (simp only [heapL_next, List.length_cons, List.length_nil, List.size_toArray, geo_len] <;> omega) | fail)) only [go_sem, hd1, hd2, hd3, hx]; with_reducible refine hK _ _ ?_; clear hK K) | (first | refine AtL.skip rfl rfl ?_ | refine RGL.skip rfl rfl ?_) | refine Goes.yes rfl ?_ | refine Goes.no rfl ?_ | refine Goes.drawR [] (by kernel_rfl) ?_)
      ((first | refine At.call2 rfl rfl rfl (fun K hK => ?_) | refine RG.call2 (heapL_low _) rfl rfl rfl rfl (fun K hK => ?_)); simp (disch := (first | omega | (simp only [heapL_next, List.length_cons, List.length_nil, List.size_toArray, geo_len] <;> omega) | fail)) only [go_sem]; refine ⟨_, _, lawDoes _ 1 0 0 _ _ _ 2 2 l[k] rfl rfl (by omega) (by decide) (by decide), ?_⟩; (try simp only [go_sem]); with_reducible refine hK _ _ ?_; clear hK K)
      repeat (first | refine Goes.reg ?_ | refine Goes.ctl2 rfl ?_ | ((first | refine AtL.val rfl rfl rfl (fun K hK => ?_) | refine RGL.val (heapL_low _) rfl rfl rfl rfl (fun K hK => ?_)); simp (disch := (first | omega | (simp only [heapL_next, List.length_cons, List.length_nil, List.size_toArray, geo_len] <;> omega) | fail)) only [go_sem]; with_reducible refine hK _ _ ?_; clear hK K) | (first | refine At.nil rfl ?_ | refine RG.nil rfl ?_) | ((first | refine AtL.new rfl rfl rfl (heapL_lim rfl) (fun K hK => ?_) | refine RGL.new (heapL_low _) rfl rfl rfl rfl (heapL_lim rfl) rfl (fun K hK => ?_)); simp (disch := (first | omega | (simp only [heapL_next, List.length_cons, List.length_nil, List.size_toArray, geo_len] <;> omega) | fail)) only [go_sem]; with_reducible refine hK _ _ ?_; clear hK K) | ((first | refine AtL.store rfl rfl rfl (fun K hK => ?_) | refine RGL.store rfl rfl rfl (fun K hK => ?_)); simp (disch := (first | omega | (simp only [heapL_next, List.length_cons, List.length_nil, List.size_toArray, geo_len] <;> omega) | fail)) only [go_sem]; with_reducible refine hK _ _ ?_; clear hK K) | (first | refine AtL.skip rfl rfl ?_ | refine RGL.skip rfl rfl ?_) | refine Goes.yes rfl ?_ | refine Goes.no rfl ?_ | refine Goes.drawR [] (by kernel_rfl) ?_)
      have hlen2 := actT_len l[k]
      exact ih _ _ _ _ (by omega) ⟨k + 1, _, rfl, by omega, (by show st + (actT l[k]).length ≤ _; omega), rfl, by rw [actsW_succ hlt], rfl, rfl, rfl, rfl, rfl, rfl, rfl, rfl⟩
    · obtain rfl : k = l.length := by omega
      have hd1 : decide ((l.length : Int) < (l.length : Int)) = false := decide_eq_false (by omega)
      obtain ⟨W, hW⟩ : ∃ W, W = actsW 2 2 (List.take l.length l) (List.replicate (gb 2 2 19) 0) := ⟨_, rfl⟩
      have hWl : 7 ≤ W.length := by rw [hW, actsW_len, List.length_replicate]; decide
      rw [← hW]
      clear hW ih
      obtain ⟨p0, p1, p2, p3, p4⟩ := pair_counts a b W hWl
      have q0 : (((tCount 2 2 0 (pairW a b W)).toNat : Int) == IntKind.u64.wrap (((tCount 2 2 0 W).toNat : Int) + 1)) = true := by rw [p0, add_one_wrap]; exact beq_self_eq_true _
      have q1 : (((tCount 2 2 1 (pairW a b W)).toNat : Int) == IntKind.u64.wrap (((tCount 2 2 1 W).toNat : Int) + 1)) = true := by rw [p1, add_one_wrap]; exact beq_self_eq_true _
      have q2 : (((tCount 2 2 2 (pairW a b W)).toNat : Int) == ((tCount 2 2 2 W).toNat : Int)) = true := by rw [p2]; exact beq_self_eq_true _
      have q3 : (((tCount 2 2 3 (pairW a b W)).toNat : Int) == ((tCount 2 2 3 W).toNat : Int)) = true := by rw [p3]; exact beq_self_eq_true _
      have q4 : (((tCount 2 2 4 (pairW a b W)).toNat : Int) == ((tCount 2 2 4 W).toNat : Int)) = true := by rw [p4]; exact beq_self_eq_true _
      clear p0 p1 p2 p3 p4
      repeat (first | refine Goes.reg ?_ | refine Goes.ctl2 rfl ?_ | ((first | refine AtL.val rfl rfl rfl (fun K hK => ?_) | refine RGL.val (heapL_low _) rfl rfl rfl rfl (fun K hK => ?_)); simp (disch := (first | omega | (simp only [heapL_next, List.length_cons, List.length_nil, List.size_toArray, geo_len] <;> omega) | fail)) only [go_sem, hd1]; with_reducible refine hK _ _ ?_; clear hK K) | (first | refine At.nil rfl ?_ | refine RG.nil rfl ?_) | ((first | refine AtL.new rfl rfl rfl (heapL_lim rfl) (fun K hK => ?_) | refine RGL.new (heapL_low _) rfl rfl rfl rfl (heapL_lim rfl) rfl (fun K hK => ?_)); simp (disch := (first | omega | (simp only [heapL_next, List.length_cons, List.length_nil, List.size_toArray, geo_len] <;> omega) | fail)) only [go_sem, hd1]; with_reducible refine hK _ _ ?_; clear hK K) | ((first | refine AtL.store rfl rfl rfl (fun K hK => ?_) | refine RGL.store rfl rfl rfl (fun K hK => ?_)); simp (disch := (first | omega | (simp only [heapL_next, List.length_cons, List.length_nil, List.size_toArray, geo_len] <;> omega) | fail)) only [go_sem, hd1]; with_reducible refine hK _ _ ?_; clear hK K) | (first | refine AtL.skip rfl rfl ?_ | refine RGL.skip rfl rfl ?_) | refine Goes.yes rfl ?_ | refine Goes.no rfl ?_ | refine Goes.drawR [] (by kernel_rfl) ?_)
      ((first | refine At.call2 rfl rfl rfl (fun K hK => ?_) | refine RG.call2 (heapL_low _) rfl rfl rfl rfl (fun K hK => ?_)); simp (disch := (first | omega | (simp only [heapL_next, List.length_cons, List.length_nil, List.size_toArray, geo_len] <;> omega) | fail)) only [go_sem]; refine ⟨_, _, tRead _ 1 0 0 _ _ _ 2 2 rfl rfl (by omega) (by decide) (by decide), ?_⟩; (try simp only [go_sem]); with_reducible refine hK _ _ ?_; clear hK K)
      repeat (first | refine Goes.reg ?_ | refine Goes.ctl2 rfl ?_ | ((first | refine AtL.val rfl rfl rfl (fun K hK => ?_) | refine RGL.val (heapL_low _) rfl rfl rfl rfl (fun K hK => ?_)); simp (disch := (first | omega | (simp only [heapL_next, List.length_cons, List.length_nil, List.size_toArray, geo_len] <;> omega) | fail)) only [go_sem, tCounts]; with_reducible refine hK _ _ ?_; clear hK K) | (first | refine At.nil rfl ?_ | refine RG.nil rfl ?_) | ((first | refine AtL.new rfl rfl rfl (heapL_lim rfl) (fun K hK => ?_) | refine RGL.new (heapL_low _) rfl rfl rfl rfl (heapL_lim rfl) rfl (fun K hK => ?_)); simp (disch := (first | omega | (simp only [heapL_next, List.length_cons, List.length_nil, List.size_toArray, geo_len] <;> omega) | fail)) only [go_sem, tCounts]; with_reducible refine hK _ _ ?_; clear hK K) | ((first | refine AtL.store rfl rfl rfl (fun K hK => ?_) | refine RGL.store rfl rfl rfl (fun K hK => ?_)); simp (disch := (first | omega | (simp only [heapL_next, List.length_cons, List.length_nil, List.size_toArray, geo_len] <;> omega) | fail)) only [go_sem, tCounts]; with_reducible refine hK _ _ ?_; clear hK K) | (first | refine AtL.skip rfl rfl ?_ | refine RGL.skip rfl rfl ?_) | refine Goes.yes rfl ?_ | refine Goes.no rfl ?_ | refine Goes.drawR [] (by kernel_rfl) ?_)
      ((first | refine At.call2 rfl rfl rfl (fun K hK => ?_) | refine RG.call2 (heapL_low _) rfl rfl rfl rfl (fun K hK => ?_)); simp (disch := (first | omega | (simp only [heapL_next, List.length_cons, List.length_nil, List.size_toArray, geo_len] <;> omega) | fail)) only [go_sem]; refine ⟨_, _, tAllocated _ 1 0 0 _ _ _ 2 2 a rfl rfl (by omega) (by decide) (by decide), ?_⟩; (try simp only [go_sem]); with_reducible refine hK _ _ ?_; clear hK K)
      repeat (first | refine Goes.reg ?_ | refine Goes.ctl2 rfl ?_ | ((first | refine AtL.val rfl rfl rfl (fun K hK => ?_) | refine RGL.val (heapL_low _) rfl rfl rfl rfl (fun K hK => ?_)); simp (disch := (first | omega | (simp only [heapL_next, List.length_cons, List.length_nil, List.size_toArray, geo_len] <;> omega) | fail)) only [go_sem]; with_reducible refine hK _ _ ?_; clear hK K) | (first | refine At.nil rfl ?_ | refine RG.nil rfl ?_) | ((first | refine AtL.new rfl rfl rfl (heapL_lim rfl) (fun K hK => ?_) | refine RGL.new (heapL_low _) rfl rfl rfl rfl (heapL_lim rfl) rfl (fun K hK => ?_)); simp (disch := (first | omega | (simp only [heapL_next, List.length_cons, List.length_nil, List.size_toArray, geo_len] <;> omega) | fail)) only [go_sem]; with_reducible refine hK _ _ ?_; clear hK K) | ((first | refine AtL.store rfl rfl rfl (fun K hK => ?_) | refine RGL.store rfl rfl rfl (fun K hK => ?_)); simp (disch := (first | omega | (simp only [heapL_next, List.length_cons, List.length_nil, List.size_toArray, geo_len] <;> omega) | fail)) only [go_sem]; with_reducible refine hK _ _ ?_; clear hK K) | (first | refine AtL.skip rfl rfl ?_ | refine RGL.skip rfl rfl ?_) | refine Goes.yes rfl ?_ | refine Goes.no rfl ?_ | refine Goes.drawR [] (by kernel_rfl) ?_)
      ((first | refine At.call2 rfl rfl rfl (fun K hK => ?_) | refine RG.call2 (heapL_low _) rfl rfl rfl rfl (fun K hK => ?_)); simp (disch := (first | omega | (simp only [heapL_next, List.length_cons, List.length_nil, List.size_toArray, geo_len] <;> omega) | fail)) only [go_sem]; refine ⟨_, _, tResized _ 1 0 0 _ _ _ 2 2 a b rfl rfl (by omega) (by decide) (by decide), ?_⟩; (try simp only [go_sem]); with_reducible refine hK _ _ ?_; clear hK K)
      repeat (first | refine Goes.reg ?_ | refine Goes.ctl2 rfl ?_ | ((first | refine AtL.val rfl rfl rfl (fun K hK => ?_) | refine RGL.val (heapL_low _) rfl rfl rfl rfl (fun K hK => ?_)); simp (disch := (first | omega | (simp only [heapL_next, List.length_cons, List.length_nil, List.size_toArray, geo_len] <;> omega) | fail)) only [go_sem]; with_reducible refine hK _ _ ?_; clear hK K) | (first | refine At.nil rfl ?_ | refine RG.nil rfl ?_) | ((first | refine AtL.new rfl rfl rfl (heapL_lim rfl) (fun K hK => ?_) | refine RGL.new (heapL_low _) rfl rfl rfl rfl (heapL_lim rfl) rfl (fun K hK => ?_)); simp (disch := (first | omega | (simp only [heapL_next, List.length_cons, List.length_nil, List.size_toArray, geo_len] <;> omega) | fail)) only [go_sem]; with_reducible refine hK _ _ ?_; clear hK K) | ((first | refine AtL.store rfl rfl rfl (fun K hK => ?_) | refine RGL.store rfl rfl rfl (fun K hK => ?_)); simp (disch := (first | omega | (simp only [heapL_next, List.length_cons, List.length_nil, List.size_toArray, geo_len] <;> omega) | fail)) only [go_sem]; with_reducible refine hK _ _ ?_; clear hK K) | (first | refine AtL.skip rfl rfl ?_ | refine RGL.skip rfl rfl ?_) | refine Goes.yes rfl ?_ | refine Goes.no rfl ?_ | refine Goes.drawR [] (by kernel_rfl) ?_)
      ((first | refine At.call2 rfl rfl rfl (fun K hK => ?_) | refine RG.call2 (heapL_low _) rfl rfl rfl rfl (fun K hK => ?_)); simp (disch := (first | omega | (simp only [heapL_next, List.length_cons, List.length_nil, List.size_toArray, geo_len] <;> omega) | fail)) only [go_sem]; refine ⟨_, _, tResized _ 1 0 0 _ _ _ 2 2 b a rfl rfl (by omega) (by decide) (by decide), ?_⟩; (try simp only [go_sem]); with_reducible refine hK _ _ ?_; clear hK K)
      repeat (first | refine Goes.reg ?_ | refine Goes.ctl2 rfl ?_ | ((first | refine AtL.val rfl rfl rfl (fun K hK => ?_) | refine RGL.val (heapL_low _) rfl rfl rfl rfl (fun K hK => ?_)); simp (disch := (first | omega | (simp only [heapL_next, List.length_cons, List.length_nil, List.size_toArray, geo_len] <;> omega) | fail)) only [go_sem]; with_reducible refine hK _ _ ?_; clear hK K) | (first | refine At.nil rfl ?_ | refine RG.nil rfl ?_) | ((first | refine AtL.new rfl rfl rfl (heapL_lim rfl) (fun K hK => ?_) | refine RGL.new (heapL_low _) rfl rfl rfl rfl (heapL_lim rfl) rfl (fun K hK => ?_)); simp (disch := (first | omega | (simp only [heapL_next, List.length_cons, List.length_nil, List.size_toArray, geo_len] <;> omega) | fail)) only [go_sem]; with_reducible refine hK _ _ ?_; clear hK K) | ((first | refine AtL.store rfl rfl rfl (fun K hK => ?_) | refine RGL.store rfl rfl rfl (fun K hK => ?_)); simp (disch := (first | omega | (simp only [heapL_next, List.length_cons, List.length_nil, List.size_toArray, geo_len] <;> omega) | fail)) only [go_sem]; with_reducible refine hK _ _ ?_; clear hK K) | (first | refine AtL.skip rfl rfl ?_ | refine RGL.skip rfl rfl ?_) | refine Goes.yes rfl ?_ | refine Goes.no rfl ?_ | refine Goes.drawR [] (by kernel_rfl) ?_)
      ((first | refine At.call2 rfl rfl rfl (fun K hK => ?_) | refine RG.call2 (heapL_low _) rfl rfl rfl rfl (fun K hK => ?_)); simp (disch := (first | omega | (simp only [heapL_next, List.length_cons, List.length_nil, List.size_toArray, geo_len] <;> omega) | fail)) only [go_sem]; refine ⟨_, _, tFreed _ 1 0 0 _ _ _ 2 2 a rfl rfl (by omega) (by decide) (by decide), ?_⟩; (try simp only [go_sem]); with_reducible refine hK _ _ ?_; clear hK K)
      repeat (first | refine Goes.reg ?_ | refine Goes.ctl2 rfl ?_ | ((first | refine AtL.val rfl rfl rfl (fun K hK => ?_) | refine RGL.val (heapL_low _) rfl rfl rfl rfl (fun K hK => ?_)); simp (disch := (first | omega | (simp only [heapL_next, List.length_cons, List.length_nil, List.size_toArray, geo_len] <;> omega) | fail)) only [go_sem]; with_reducible refine hK _ _ ?_; clear hK K) | (first | refine At.nil rfl ?_ | refine RG.nil rfl ?_) | ((first | refine AtL.new rfl rfl rfl (heapL_lim rfl) (fun K hK => ?_) | refine RGL.new (heapL_low _) rfl rfl rfl rfl (heapL_lim rfl) rfl (fun K hK => ?_)); simp (disch := (first | omega | (simp only [heapL_next, List.length_cons, List.length_nil, List.size_toArray, geo_len] <;> omega) | fail)) only [go_sem]; with_reducible refine hK _ _ ?_; clear hK K) | ((first | refine AtL.store rfl rfl rfl (fun K hK => ?_) | refine RGL.store rfl rfl rfl (fun K hK => ?_)); simp (disch := (first | omega | (simp only [heapL_next, List.length_cons, List.length_nil, List.size_toArray, geo_len] <;> omega) | fail)) only [go_sem]; with_reducible refine hK _ _ ?_; clear hK K) | (first | refine AtL.skip rfl rfl ?_ | refine RGL.skip rfl rfl ?_) | refine Goes.yes rfl ?_ | refine Goes.no rfl ?_ | refine Goes.drawR [] (by kernel_rfl) ?_)
      change At OF _ _ _ _ _ _ _ [.mem (pairW a b W) _, _]
      ((first | refine At.call2 rfl rfl rfl (fun K hK => ?_) | refine RG.call2 (heapL_low _) rfl rfl rfl rfl (fun K hK => ?_)); simp (disch := (first | omega | (simp only [heapL_next, List.length_cons, List.length_nil, List.size_toArray, geo_len] <;> omega) | fail)) only [go_sem]; refine ⟨_, _, tRead _ 1 0 0 _ _ _ 2 2 rfl rfl (by omega) (by decide) (by decide), ?_⟩; (try simp only [go_sem]); with_reducible refine hK _ _ ?_; clear hK K)
      repeat (first | refine Goes.reg ?_ | refine Goes.ctl2 rfl ?_ | ((first | refine AtL.val rfl rfl rfl (fun K hK => ?_) | refine RGL.val (heapL_low _) rfl rfl rfl rfl (fun K hK => ?_)); simp (disch := (first | omega | (simp only [heapL_next, List.length_cons, List.length_nil, List.size_toArray, geo_len] <;> omega) | fail)) only [go_sem, tCounts, q0, q1, q2, q3, q4]; with_reducible refine hK _ _ ?_; clear hK K) | (first | refine At.nil rfl ?_ | refine RG.nil rfl ?_) | ((first | refine AtL.new rfl rfl rfl (heapL_lim rfl) (fun K hK => ?_) | refine RGL.new (heapL_low _) rfl rfl rfl rfl (heapL_lim rfl) rfl (fun K hK => ?_)); simp (disch := (first | omega | (simp only [heapL_next, List.length_cons, List.length_nil, List.size_toArray, geo_len] <;> omega) | fail)) only [go_sem, tCounts, q0, q1, q2, q3, q4]; with_reducible refine hK _ _ ?_; clear hK K) | ((first | refine AtL.store rfl rfl rfl (fun K hK => ?_) | refine RGL.store rfl rfl rfl (fun K hK => ?_)); simp (disch := (first | omega | (simp only [heapL_next, List.length_cons, List.length_nil, List.size_toArray, geo_len] <;> omega) | fail)) only [go_sem, tCounts, q0, q1, q2, q3, q4]; with_reducible refine hK _ _ ?_; clear hK K) | (first | refine AtL.skip rfl rfl ?_ | refine RGL.skip rfl rfl ?_) | refine Goes.yes rfl ?_ | refine Goes.no rfl ?_ | refine Goes.drawR [] (by kernel_rfl) ?_)
      ((first | refine At.call2 rfl rfl rfl (fun K hK => ?_) | refine RG.call2 (heapL_low _) rfl rfl rfl rfl (fun K hK => ?_)); simp (disch := (first | omega | (simp only [heapL_next, List.length_cons, List.length_nil, List.size_toArray, geo_len] <;> omega) | fail)) only [go_sem]; refine ⟨_, _, awake18 _, ?_⟩; (try simp only [go_sem]); with_reducible refine hK _ _ ?_; clear hK K)
      repeat (first | refine Goes.reg ?_ | refine Goes.ctl2 rfl ?_ | ((first | refine AtL.val rfl rfl rfl (fun K hK => ?_) | refine RGL.val (heapL_low _) rfl rfl rfl rfl (fun K hK => ?_)); simp (disch := (first | omega | (simp only [heapL_next, List.length_cons, List.length_nil, List.size_toArray, geo_len] <;> omega) | fail)) only [go_sem]; with_reducible refine hK _ _ ?_; clear hK K) | (first | refine At.nil rfl ?_ | refine RG.nil rfl ?_) | ((first | refine AtL.new rfl rfl rfl (heapL_lim rfl) (fun K hK => ?_) | refine RGL.new (heapL_low _) rfl rfl rfl rfl (heapL_lim rfl) rfl (fun K hK => ?_)); simp (disch := (first | omega | (simp only [heapL_next, List.length_cons, List.length_nil, List.size_toArray, geo_len] <;> omega) | fail)) only [go_sem]; with_reducible refine hK _ _ ?_; clear hK K) | ((first | refine AtL.store rfl rfl rfl (fun K hK => ?_) | refine RGL.store rfl rfl rfl (fun K hK => ?_)); simp (disch := (first | omega | (simp only [heapL_next, List.length_cons, List.length_nil, List.size_toArray, geo_len] <;> omega) | fail)) only [go_sem]; with_reducible refine hK _ _ ?_; clear hK K) | (first | refine AtL.skip rfl rfl ?_ | refine RGL.skip rfl rfl ?_) | refine Goes.yes rfl ?_ | refine Goes.no rfl ?_ | refine Goes.drawR [] (by kernel_rfl) ?_)
      exact Goes.law rfl rfl

/-- The acts of a slice that came in. -/
def actsOf (len : Nat) (z : Nat → Nat → Int) : List Act18 := (List.range len).map fun i => ⟨(z i 0).toNat, z i 1, z i 2⟩
theorem actsOf_len {len : Nat} {z : Nat → Nat → Int} : (actsOf len z).length = len := by simp [actsOf]
theorem acts_slice {a : Option Addr} {len cap : Nat} {z : Nat → Nat → Int} {w : World} (h : RowS [.u8, .i64, .i64] w a len cap z) :
    len ≤ 9223372036854775807 ∧ (0 < (actsOf len z).length → ∃ x, a = some x ∧ ∀ (i : Nat) (y : Act18), (actsOf len z)[i]? = some y → ∀ (j : Nat) (v : Value), (actC y)[j]? = some v → w.cell? (x.add (i * 3 + j)) = some v) := by
  rcases h with ⟨rfl, rfl, rfl⟩ | ⟨x, rfl, hl, hm, hc⟩
  · exact ⟨by omega, fun h => by simp [actsOf] at h⟩
  · refine ⟨by unfold maxLen at hm; omega, fun _ => ⟨x, rfl, fun i y hy j v hv => ?_⟩⟩
    have hi : i < len := by have := (List.getElem?_eq_some_iff.1 hy).1; rw [actsOf_len] at this; exact this
    simp only [actsOf, List.getElem?_map, List.getElem?_range hi, Option.map_some, Option.some.injEq] at hy
    subst hy
    match j, hv with
    | 0, hv =>
      obtain ⟨h1, h2⟩ := hc i hi 0 .u8 rfl
      simp only [List.length_cons, List.length_nil] at h1
      simp only [actC, List.getElem?_cons_zero, Option.some.injEq] at hv
      rw [h1, ← hv]
      have : 0 ≤ z i 0 ∧ z i 0 ≤ 255 := by simpa [Lit.wf, IntKind.min, IntKind.max, IntKind.signed, IntKind.bits] using h2
      rw [Int.toNat_of_nonneg this.1]
    | 1, hv =>
      simp only [actC, List.getElem?_cons_zero, List.getElem?_cons_succ, Option.some.injEq] at hv
      rw [← hv]; exact (hc i hi 1 .i64 rfl).1
    | 2, hv =>
      simp only [actC, List.getElem?_cons_zero, List.getElem?_cons_succ, Option.some.injEq] at hv
      rw [← hv]; exact (hc i hi 2 .i64 rfl).1
    | j + 3, hv => simp [actC] at hv

theorem tallyPairs_walk (a0 : Option Addr) (len0 cap0 : Nat) (z0 : Nat → Nat → Int) (a1 a2 : Int) (w : World) (w0 : RowS [.u8, .i64, .i64] w a0 len0 cap0 z0) (_ : (Lit.int .i64 a1).wf = true) (_ : (Lit.int .i64 a2).wf = true) :
    Calls Try.prog 3 #[.slice a0 len0 cap0, .int .i64 a1, .int .i64 a2] w fun e w' => e = .returned (.bool true) ∧ Below w.heap.size w w' := by
  obtain ⟨hlen, hs⟩ := acts_slice w0
  obtain ⟨sl, ob, bk, bs, h1, h2, h3, h4⟩ := law_slice actC actC_len (by decide) actC_plain (actsOf len0 z0) a0 cap0 w 0 hs
  have L := (tallyPairs_law sl cap0 (actsOf len0 z0) a1 a2 ob h2 h3 (by rw [actsOf_len]; exact hlen)).calls ⟨fun _ => bk, fun _ => bs, fun _ => 0⟩ w (fun n b hb => by
    match n, hb with
    | 0, hb => exact h4 b (by simpa using hb)
    | n + 1, hb => simp at hb) (by simp)
  have h1 := h1 ⟨fun _ => bk, fun _ => bs, fun _ => 0⟩ rfl rfl rfl
  rw [actsOf_len] at L h1
  simp only [List.map_toArray, List.map_cons, List.map_nil, h1, ren_int] at L
  exact L.mono fun e w' h => ⟨h.1, h.2.below⟩
end Go.Proofs.Ytjigpdihgaenhaa
