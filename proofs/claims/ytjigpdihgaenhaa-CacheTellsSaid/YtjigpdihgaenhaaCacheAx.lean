/-
  Layer 12: the words of caches, as two slots each; the document's answer; contracts.
  No condition beyond those of each contract.
-/
import Derived.Test.YtjigpdihgaenhaaCacheK
namespace Go.Proofs.Ytjigpdihgaenhaa
open Go Go.RowKit
set_option linter.unusedSimpArgs false
set_option linter.unusedVariables false

abbrev Sl := UInt64 × UInt64
def flat (L : List Sl) : List UInt64 := L.flatMap fun x => [x.1, x.2]
theorem flat_len : ∀ L : List Sl, (flat L).length = 2 * L.length
  | [] => rfl
  | x :: L => by
    have := flat_len L
    show (x.1 :: x.2 :: flat L).length = _
    simp only [List.length_cons, this]
    omega
theorem flat_get0 : ∀ {L : List Sl} {k : Nat} {x : Sl}, L[k]? = some x → (flat L)[2 * k]? = some x.1
  | [], _, _, h => by simp at h
  | y :: L, 0, x, h => by simp at h; subst h; rfl
  | y :: L, k + 1, x, h => by
    have := flat_get0 (L := L) (k := k) (by simpa using h)
    exact this
theorem flat_get1 : ∀ {L : List Sl} {k : Nat} {x : Sl}, L[k]? = some x → (flat L)[2 * k + 1]? = some x.2
  | [], _, _, h => by simp at h
  | y :: L, 0, x, h => by simp at h; subst h; rfl
  | y :: L, k + 1, x, h => by
    have := flat_get1 (L := L) (k := k) (by simpa using h)
    exact this
theorem flat_set0 : ∀ {L : List Sl} {k : Nat} {x : Sl} (y : UInt64), L[k]? = some x → (flat L).set (2 * k) y = flat (L.set k (y, x.2))
  | [], _, _, _, h => by simp at h
  | z :: L, 0, x, y, h => by simp at h; subst h; rfl
  | z :: L, k + 1, x, y, h => by
    have := flat_set0 (L := L) (k := k) y (by simpa using h)
    show z.1 :: z.2 :: (flat L).set (2 * k) y = z.1 :: z.2 :: flat (L.set k (y, x.2))
    rw [this]
theorem flat_set1 : ∀ {L : List Sl} {k : Nat} {x : Sl} (y : UInt64), L[k]? = some x → (flat L).set (2 * k + 1) y = flat (L.set k (x.1, y))
  | [], _, _, _, h => by simp at h
  | z :: L, 0, x, y, h => by simp at h; subst h; rfl
  | z :: L, k + 1, x, y, h => by
    have := flat_set1 (L := L) (k := k) y (by simpa using h)
    show z.1 :: z.2 :: (flat L).set (2 * k + 1) y = z.1 :: z.2 :: flat (L.set k (x.1, y))
    rw [this]
theorem flat_rep (n : Nat) : flat (List.replicate n (0, 0)) = List.replicate (2 * n) 0 := by
  induction n with
  | zero => rfl
  | succ n ih =>
    show 0 :: 0 :: flat (List.replicate n (0, 0)) = _
    rw [ih, show 2 * (n + 1) = 2 * n + 1 + 1 by omega]
    rfl
def wC (a : Nat) (L : List Sl) (b : Nat) : List UInt64 := List.replicate a 0 ++ (flat L ++ List.replicate b 0)
theorem wC_at {a b : Nat} {L : List Sl} {i : Nat} {v : UInt64} (h : (flat L)[i]? = some v) : wAt (wC a L b) ((a + i : Nat) : Int) = some v := by
  have hi := (List.getElem?_eq_some_iff.1 h).1
  unfold wAt wC
  rw [if_neg (by omega), Int.toNat_natCast, List.getElem?_append_right (by simp), List.getElem?_append_left (by simp; exact hi)]
  simpa using h
theorem wC_set {a b : Nat} {L : List Sl} {i : Nat} {v : UInt64} (h : i < (flat L).length) : (wC a L b).set (a + i) v = List.replicate a 0 ++ ((flat L).set i v ++ List.replicate b 0) := by
  unfold wC
  rw [List.set_append_right _ _ (by simp), List.length_replicate, Nat.add_sub_cancel_left, List.set_append_left _ _ h]
theorem wC_set0 {a b k : Nat} {L : List Sl} {x : Sl} (h : L[k]? = some x) (y : UInt64) : (wC a L b).set (a + 2 * k) y = wC a (L.set k (y, x.2)) b := by
  have hk := (List.getElem?_eq_some_iff.1 h).1
  rw [wC_set (by rw [flat_len]; omega), flat_set0 y h]; rfl
theorem wC_set1 {a b k : Nat} {L : List Sl} {x : Sl} (h : L[k]? = some x) (y : UInt64) : (wC a L b).set (a + (2 * k + 1)) y = wC a (L.set k (x.1, y)) b := by
  have hk := (List.getElem?_eq_some_iff.1 h).1
  rw [wC_set (by rw [flat_len]; omega), flat_set1 y h]; rfl
theorem set_at {L : List Sl} {k : Nat} {x : Sl} (h : L[k]? = some x) : L.set k x = L := by
  obtain ⟨hk, rfl⟩ := List.getElem?_eq_some_iff.1 h
  exact List.set_getElem_self hk

/-! ### the document's answer -/
def rPut (x : Sl) (item : UInt64) : Sl × Bool × Nat :=
  if item = 0 then (x, false, 0) else if x.1 = 0 then ((item, x.2), true, 1) else if x.2 = 0 then ((x.1, item), true, 2) else (x, false, 2)
def rTake (x : Sl) : Sl × UInt64 × Nat := if x.1 ≠ 0 then ((0, x.2), x.1, 2) else if x.2 ≠ 0 then ((x.1, 0), x.2, 3) else (x, 0, 2)
theorem rPut_steps (x : Sl) (i : UInt64) : (rPut x i).2.2 ≤ 3 := by unfold rPut; repeat (first | split | simp)
theorem rTake_steps (x : Sl) : (rTake x).2.2 ≤ 3 := by unfold rTake; repeat (first | split | simp)

theorem cPut_wC {a b k : Nat} {L : List Sl} {x : Sl} (h : L[k]? = some x) {A B : Int} (hA : A = ((a + 2 * k : Nat) : Int)) (hB : B = ((a + (2 * k + 1) : Nat) : Int)) (item : UInt64) :
    cPut (wC a L b) A B item = ((rPut x item).2.1, (rPut x item).2.2, wC a (L.set k (rPut x item).1) b) := by
  have h0 := wC_at (a := a) (b := b) (flat_get0 h)
  have h1 := wC_at (a := a) (b := b) (flat_get1 h)
  rw [← hA] at h0
  rw [← hB] at h1
  have tA : A.toNat = a + 2 * k := by rw [hA]; rfl
  have tB : B.toNat = a + (2 * k + 1) := by rw [hB]; rfl
  have nA : ¬ A < 0 := by rw [hA]; omega
  have nB : ¬ B < 0 := by rw [hB]; omega
  unfold cPut rPut
  by_cases hi : item = 0
  · rw [if_pos (.inl hi), if_pos hi, set_at h]
  · rw [if_neg (by simp [hi]; omega), if_neg hi, h0, h1]
    by_cases c1 : x.1 = 0
    · rw [if_pos (by rw [c1]), if_pos c1, tA, wC_set0 h]
    · rw [if_neg (by simpa using c1), if_neg c1, if_neg nB]
      by_cases c2 : x.2 = 0
      · rw [if_pos (by rw [c2]), if_pos c2, tB, wC_set1 h]
      · rw [if_neg (by simpa using c2), if_neg c2, set_at h]
theorem cSteal_wC {a b k : Nat} {L : List Sl} {x : Sl} (h : L[k]? = some x) {A B : Int} (hA : A = ((a + 2 * k : Nat) : Int)) (hB : B = ((a + (2 * k + 1) : Nat) : Int)) :
    cSteal (wC a L b) A B = ((rTake x).2.1, (rTake x).2.1 != 0, (rTake x).2.2, wC a (L.set k (rTake x).1) b) := by
  have h0 := wC_at (a := a) (b := b) (flat_get0 h)
  have h1 := wC_at (a := a) (b := b) (flat_get1 h)
  rw [← hA] at h0
  rw [← hB] at h1
  have tA : A.toNat = a + 2 * k := by rw [hA]; rfl
  have tB : B.toNat = a + (2 * k + 1) := by rw [hB]; rfl
  have nA : ¬ A < 0 := by rw [hA]; omega
  have nB : ¬ B < 0 := by rw [hB]; omega
  have w0 : wT 1 A 0 (wC a L b) = x.1 := by unfold wT; rw [h0]; rfl
  have w1 : wT 1 B 0 (wC a L b) = x.2 := by unfold wT; rw [h1]; rfl
  unfold cSteal rTake
  rw [if_neg nA, w0, w1]
  by_cases c1 : x.1 = 0
  · have n1 : ¬ (x.1 ≠ 0) := by simp [c1]
    by_cases c2 : x.2 = 0
    · have n2 : ¬ (x.2 ≠ 0) := by simp [c2]
      simp only [if_neg n1, if_neg nB, if_neg n2, set_at h]
      rfl
    · simp only [if_neg n1, if_neg nB, if_pos (show x.2 ≠ 0 from c2)]
      rw [tB, wC_set1 h]
      simp [c2]
  · simp only [if_pos (show x.1 ≠ 0 from c1)]
    rw [tA, wC_set0 h]
    simp [c1]

/-! ### the document's two slots, as values -/
def slC (x : Sl) : List Value := [.int .u64 (x.1.toNat : Int), .int .u64 (x.2.toNat : Int)]
def slV (x : Sl) : Value := .agg #[.int .u64 (x.1.toNat : Int), .int .u64 (x.2.toNat : Int)]
theorem slC_len (x : Sl) : (slC x).length = 2 := rfl
theorem slC_plain (x : Sl) : ∀ v ∈ slC x, plainB v = true := by simp [slC, plainB]
theorem slV_plain (x : Sl) : plainB (slV x) = true := by simp [slV, plainB]

theorem zero_t {x : UInt64} (h : x = 0) : ((x.toNat : Int) == 0) = true := item_eq.2 h
theorem zero_f {x : UInt64} (h : x ≠ 0) : ((x.toNat : Int) == 0) = false := by rw [Bool.eq_false_iff]; exact fun e => h (item_eq.1 e)
theorem nz_t {x : UInt64} (h : x ≠ 0) : ((x.toNat : Int) != 0) = true := ne_bool.2 h
theorem nz_f {x : UInt64} (h : x = 0) : ((x.toNat : Int) != 0) = false := by rw [Bool.eq_false_iff]; exact fun e => ne_bool.1 e h

set_option maxHeartbeats 4000000 in
theorem refPut_does (S : St) (x : Sl) (item : UInt64) : Does OF 31 #[slV x, .int .u64 (item.toNat : Int)] [] S (.tuple #[slV (rPut x item).1, .bool (rPut x item).2.1, .int .i64 ((rPut x item).2.2 : Int)]) S := by
  refine Does.mk Try.func31 rfl rfl ?clo ?hand ?_
  case clo => exact clo2 (Clo.plain (slV_plain x)) iclo
  case hand => exact Hand.plain (by simp [plainB, slV])
  rw [Try.ntmps31]; simp only [List.size_toArray, List.length_cons, List.length_nil, List.replicate, List.cons_append, List.nil_append]
  unfold slV rPut
  by_cases hi : item = 0
  · rw [if_pos hi]
    have e := zero_t hi
    repeat (first | refine Goes.reg ?_ | refine Goes.ctl2 rfl ?_ | ((first | refine AtL.val rfl rfl rfl (fun K hK => ?_) | refine RGL.val (heapL_low _) rfl rfl rfl rfl (fun K hK => ?_)); simp (disch := (first | omega | (simp only [heapL_next, List.length_cons, List.length_nil, List.size_toArray, geo_len] <;> omega) | fail)) only [go_sem, e]; with_reducible refine hK _ _ ?_; clear hK K) | (first | refine At.nil rfl ?_ | refine RG.nil rfl ?_) | ((first | refine AtL.new rfl rfl rfl (heapL_lim rfl) (fun K hK => ?_) | refine RGL.new (heapL_low _) rfl rfl rfl rfl (heapL_lim rfl) rfl (fun K hK => ?_)); simp (disch := (first | omega | (simp only [heapL_next, List.length_cons, List.length_nil, List.size_toArray, geo_len] <;> omega) | fail)) only [go_sem, e]; with_reducible refine hK _ _ ?_; clear hK K) | ((first | refine AtL.store rfl rfl rfl (fun K hK => ?_) | refine RGL.store rfl rfl rfl (fun K hK => ?_)); simp (disch := (first | omega | (simp only [heapL_next, List.length_cons, List.length_nil, List.size_toArray, geo_len] <;> omega) | fail)) only [go_sem, e]; with_reducible refine hK _ _ ?_; clear hK K) | (first | refine AtL.skip rfl rfl ?_ | refine RGL.skip rfl rfl ?_) | refine Goes.yes rfl ?_ | refine Goes.no rfl ?_ | refine Goes.drawR [] (by kernel_rfl) ?_)
    refine Goes.fin rfl (by simp (disch := (first | omega | (simp only [heapL_next, List.length_cons, List.length_nil, List.size_toArray, geo_len] <;> omega) | fail)) only [go_sem, resA, res1A, Try.results31] <;> rfl) ?_
    rfl
  · rw [if_neg hi]
    have e := zero_f hi
    by_cases c1 : x.1 = 0
    · rw [if_pos c1]
      have e1 := zero_t c1
      repeat (first | refine Goes.reg ?_ | refine Goes.ctl2 rfl ?_ | ((first | refine AtL.val rfl rfl rfl (fun K hK => ?_) | refine RGL.val (heapL_low _) rfl rfl rfl rfl (fun K hK => ?_)); simp (disch := (first | omega | (simp only [heapL_next, List.length_cons, List.length_nil, List.size_toArray, geo_len] <;> omega) | fail)) only [go_sem, e, e1]; with_reducible refine hK _ _ ?_; clear hK K) | (first | refine At.nil rfl ?_ | refine RG.nil rfl ?_) | ((first | refine AtL.new rfl rfl rfl (heapL_lim rfl) (fun K hK => ?_) | refine RGL.new (heapL_low _) rfl rfl rfl rfl (heapL_lim rfl) rfl (fun K hK => ?_)); simp (disch := (first | omega | (simp only [heapL_next, List.length_cons, List.length_nil, List.size_toArray, geo_len] <;> omega) | fail)) only [go_sem, e, e1]; with_reducible refine hK _ _ ?_; clear hK K) | ((first | refine AtL.store rfl rfl rfl (fun K hK => ?_) | refine RGL.store rfl rfl rfl (fun K hK => ?_)); simp (disch := (first | omega | (simp only [heapL_next, List.length_cons, List.length_nil, List.size_toArray, geo_len] <;> omega) | fail)) only [go_sem, e, e1]; with_reducible refine hK _ _ ?_; clear hK K) | (first | refine AtL.skip rfl rfl ?_ | refine RGL.skip rfl rfl ?_) | refine Goes.yes rfl ?_ | refine Goes.no rfl ?_ | refine Goes.drawR [] (by kernel_rfl) ?_)
      refine Goes.fin rfl (by simp (disch := (first | omega | (simp only [heapL_next, List.length_cons, List.length_nil, List.size_toArray, geo_len] <;> omega) | fail)) only [go_sem, resA, res1A, Try.results31] <;> rfl) ?_
      rfl
    · rw [if_neg c1]
      have e1 := zero_f c1
      by_cases c2 : x.2 = 0
      · rw [if_pos c2]
        have e2 := zero_t c2
        repeat (first | refine Goes.reg ?_ | refine Goes.ctl2 rfl ?_ | ((first | refine AtL.val rfl rfl rfl (fun K hK => ?_) | refine RGL.val (heapL_low _) rfl rfl rfl rfl (fun K hK => ?_)); simp (disch := (first | omega | (simp only [heapL_next, List.length_cons, List.length_nil, List.size_toArray, geo_len] <;> omega) | fail)) only [go_sem, e, e1, e2]; with_reducible refine hK _ _ ?_; clear hK K) | (first | refine At.nil rfl ?_ | refine RG.nil rfl ?_) | ((first | refine AtL.new rfl rfl rfl (heapL_lim rfl) (fun K hK => ?_) | refine RGL.new (heapL_low _) rfl rfl rfl rfl (heapL_lim rfl) rfl (fun K hK => ?_)); simp (disch := (first | omega | (simp only [heapL_next, List.length_cons, List.length_nil, List.size_toArray, geo_len] <;> omega) | fail)) only [go_sem, e, e1, e2]; with_reducible refine hK _ _ ?_; clear hK K) | ((first | refine AtL.store rfl rfl rfl (fun K hK => ?_) | refine RGL.store rfl rfl rfl (fun K hK => ?_)); simp (disch := (first | omega | (simp only [heapL_next, List.length_cons, List.length_nil, List.size_toArray, geo_len] <;> omega) | fail)) only [go_sem, e, e1, e2]; with_reducible refine hK _ _ ?_; clear hK K) | (first | refine AtL.skip rfl rfl ?_ | refine RGL.skip rfl rfl ?_) | refine Goes.yes rfl ?_ | refine Goes.no rfl ?_ | refine Goes.drawR [] (by kernel_rfl) ?_)
        refine Goes.fin rfl (by simp (disch := (first | omega | (simp only [heapL_next, List.length_cons, List.length_nil, List.size_toArray, geo_len] <;> omega) | fail)) only [go_sem, resA, res1A, Try.results31] <;> rfl) ?_
        rfl
      · rw [if_neg c2]
        have e2 := zero_f c2
        repeat (first | refine Goes.reg ?_ | refine Goes.ctl2 rfl ?_ | ((first | refine AtL.val rfl rfl rfl (fun K hK => ?_) | refine RGL.val (heapL_low _) rfl rfl rfl rfl (fun K hK => ?_)); simp (disch := (first | omega | (simp only [heapL_next, List.length_cons, List.length_nil, List.size_toArray, geo_len] <;> omega) | fail)) only [go_sem, e, e1, e2]; with_reducible refine hK _ _ ?_; clear hK K) | (first | refine At.nil rfl ?_ | refine RG.nil rfl ?_) | ((first | refine AtL.new rfl rfl rfl (heapL_lim rfl) (fun K hK => ?_) | refine RGL.new (heapL_low _) rfl rfl rfl rfl (heapL_lim rfl) rfl (fun K hK => ?_)); simp (disch := (first | omega | (simp only [heapL_next, List.length_cons, List.length_nil, List.size_toArray, geo_len] <;> omega) | fail)) only [go_sem, e, e1, e2]; with_reducible refine hK _ _ ?_; clear hK K) | ((first | refine AtL.store rfl rfl rfl (fun K hK => ?_) | refine RGL.store rfl rfl rfl (fun K hK => ?_)); simp (disch := (first | omega | (simp only [heapL_next, List.length_cons, List.length_nil, List.size_toArray, geo_len] <;> omega) | fail)) only [go_sem, e, e1, e2]; with_reducible refine hK _ _ ?_; clear hK K) | (first | refine AtL.skip rfl rfl ?_ | refine RGL.skip rfl rfl ?_) | refine Goes.yes rfl ?_ | refine Goes.no rfl ?_ | refine Goes.drawR [] (by kernel_rfl) ?_)
        refine Goes.fin rfl (by simp (disch := (first | omega | (simp only [heapL_next, List.length_cons, List.length_nil, List.size_toArray, geo_len] <;> omega) | fail)) only [go_sem, resA, res1A, Try.results31] <;> rfl) ?_
        rfl
set_option maxHeartbeats 4000000 in
theorem refTake_does (S : St) (x : Sl) : Does OF 33 #[slV x] [] S (.tuple #[slV (rTake x).1, .int .u64 ((rTake x).2.1.toNat : Int), .int .i64 ((rTake x).2.2 : Int)]) S := by
  refine Does.mk Try.func33 rfl rfl ?clo ?hand ?_
  case clo => exact clo1 (Clo.plain (slV_plain x))
  case hand => exact Hand.plain (by simp [plainB, slV])
  rw [Try.ntmps33]; simp only [List.size_toArray, List.length_cons, List.length_nil, List.replicate, List.cons_append, List.nil_append]
  unfold slV rTake
  by_cases c1 : x.1 = 0
  · rw [if_neg (by simp [c1])]
    have e1 := nz_f c1
    by_cases c2 : x.2 = 0
    · rw [if_neg (by simp [c2])]
      have e2 := nz_f c2
      repeat (first | refine Goes.reg ?_ | refine Goes.ctl2 rfl ?_ | ((first | refine AtL.val rfl rfl rfl (fun K hK => ?_) | refine RGL.val (heapL_low _) rfl rfl rfl rfl (fun K hK => ?_)); simp (disch := (first | omega | (simp only [heapL_next, List.length_cons, List.length_nil, List.size_toArray, geo_len] <;> omega) | fail)) only [go_sem, e1, e2]; with_reducible refine hK _ _ ?_; clear hK K) | (first | refine At.nil rfl ?_ | refine RG.nil rfl ?_) | ((first | refine AtL.new rfl rfl rfl (heapL_lim rfl) (fun K hK => ?_) | refine RGL.new (heapL_low _) rfl rfl rfl rfl (heapL_lim rfl) rfl (fun K hK => ?_)); simp (disch := (first | omega | (simp only [heapL_next, List.length_cons, List.length_nil, List.size_toArray, geo_len] <;> omega) | fail)) only [go_sem, e1, e2]; with_reducible refine hK _ _ ?_; clear hK K) | ((first | refine AtL.store rfl rfl rfl (fun K hK => ?_) | refine RGL.store rfl rfl rfl (fun K hK => ?_)); simp (disch := (first | omega | (simp only [heapL_next, List.length_cons, List.length_nil, List.size_toArray, geo_len] <;> omega) | fail)) only [go_sem, e1, e2]; with_reducible refine hK _ _ ?_; clear hK K) | (first | refine AtL.skip rfl rfl ?_ | refine RGL.skip rfl rfl ?_) | refine Goes.yes rfl ?_ | refine Goes.no rfl ?_ | refine Goes.drawR [] (by kernel_rfl) ?_)
      refine Goes.fin rfl (by simp (disch := (first | omega | (simp only [heapL_next, List.length_cons, List.length_nil, List.size_toArray, geo_len] <;> omega) | fail)) only [go_sem, resA, res1A, Try.results33] <;> rfl) ?_
      rfl
    · rw [if_pos c2]
      have e2 := nz_t c2
      repeat (first | refine Goes.reg ?_ | refine Goes.ctl2 rfl ?_ | ((first | refine AtL.val rfl rfl rfl (fun K hK => ?_) | refine RGL.val (heapL_low _) rfl rfl rfl rfl (fun K hK => ?_)); simp (disch := (first | omega | (simp only [heapL_next, List.length_cons, List.length_nil, List.size_toArray, geo_len] <;> omega) | fail)) only [go_sem, e1, e2]; with_reducible refine hK _ _ ?_; clear hK K) | (first | refine At.nil rfl ?_ | refine RG.nil rfl ?_) | ((first | refine AtL.new rfl rfl rfl (heapL_lim rfl) (fun K hK => ?_) | refine RGL.new (heapL_low _) rfl rfl rfl rfl (heapL_lim rfl) rfl (fun K hK => ?_)); simp (disch := (first | omega | (simp only [heapL_next, List.length_cons, List.length_nil, List.size_toArray, geo_len] <;> omega) | fail)) only [go_sem, e1, e2]; with_reducible refine hK _ _ ?_; clear hK K) | ((first | refine AtL.store rfl rfl rfl (fun K hK => ?_) | refine RGL.store rfl rfl rfl (fun K hK => ?_)); simp (disch := (first | omega | (simp only [heapL_next, List.length_cons, List.length_nil, List.size_toArray, geo_len] <;> omega) | fail)) only [go_sem, e1, e2]; with_reducible refine hK _ _ ?_; clear hK K) | (first | refine AtL.skip rfl rfl ?_ | refine RGL.skip rfl rfl ?_) | refine Goes.yes rfl ?_ | refine Goes.no rfl ?_ | refine Goes.drawR [] (by kernel_rfl) ?_)
      refine Goes.fin rfl (by simp (disch := (first | omega | (simp only [heapL_next, List.length_cons, List.length_nil, List.size_toArray, geo_len] <;> omega) | fail)) only [go_sem, resA, res1A, Try.results33] <;> rfl) ?_
      rfl
  · rw [if_pos c1]
    have e1 := nz_t c1
    repeat (first | refine Goes.reg ?_ | refine Goes.ctl2 rfl ?_ | ((first | refine AtL.val rfl rfl rfl (fun K hK => ?_) | refine RGL.val (heapL_low _) rfl rfl rfl rfl (fun K hK => ?_)); simp (disch := (first | omega | (simp only [heapL_next, List.length_cons, List.length_nil, List.size_toArray, geo_len] <;> omega) | fail)) only [go_sem, e1]; with_reducible refine hK _ _ ?_; clear hK K) | (first | refine At.nil rfl ?_ | refine RG.nil rfl ?_) | ((first | refine AtL.new rfl rfl rfl (heapL_lim rfl) (fun K hK => ?_) | refine RGL.new (heapL_low _) rfl rfl rfl rfl (heapL_lim rfl) rfl (fun K hK => ?_)); simp (disch := (first | omega | (simp only [heapL_next, List.length_cons, List.length_nil, List.size_toArray, geo_len] <;> omega) | fail)) only [go_sem, e1]; with_reducible refine hK _ _ ?_; clear hK K) | ((first | refine AtL.store rfl rfl rfl (fun K hK => ?_) | refine RGL.store rfl rfl rfl (fun K hK => ?_)); simp (disch := (first | omega | (simp only [heapL_next, List.length_cons, List.length_nil, List.size_toArray, geo_len] <;> omega) | fail)) only [go_sem, e1]; with_reducible refine hK _ _ ?_; clear hK K) | (first | refine AtL.skip rfl rfl ?_ | refine RGL.skip rfl rfl ?_) | refine Goes.yes rfl ?_ | refine Goes.no rfl ?_ | refine Goes.drawR [] (by kernel_rfl) ?_)
    refine Goes.fin rfl (by simp (disch := (first | omega | (simp only [heapL_next, List.length_cons, List.length_nil, List.size_toArray, geo_len] <;> omega) | fail)) only [go_sem, resA, res1A, Try.results33] <;> rfl) ?_
    rfl

/-! ### where they lie -/
theorem gCache_at {N T t c s : Nat} (hN : 1 ≤ N) (hT : T ≤ 64) (ht : t < T) (hc : c < 4) (hs : s < 2) : gCache N T t c s = ((gb N T 12 + (2 * (4 * t + c) + s) : Nat) : Int) := by
  have e : gb N T 13 = gb N T 12 + T * 4 * 2 := by unfold gb; rw [if_neg (by omega), if_neg (by omega)]; rfl
  have h1 : t * 4 + c < T * 4 := by omega
  unfold gCache
  have g1 : gin (t : Int) (c : Int) 4 = ((t * 4 + c : Nat) : Int) := by
    unfold gin
    rw [if_neg (by omega)]
    push_cast; rfl
  have g2 : gin ((t * 4 + c : Nat) : Int) (s : Int) 2 = (((t * 4 + c) * 2 + s : Nat) : Int) := by
    unfold gin
    rw [if_neg (by omega)]
    push_cast; rfl
  rw [g1, g2, gat_in N T 12 (by omega) (by rw [e]; omega)]
  push_cast
  omega
theorem words_wC {N T : Nat} (hN : 1 ≤ N) : ∃ b, List.replicate (gb N T 19) (0 : UInt64) = wC (gb N T 12) (List.replicate (4 * T) (0, 0)) b := by
  have e : gb N T 13 = gb N T 12 + T * 4 * 2 := by unfold gb; rw [if_neg (by omega), if_neg (by omega)]; rfl
  have e2 : gb N T 13 ≤ gb N T 19 := by
    unfold gb; rw [if_neg (by omega), if_neg (by omega)]
    simp only [gsum]
    omega
  refine ⟨gb N T 19 - gb N T 13, ?_⟩
  unfold wC
  rw [flat_rep, List.replicate_append_replicate, List.replicate_append_replicate]
  congr 1
  omega
end Go.Proofs.Ytjigpdihgaenhaa
