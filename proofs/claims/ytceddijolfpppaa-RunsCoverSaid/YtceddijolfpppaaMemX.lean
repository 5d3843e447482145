/-
  Copies of a memory, and whether two are the same: out of runs of the abstract machine over rows alone.
  Conditions: the memories are there.
-/
import Derived.Test.YtceddijolfpppaaQuick
import Derived.Test.YtceddijolfpppaaCopy
namespace Go.Proofs.Ytceddijolfpppaa
open Go Go.RowKit
set_option linter.unusedSimpArgs false
set_option linter.unusedVariables false

/-- No state, no calls that are known by it. -/
def BF : Face Try.prog Unit where
  mix := Try.mix
  cnt := fun _ => 0
  rep := fun _ _ _ => True
  fp := fun _ _ _ => False
  prim := fun _ _ _ _ _ => False
  rep_same := fun _ _ _ _ _ _ => ⟨trivial, fun _ h => h⟩
  rep_kept := fun _ _ _ _ _ _ _ => trivial
  fp_low := fun _ _ _ _ _ h => h.elim
  prim_hand := fun _ _ _ _ _ h => h.elim
  prim_ok := fun _ _ _ _ _ _ _ h _ => h.elim

/-- One new row is handed over. -/
theorem Gives.one {cnt : Nat} {l : List Blk} {h1 : AHeap} {v0 v : Value} {n0 : Nat} {b0 : Blk} (hro : l.all (·.ro) = true) (hn : l.length ≤ n0) (hn' : n0 < VB) (hl : l.length < VB) (hg : h1.get n0 = some b0) (hb : b0.ro = false) (hp : ∀ u ∈ b0.cells, plainB u = true)
    (hv : v = ren (nameE fun n => if n = n0 then l.length else n) v0) (hc : Clo (fun n => n < l.length ∨ n ∈ [n0] ∨ (VB ≤ n ∧ n < VB + cnt)) v0) : Gives cnt l l [b0] [n0] (fun n => if n = n0 then l.length else n) h1 v0 v where
  low := fun n hn2 => if_neg (by omega)
  hand := fun n hn2 => if_neg (by omega)
  more := fun j n hj => by
    match j, hj with
    | 0, hj => simp at hj; subst hj; exact ⟨hn, hn', by simp⟩
    | j + 1, hj => simp at hj
  nodup := by simp
  len := rfl
  len' := rfl
  told := hv
  clo := hc
  rows := fun i b hb hr => by
    have := List.all_eq_true.1 hro b (List.mem_of_getElem? hb)
    rw [hr] at this; cases this
  news := fun j n hj => by
    match j, hj with
    | 0, hj =>
      simp at hj; subst hj
      refine ⟨b0, hg, ?_, hb, fun u hu => Clo.plain (hp u hu)⟩
      unfold renB
      rw [← plain_map hp]
      rfl
    | j + 1, hj => simp at hj

theorem numRow_len {k : IntKind} {ns : List Int} : (numRow k ns).length = ns.length := by simp [numRow]
theorem numRow_get {k : IntKind} {ns : List Int} {i : Nat} (h : i < ns.length) : (numRow k ns)[i]? = some (.int k ns[i]) := by simp [numRow, h]
def numB (k : IntKind) (e : TypeId) (ns : List Int) : Blk := ⟨numRow k ns, e, true, none⟩
theorem clo_sq {q n c a m : Nat} (h : q < n) : Clo (Kn n c) (.slice (some ⟨q, 0, none⟩) a m) := fun F F' hs => by
  obtain ⟨h1, h2, h3⟩ := hs q (.inl h)
  simp [adr, h1, h2, h3]
theorem clo_pq {q n c : Nat} (h : q < n) : Clo (Kn n c) (.pointer (some ⟨q, 0, none⟩)) := fun F F' hs => by
  obtain ⟨h1, h2, h3⟩ := hs q (.inl h)
  simp [adr, h1, h2]

set_option maxHeartbeats 2000000 in
theorem eqW_x (ns ms : List Int) (c d : Nat) (hn : ns.length ≤ 2097152) (hm : ms.length ≤ 2097152) : DoesX BF 126 #[.slice (some ⟨0, 0, none⟩) ns.length c, .slice (some ⟨1, 0, none⟩) ms.length d] [numB .u64 49 ns, numB .u64 49 ms] () (.bool (decide (ns = ms))) [numB .u64 49 ns, numB .u64 49 ms] [] () := by
  refine DoesX.mk Try.func126 rfl rfl ?clo ?rows ?_
  case clo => exact clo2 (clo_sq (by simp)) (clo_sq (by simp))
  case rows => exact plain_rows (by simp [numB]; exact ⟨numRow_plain, numRow_plain⟩)
  rw [Try.ntmps126]; simp only [List.size_toArray, List.length_cons, List.length_nil, List.replicate, List.cons_append, List.nil_append]
  simp only [numB, List.map_cons, List.map_nil]
  by_cases hl : ns.length = ms.length
  · have h1 : ((ns.length : Int) != (ms.length : Int)) = false := by rw [hl]; simp
    repeat (first | refine Goes.reg ?_ | refine Goes.ctl2 rfl ?_ | ((first | refine qv1 rfl rfl rfl fun K hK => ?_ | refine qv3 rfl rfl rfl fun K hK => ?_ | refine qv2 rfl rfl rfl rfl rfl rfl fun K hK => ?_ | refine qv4 rfl rfl rfl rfl rfl rfl fun K hK => ?_ | refine qn1 rfl rfl rfl fun K hK => ?_ | refine qn3 rfl rfl rfl fun K hK => ?_ | refine qt1 rfl rfl rfl fun K hK => ?_ | refine qt3 rfl rfl rfl fun K hK => ?_); simp (disch := (first | omega | (simp only [sz] <;> omega) | fail)) only [go_sem, h1]; with_reducible refine hK _ _ ?_; clear hK K) | refine At.nil rfl ?_ | refine RG.nil rfl ?_ | ((first | refine AtL.skipg rfl rfl rfl rfl rfl ?_ | refine RGL.skipg rfl rfl rfl rfl rfl ?_ | refine AtL.skipu rfl rfl rfl rfl ?_ | refine RGL.skipu rfl rfl rfl rfl ?_); simp only [putL, List.set_cons_zero, List.set_cons_succ]) | refine Goes.yes rfl ?_ | refine Goes.no rfl ?_ | refine Goes.drawR [] (by kernel_rfl) ?_)
    refine Goes.wh (fun q tmps h S => ∃ k, q = ns.length - k ∧ k ≤ ns.length ∧ ns.take k = ms.take k ∧ h = heapL [some ⟨numRow .u64 ns, 49, true, none⟩, some ⟨numRow .u64 ms, 49, true, none⟩] ∧ tmps.length = 26 ∧ tmps.getD 0 undef = .slice (some ⟨0, 0, none⟩) ns.length c ∧
      tmps.getD 1 undef = .slice (some ⟨1, 0, none⟩) ms.length d ∧ tmps.getD 12 undef = .int .i64 ns.length ∧ tmps.getD 13 undef = .int .i64 k) (m := ns.length) ⟨0, by omega, by omega, rfl, rfl, rfl, rfl, rfl, rfl, rfl⟩ ?_
    rintro q tmps h S ih ⟨k, rfl, hk, hpre, rfl, hlen, f0, f1, f12, f13⟩
    obtain ⟨V, hV, hT⟩ := frame_lit hlen; replace hT : _ = ([V 0, V 1, V 2, V 3, V 4, V 5, V 6, V 7, V 8, V 9, V 10, V 11, V 12, V 13, V 14, V 15, V 16, V 17, V 18, V 19, V 20, V 21, V 22, V 23, V 24, V 25] : List Value) := hT; rw [hV] at f0 f1 f12 f13; subst hT; simp only [f0, f1, f12, f13]; clear hV hlen
    by_cases hlt : k < ns.length
    · have hd1 : decide ((k : Int) < (ns.length : Int)) = true := decide_eq_true (by omega)
      have hd2 : (0 ≤ (k : Int)) = True := eq_true (by omega)
      have hd3 : ((k : Int) < (ns.length : Int)) = True := eq_true (by omega)
      have hd4 : ((k : Int) < (ms.length : Int)) = True := eq_true (by omega)
      have hg1 := numRow_get (k := .u64) hlt
      have hg2 := numRow_get (k := .u64) (show k < ms.length by omega)
      by_cases hx : ns[k] = ms[k]
      · have h5 : (ns[k] != ms[k]) = false := by rw [hx]; simp
        repeat (first | refine Goes.reg ?_ | refine Goes.ctl2 rfl ?_ | ((first | refine qv1 rfl rfl rfl fun K hK => ?_ | refine qv3 rfl rfl rfl fun K hK => ?_ | refine qv2 rfl rfl rfl rfl rfl rfl fun K hK => ?_ | refine qv4 rfl rfl rfl rfl rfl rfl fun K hK => ?_ | refine qn1 rfl rfl rfl fun K hK => ?_ | refine qn3 rfl rfl rfl fun K hK => ?_ | refine qt1 rfl rfl rfl fun K hK => ?_ | refine qt3 rfl rfl rfl fun K hK => ?_); simp (disch := (first | omega | (simp only [sz] <;> omega) | fail)) only [go_sem, hd1, hd2, hd3, hd4, hg1, hg2, h5, Nat.mul_one]; with_reducible refine hK _ _ ?_; clear hK K) | refine At.nil rfl ?_ | refine RG.nil rfl ?_ | ((first | refine AtL.skipg rfl rfl rfl rfl rfl ?_ | refine RGL.skipg rfl rfl rfl rfl rfl ?_ | refine AtL.skipu rfl rfl rfl rfl ?_ | refine RGL.skipu rfl rfl rfl rfl ?_); simp only [putL, List.set_cons_zero, List.set_cons_succ]) | refine Goes.yes rfl ?_ | refine Goes.no rfl ?_ | refine Goes.drawR [] (by kernel_rfl) ?_)
        exact ih _ _ _ _ (by omega) ⟨k + 1, rfl, by omega, by rw [List.take_succ_eq_append_getElem hlt, List.take_succ_eq_append_getElem (by omega), hpre, hx], rfl, rfl, rfl, rfl, rfl, rfl⟩
      · have h5 : (ns[k] != ms[k]) = true := by simpa using hx
        have hne : decide (ns = ms) = false := decide_eq_false (fun h => hx (by subst h; rfl))
        rw [hne]
        repeat (first | refine Goes.reg ?_ | refine Goes.ctl2 rfl ?_ | ((first | refine qv1 rfl rfl rfl fun K hK => ?_ | refine qv3 rfl rfl rfl fun K hK => ?_ | refine qv2 rfl rfl rfl rfl rfl rfl fun K hK => ?_ | refine qv4 rfl rfl rfl rfl rfl rfl fun K hK => ?_ | refine qn1 rfl rfl rfl fun K hK => ?_ | refine qn3 rfl rfl rfl fun K hK => ?_ | refine qt1 rfl rfl rfl fun K hK => ?_ | refine qt3 rfl rfl rfl fun K hK => ?_); simp (disch := (first | omega | (simp only [sz] <;> omega) | fail)) only [go_sem, hd1, hd2, hd3, hd4, hg1, hg2, h5, Nat.mul_one]; with_reducible refine hK _ _ ?_; clear hK K) | refine At.nil rfl ?_ | refine RG.nil rfl ?_ | ((first | refine AtL.skipg rfl rfl rfl rfl rfl ?_ | refine RGL.skipg rfl rfl rfl rfl rfl ?_ | refine AtL.skipu rfl rfl rfl rfl ?_ | refine RGL.skipu rfl rfl rfl rfl ?_); simp only [putL, List.set_cons_zero, List.set_cons_succ]) | refine Goes.yes rfl ?_ | refine Goes.no rfl ?_ | refine Goes.drawR [] (by kernel_rfl) ?_)
        refine Goes.finS rfl (by simp (disch := (first | omega | (simp only [heapL_next, List.length_cons, List.length_nil, List.size_toArray, geo_len] <;> omega) | fail)) only [go_sem, resA, res1A, Try.results126] <;> rfl) ?_ rfl ?_
        · rfl
        · exact Clo.plain rfl
    · obtain rfl : k = ns.length := by omega
      have heq : decide (ns = ms) = true := decide_eq_true (by
        rw [List.take_length, hl, List.take_length] at hpre
        exact hpre)
      rw [heq]
      have hd1 : decide ((ns.length : Int) < (ns.length : Int)) = false := decide_eq_false (by omega)
      repeat (first | refine Goes.reg ?_ | refine Goes.ctl2 rfl ?_ | ((first | refine qv1 rfl rfl rfl fun K hK => ?_ | refine qv3 rfl rfl rfl fun K hK => ?_ | refine qv2 rfl rfl rfl rfl rfl rfl fun K hK => ?_ | refine qv4 rfl rfl rfl rfl rfl rfl fun K hK => ?_ | refine qn1 rfl rfl rfl fun K hK => ?_ | refine qn3 rfl rfl rfl fun K hK => ?_ | refine qt1 rfl rfl rfl fun K hK => ?_ | refine qt3 rfl rfl rfl fun K hK => ?_); simp (disch := (first | omega | (simp only [sz] <;> omega) | fail)) only [go_sem, hd1]; with_reducible refine hK _ _ ?_; clear hK K) | refine At.nil rfl ?_ | refine RG.nil rfl ?_ | ((first | refine AtL.skipg rfl rfl rfl rfl rfl ?_ | refine RGL.skipg rfl rfl rfl rfl rfl ?_ | refine AtL.skipu rfl rfl rfl rfl ?_ | refine RGL.skipu rfl rfl rfl rfl ?_); simp only [putL, List.set_cons_zero, List.set_cons_succ]) | refine Goes.yes rfl ?_ | refine Goes.no rfl ?_ | refine Goes.drawR [] (by kernel_rfl) ?_)
      refine Goes.finS rfl (by simp (disch := (first | omega | (simp only [heapL_next, List.length_cons, List.length_nil, List.size_toArray, geo_len] <;> omega) | fail)) only [go_sem, resA, res1A, Try.results126] <;> rfl) ?_ rfl ?_
      · rfl
      · exact Clo.plain rfl
  · have h1 : ((ns.length : Int) != (ms.length : Int)) = true := by rw [bne_iff_ne]; omega
    have hne : decide (ns = ms) = false := decide_eq_false (fun h => hl (by rw [h]))
    rw [hne]
    repeat (first | refine Goes.reg ?_ | refine Goes.ctl2 rfl ?_ | ((first | refine qv1 rfl rfl rfl fun K hK => ?_ | refine qv3 rfl rfl rfl fun K hK => ?_ | refine qv2 rfl rfl rfl rfl rfl rfl fun K hK => ?_ | refine qv4 rfl rfl rfl rfl rfl rfl fun K hK => ?_ | refine qn1 rfl rfl rfl fun K hK => ?_ | refine qn3 rfl rfl rfl fun K hK => ?_ | refine qt1 rfl rfl rfl fun K hK => ?_ | refine qt3 rfl rfl rfl fun K hK => ?_); simp (disch := (first | omega | (simp only [sz] <;> omega) | fail)) only [go_sem, h1]; with_reducible refine hK _ _ ?_; clear hK K) | refine At.nil rfl ?_ | refine RG.nil rfl ?_ | ((first | refine AtL.skipg rfl rfl rfl rfl rfl ?_ | refine RGL.skipg rfl rfl rfl rfl rfl ?_ | refine AtL.skipu rfl rfl rfl rfl ?_ | refine RGL.skipu rfl rfl rfl rfl ?_); simp only [putL, List.set_cons_zero, List.set_cons_succ]) | refine Goes.yes rfl ?_ | refine Goes.no rfl ?_ | refine Goes.drawR [] (by kernel_rfl) ?_)
    refine Goes.finS rfl (by simp (disch := (first | omega | (simp only [heapL_next, List.length_cons, List.length_nil, List.size_toArray, geo_len] <;> omega) | fail)) only [go_sem, resA, res1A, Try.results126] <;> rfl) ?_ rfl ?_
    · rfl
    · exact Clo.plain rfl

set_option maxHeartbeats 2000000 in
theorem eqB_x (ns ms : List Int) (c d : Nat) (hn : ns.length ≤ 2097152) (hm : ms.length ≤ 2097152) : DoesX BF 127 #[.slice (some ⟨0, 0, none⟩) ns.length c, .slice (some ⟨1, 0, none⟩) ms.length d] [numB .u8 5 ns, numB .u8 5 ms] () (.bool (decide (ns = ms))) [numB .u8 5 ns, numB .u8 5 ms] [] () := by
  refine DoesX.mk Try.func127 rfl rfl ?clo ?rows ?_
  case clo => exact clo2 (clo_sq (by simp)) (clo_sq (by simp))
  case rows => exact plain_rows (by simp [numB]; exact ⟨numRow_plain, numRow_plain⟩)
  rw [Try.ntmps127]; simp only [List.size_toArray, List.length_cons, List.length_nil, List.replicate, List.cons_append, List.nil_append]
  simp only [numB, List.map_cons, List.map_nil]
  by_cases hl : ns.length = ms.length
  · have h1 : ((ns.length : Int) != (ms.length : Int)) = false := by rw [hl]; simp
    repeat (first | refine Goes.reg ?_ | refine Goes.ctl2 rfl ?_ | ((first | refine qv1 rfl rfl rfl fun K hK => ?_ | refine qv3 rfl rfl rfl fun K hK => ?_ | refine qv2 rfl rfl rfl rfl rfl rfl fun K hK => ?_ | refine qv4 rfl rfl rfl rfl rfl rfl fun K hK => ?_ | refine qn1 rfl rfl rfl fun K hK => ?_ | refine qn3 rfl rfl rfl fun K hK => ?_ | refine qt1 rfl rfl rfl fun K hK => ?_ | refine qt3 rfl rfl rfl fun K hK => ?_); simp (disch := (first | omega | (simp only [sz] <;> omega) | fail)) only [go_sem, h1]; with_reducible refine hK _ _ ?_; clear hK K) | refine At.nil rfl ?_ | refine RG.nil rfl ?_ | ((first | refine AtL.skipg rfl rfl rfl rfl rfl ?_ | refine RGL.skipg rfl rfl rfl rfl rfl ?_ | refine AtL.skipu rfl rfl rfl rfl ?_ | refine RGL.skipu rfl rfl rfl rfl ?_); simp only [putL, List.set_cons_zero, List.set_cons_succ]) | refine Goes.yes rfl ?_ | refine Goes.no rfl ?_ | refine Goes.drawR [] (by kernel_rfl) ?_)
    refine Goes.wh (fun q tmps h S => ∃ k, q = ns.length - k ∧ k ≤ ns.length ∧ ns.take k = ms.take k ∧ h = heapL [some ⟨numRow .u8 ns, 5, true, none⟩, some ⟨numRow .u8 ms, 5, true, none⟩] ∧ tmps.length = 26 ∧ tmps.getD 0 undef = .slice (some ⟨0, 0, none⟩) ns.length c ∧
      tmps.getD 1 undef = .slice (some ⟨1, 0, none⟩) ms.length d ∧ tmps.getD 12 undef = .int .i64 ns.length ∧ tmps.getD 13 undef = .int .i64 k) (m := ns.length) ⟨0, by omega, by omega, rfl, rfl, rfl, rfl, rfl, rfl, rfl⟩ ?_
    rintro q tmps h S ih ⟨k, rfl, hk, hpre, rfl, hlen, f0, f1, f12, f13⟩
    obtain ⟨V, hV, hT⟩ := frame_lit hlen; replace hT : _ = ([V 0, V 1, V 2, V 3, V 4, V 5, V 6, V 7, V 8, V 9, V 10, V 11, V 12, V 13, V 14, V 15, V 16, V 17, V 18, V 19, V 20, V 21, V 22, V 23, V 24, V 25] : List Value) := hT; rw [hV] at f0 f1 f12 f13; subst hT; simp only [f0, f1, f12, f13]; clear hV hlen
    by_cases hlt : k < ns.length
    · have hd1 : decide ((k : Int) < (ns.length : Int)) = true := decide_eq_true (by omega)
      have hd2 : (0 ≤ (k : Int)) = True := eq_true (by omega)
      have hd3 : ((k : Int) < (ns.length : Int)) = True := eq_true (by omega)
      have hd4 : ((k : Int) < (ms.length : Int)) = True := eq_true (by omega)
      have hg1 := numRow_get (k := .u8) hlt
      have hg2 := numRow_get (k := .u8) (show k < ms.length by omega)
      by_cases hx : ns[k] = ms[k]
      · have h5 : (ns[k] != ms[k]) = false := by rw [hx]; simp
        repeat (first | refine Goes.reg ?_ | refine Goes.ctl2 rfl ?_ | ((first | refine qv1 rfl rfl rfl fun K hK => ?_ | refine qv3 rfl rfl rfl fun K hK => ?_ | refine qv2 rfl rfl rfl rfl rfl rfl fun K hK => ?_ | refine qv4 rfl rfl rfl rfl rfl rfl fun K hK => ?_ | refine qn1 rfl rfl rfl fun K hK => ?_ | refine qn3 rfl rfl rfl fun K hK => ?_ | refine qt1 rfl rfl rfl fun K hK => ?_ | refine qt3 rfl rfl rfl fun K hK => ?_); simp (disch := (first | omega | (simp only [sz] <;> omega) | fail)) only [go_sem, hd1, hd2, hd3, hd4, hg1, hg2, h5, Nat.mul_one]; with_reducible refine hK _ _ ?_; clear hK K) | refine At.nil rfl ?_ | refine RG.nil rfl ?_ | ((first | refine AtL.skipg rfl rfl rfl rfl rfl ?_ | refine RGL.skipg rfl rfl rfl rfl rfl ?_ | refine AtL.skipu rfl rfl rfl rfl ?_ | refine RGL.skipu rfl rfl rfl rfl ?_); simp only [putL, List.set_cons_zero, List.set_cons_succ]) | refine Goes.yes rfl ?_ | refine Goes.no rfl ?_ | refine Goes.drawR [] (by kernel_rfl) ?_)
        exact ih _ _ _ _ (by omega) ⟨k + 1, rfl, by omega, by rw [List.take_succ_eq_append_getElem hlt, List.take_succ_eq_append_getElem (by omega), hpre, hx], rfl, rfl, rfl, rfl, rfl, rfl⟩
      · have h5 : (ns[k] != ms[k]) = true := by simpa using hx
        have hne : decide (ns = ms) = false := decide_eq_false (fun h => hx (by subst h; rfl))
        rw [hne]
        repeat (first | refine Goes.reg ?_ | refine Goes.ctl2 rfl ?_ | ((first | refine qv1 rfl rfl rfl fun K hK => ?_ | refine qv3 rfl rfl rfl fun K hK => ?_ | refine qv2 rfl rfl rfl rfl rfl rfl fun K hK => ?_ | refine qv4 rfl rfl rfl rfl rfl rfl fun K hK => ?_ | refine qn1 rfl rfl rfl fun K hK => ?_ | refine qn3 rfl rfl rfl fun K hK => ?_ | refine qt1 rfl rfl rfl fun K hK => ?_ | refine qt3 rfl rfl rfl fun K hK => ?_); simp (disch := (first | omega | (simp only [sz] <;> omega) | fail)) only [go_sem, hd1, hd2, hd3, hd4, hg1, hg2, h5, Nat.mul_one]; with_reducible refine hK _ _ ?_; clear hK K) | refine At.nil rfl ?_ | refine RG.nil rfl ?_ | ((first | refine AtL.skipg rfl rfl rfl rfl rfl ?_ | refine RGL.skipg rfl rfl rfl rfl rfl ?_ | refine AtL.skipu rfl rfl rfl rfl ?_ | refine RGL.skipu rfl rfl rfl rfl ?_); simp only [putL, List.set_cons_zero, List.set_cons_succ]) | refine Goes.yes rfl ?_ | refine Goes.no rfl ?_ | refine Goes.drawR [] (by kernel_rfl) ?_)
        refine Goes.finS rfl (by simp (disch := (first | omega | (simp only [heapL_next, List.length_cons, List.length_nil, List.size_toArray, geo_len] <;> omega) | fail)) only [go_sem, resA, res1A, Try.results127] <;> rfl) ?_ rfl ?_
        · rfl
        · exact Clo.plain rfl
    · obtain rfl : k = ns.length := by omega
      have heq : decide (ns = ms) = true := decide_eq_true (by
        rw [List.take_length, hl, List.take_length] at hpre
        exact hpre)
      rw [heq]
      have hd1 : decide ((ns.length : Int) < (ns.length : Int)) = false := decide_eq_false (by omega)
      repeat (first | refine Goes.reg ?_ | refine Goes.ctl2 rfl ?_ | ((first | refine qv1 rfl rfl rfl fun K hK => ?_ | refine qv3 rfl rfl rfl fun K hK => ?_ | refine qv2 rfl rfl rfl rfl rfl rfl fun K hK => ?_ | refine qv4 rfl rfl rfl rfl rfl rfl fun K hK => ?_ | refine qn1 rfl rfl rfl fun K hK => ?_ | refine qn3 rfl rfl rfl fun K hK => ?_ | refine qt1 rfl rfl rfl fun K hK => ?_ | refine qt3 rfl rfl rfl fun K hK => ?_); simp (disch := (first | omega | (simp only [sz] <;> omega) | fail)) only [go_sem, hd1]; with_reducible refine hK _ _ ?_; clear hK K) | refine At.nil rfl ?_ | refine RG.nil rfl ?_ | ((first | refine AtL.skipg rfl rfl rfl rfl rfl ?_ | refine RGL.skipg rfl rfl rfl rfl rfl ?_ | refine AtL.skipu rfl rfl rfl rfl ?_ | refine RGL.skipu rfl rfl rfl rfl ?_); simp only [putL, List.set_cons_zero, List.set_cons_succ]) | refine Goes.yes rfl ?_ | refine Goes.no rfl ?_ | refine Goes.drawR [] (by kernel_rfl) ?_)
      refine Goes.finS rfl (by simp (disch := (first | omega | (simp only [heapL_next, List.length_cons, List.length_nil, List.size_toArray, geo_len] <;> omega) | fail)) only [go_sem, resA, res1A, Try.results127] <;> rfl) ?_ rfl ?_
      · rfl
      · exact Clo.plain rfl
  · have h1 : ((ns.length : Int) != (ms.length : Int)) = true := by rw [bne_iff_ne]; omega
    have hne : decide (ns = ms) = false := decide_eq_false (fun h => hl (by rw [h]))
    rw [hne]
    repeat (first | refine Goes.reg ?_ | refine Goes.ctl2 rfl ?_ | ((first | refine qv1 rfl rfl rfl fun K hK => ?_ | refine qv3 rfl rfl rfl fun K hK => ?_ | refine qv2 rfl rfl rfl rfl rfl rfl fun K hK => ?_ | refine qv4 rfl rfl rfl rfl rfl rfl fun K hK => ?_ | refine qn1 rfl rfl rfl fun K hK => ?_ | refine qn3 rfl rfl rfl fun K hK => ?_ | refine qt1 rfl rfl rfl fun K hK => ?_ | refine qt3 rfl rfl rfl fun K hK => ?_); simp (disch := (first | omega | (simp only [sz] <;> omega) | fail)) only [go_sem, h1]; with_reducible refine hK _ _ ?_; clear hK K) | refine At.nil rfl ?_ | refine RG.nil rfl ?_ | ((first | refine AtL.skipg rfl rfl rfl rfl rfl ?_ | refine RGL.skipg rfl rfl rfl rfl rfl ?_ | refine AtL.skipu rfl rfl rfl rfl ?_ | refine RGL.skipu rfl rfl rfl rfl ?_); simp only [putL, List.set_cons_zero, List.set_cons_succ]) | refine Goes.yes rfl ?_ | refine Goes.no rfl ?_ | refine Goes.drawR [] (by kernel_rfl) ?_)
    refine Goes.finS rfl (by simp (disch := (first | omega | (simp only [heapL_next, List.length_cons, List.length_nil, List.size_toArray, geo_len] <;> omega) | fail)) only [go_sem, resA, res1A, Try.results127] <;> rfl) ?_ rfl ?_
    · rfl
    · exact Clo.plain rfl

def memB (i j : Nat) (n c m d : Nat) : Blk := ⟨[.slice (some ⟨i, 0, none⟩) n c, .slice (some ⟨j, 0, none⟩) m d], 173, true, none⟩
set_option maxHeartbeats 2000000 in
theorem same_x (ns ms : List Int) (bs cs : List Int) (c c' d d' : Nat) (hn : ns.length ≤ 2097152) (hm : ms.length ≤ 2097152) (hb : bs.length ≤ 2097152) (hc : cs.length ≤ 2097152) :
    Goes BF Try.f73 (fun x => ∃ h1, x = .done (.bool (decide (ns = ms) && decide (bs = cs))) h1 ()) (.run [.code (Try.f73.body.getD .skip)] ([.pointer (some ⟨0, 0, none⟩), .pointer (some ⟨3, 0, none⟩)] ++ List.replicate (Try.f73.ntmps - 2) undef)
      (heapL [some (memB 1 2 ns.length c bs.length d), some (numB .u64 49 ns), some (numB .u8 5 bs), some (memB 4 5 ms.length c' cs.length d'), some (numB .u64 49 ms), some (numB .u8 5 cs)]) ()) := by
  rw [Try.ntmps73]; simp only [List.replicate, List.cons_append, List.nil_append]
  show Goes BF _ _ (.run [.code _] _ _ _)
  simp only [memB, numB]
  repeat (first | refine Goes.reg ?_ | refine Goes.ctl2 rfl ?_ | ((first | refine qv1 rfl rfl rfl fun K hK => ?_ | refine qv3 rfl rfl rfl fun K hK => ?_ | refine qv2 rfl rfl rfl rfl rfl rfl fun K hK => ?_ | refine qv4 rfl rfl rfl rfl rfl rfl fun K hK => ?_ | refine qn1 rfl rfl rfl fun K hK => ?_ | refine qn3 rfl rfl rfl fun K hK => ?_ | refine qt1 rfl rfl rfl fun K hK => ?_ | refine qt3 rfl rfl rfl fun K hK => ?_); simp (disch := (first | omega | (simp only [sz] <;> omega) | fail)) only [go_sem]; with_reducible refine hK _ _ ?_; clear hK K) | refine At.nil rfl ?_ | refine RG.nil rfl ?_ | ((first | refine AtL.skipg rfl rfl rfl rfl rfl ?_ | refine RGL.skipg rfl rfl rfl rfl rfl ?_ | refine AtL.skipu rfl rfl rfl rfl ?_ | refine RGL.skipu rfl rfl rfl rfl ?_); simp only [putL, List.set_cons_zero, List.set_cons_succ]) | refine Goes.yes rfl ?_ | refine Goes.no rfl ?_ | refine Goes.drawR [] (by kernel_rfl) ?_)
  ((first | refine At.callX [1, 4] rfl rfl rfl (by decide) rfl (fun K hK => ?_) | refine RG.callX [1, 4] rfl rfl rfl rfl (by decide) (fun K hK => ?_)); simp (disch := (first | omega | (simp only [heapL_next, List.length_cons, List.length_nil, List.size_toArray, geo_len] <;> omega) | fail)) only [go_sem]; refine ⟨_, _, _, _, _, _, eqW_x ns ms c c' hn hm, by first | rfl | simp (disch := (first | omega | (simp only [heapL_next, List.length_cons, List.length_nil, List.size_toArray, geo_len] <;> omega) | fail)) only [go_sem], by ((repeat (refine ⟨⟨_, rfl, rfl, ?_, (by first | exact .inr rfl | exact .inl rfl), (by first | exact fun h => h | exact fun _ => rfl | (intro h; cases h))⟩, ?_⟩; · first | exact plain_map numRow_plain | exact plain_map (by simp [plainB]; done) | simp [up_0, up_1, up_2, up_00, up_base, up_slack, adr])); exact trivial), by first | exact ⟨rfl, rfl⟩ | rfl, ?_⟩; (try simp only [go_sem]); (first | refine hK _ _ _ ?_ | refine hK _ _ _ _ ?_); clear hK K)
  by_cases h : ns = ms
  · rw [decide_eq_true h]
    repeat (first | refine Goes.reg ?_ | refine Goes.ctl2 rfl ?_ | ((first | refine qv1 rfl rfl rfl fun K hK => ?_ | refine qv3 rfl rfl rfl fun K hK => ?_ | refine qv2 rfl rfl rfl rfl rfl rfl fun K hK => ?_ | refine qv4 rfl rfl rfl rfl rfl rfl fun K hK => ?_ | refine qn1 rfl rfl rfl fun K hK => ?_ | refine qn3 rfl rfl rfl fun K hK => ?_ | refine qt1 rfl rfl rfl fun K hK => ?_ | refine qt3 rfl rfl rfl fun K hK => ?_); simp (disch := (first | omega | (simp only [sz] <;> omega) | fail)) only [go_sem]; with_reducible refine hK _ _ ?_; clear hK K) | refine At.nil rfl ?_ | refine RG.nil rfl ?_ | ((first | refine AtL.skipg rfl rfl rfl rfl rfl ?_ | refine RGL.skipg rfl rfl rfl rfl rfl ?_ | refine AtL.skipu rfl rfl rfl rfl ?_ | refine RGL.skipu rfl rfl rfl rfl ?_); simp only [putL, List.set_cons_zero, List.set_cons_succ]) | refine Goes.yes rfl ?_ | refine Goes.no rfl ?_ | refine Goes.drawR [] (by kernel_rfl) ?_)
    ((first | refine At.callX [2, 5] rfl rfl rfl (by decide) rfl (fun K hK => ?_) | refine RG.callX [2, 5] rfl rfl rfl rfl (by decide) (fun K hK => ?_)); simp (disch := (first | omega | (simp only [heapL_next, List.length_cons, List.length_nil, List.size_toArray, geo_len] <;> omega) | fail)) only [go_sem]; refine ⟨_, _, _, _, _, _, eqB_x bs cs d d' hb hc, by first | rfl | simp (disch := (first | omega | (simp only [heapL_next, List.length_cons, List.length_nil, List.size_toArray, geo_len] <;> omega) | fail)) only [go_sem], by ((repeat (refine ⟨⟨_, rfl, rfl, ?_, (by first | exact .inr rfl | exact .inl rfl), (by first | exact fun h => h | exact fun _ => rfl | (intro h; cases h))⟩, ?_⟩; · first | exact plain_map numRow_plain | exact plain_map (by simp [plainB]; done) | simp [up_0, up_1, up_2, up_00, up_base, up_slack, adr])); exact trivial), by first | exact ⟨rfl, rfl⟩ | rfl, ?_⟩; (try simp only [go_sem]); (first | refine hK _ _ _ ?_ | refine hK _ _ _ _ ?_); clear hK K)
    repeat (first | refine Goes.reg ?_ | refine Goes.ctl2 rfl ?_ | ((first | refine qv1 rfl rfl rfl fun K hK => ?_ | refine qv3 rfl rfl rfl fun K hK => ?_ | refine qv2 rfl rfl rfl rfl rfl rfl fun K hK => ?_ | refine qv4 rfl rfl rfl rfl rfl rfl fun K hK => ?_ | refine qn1 rfl rfl rfl fun K hK => ?_ | refine qn3 rfl rfl rfl fun K hK => ?_ | refine qt1 rfl rfl rfl fun K hK => ?_ | refine qt3 rfl rfl rfl fun K hK => ?_); simp (disch := (first | omega | (simp only [sz] <;> omega) | fail)) only [go_sem]; with_reducible refine hK _ _ ?_; clear hK K) | refine At.nil rfl ?_ | refine RG.nil rfl ?_ | ((first | refine AtL.skipg rfl rfl rfl rfl rfl ?_ | refine RGL.skipg rfl rfl rfl rfl rfl ?_ | refine AtL.skipu rfl rfl rfl rfl ?_ | refine RGL.skipu rfl rfl rfl rfl ?_); simp only [putL, List.set_cons_zero, List.set_cons_succ]) | refine Goes.yes rfl ?_ | refine Goes.no rfl ?_ | refine Goes.drawR [] (by kernel_rfl) ?_)
    exact .ret rfl rfl (.here ⟨_, by rw [Bool.true_and]; rfl⟩)
  · rw [decide_eq_false h]
    repeat (first | refine Goes.reg ?_ | refine Goes.ctl2 rfl ?_ | ((first | refine qv1 rfl rfl rfl fun K hK => ?_ | refine qv3 rfl rfl rfl fun K hK => ?_ | refine qv2 rfl rfl rfl rfl rfl rfl fun K hK => ?_ | refine qv4 rfl rfl rfl rfl rfl rfl fun K hK => ?_ | refine qn1 rfl rfl rfl fun K hK => ?_ | refine qn3 rfl rfl rfl fun K hK => ?_ | refine qt1 rfl rfl rfl fun K hK => ?_ | refine qt3 rfl rfl rfl fun K hK => ?_); simp (disch := (first | omega | (simp only [sz] <;> omega) | fail)) only [go_sem]; with_reducible refine hK _ _ ?_; clear hK K) | refine At.nil rfl ?_ | refine RG.nil rfl ?_ | ((first | refine AtL.skipg rfl rfl rfl rfl rfl ?_ | refine RGL.skipg rfl rfl rfl rfl rfl ?_ | refine AtL.skipu rfl rfl rfl rfl ?_ | refine RGL.skipu rfl rfl rfl rfl ?_); simp only [putL, List.set_cons_zero, List.set_cons_succ]) | refine Goes.yes rfl ?_ | refine Goes.no rfl ?_ | refine Goes.drawR [] (by kernel_rfl) ?_)
    exact .ret rfl rfl (.here ⟨_, rfl⟩)

theorem map_same {α : Type} (f : α → Int) (hf : ∀ x y, f x = f y → x = y) : ∀ l m : List α, l.map f = m.map f → l = m
  | [], [], _ => rfl
  | [], _ :: _, h => by simp at h
  | _ :: _, [], h => by simp at h
  | x :: l, y :: m, h => by
    simp only [List.map_cons, List.cons.injEq] at h
    rw [hf x y h.1, map_same f hf l m h.2]

/-- Two memories at once, as the rows of a run. -/
theorem mSame_any (M M' : MemId) (ws us : List UInt64) (bs cs : List UInt8) (w : World) (h : MemAt w M ws bs) (h' : MemAt w M' us cs) :
    Calls Try.prog 73 #[.pointer (some ⟨M.m, 0, none⟩), .pointer (some ⟨M'.m, 0, none⟩)] w (Ret (.bool (decide (ws = us) && decide (bs = cs))) (Ext [] w)) := by
  let f : UInt64 → Int := fun x => (x.toNat : Int)
  let g : UInt8 → Int := fun x => (x.toNat : Int)
  have hf : ∀ x y, f x = f y → x = y := fun x y h => UInt64.toNat_inj.1 (by have : (x.toNat : Int) = (y.toNat : Int) := h; omega)
  have hg : ∀ x y, g x = g y → x = y := fun x y h => UInt8.toNat_inj.1 (by have : (x.toNat : Int) = (y.toNat : Int) := h; omega)
  have e1 : decide (ws.map f = us.map f) = decide (ws = us) := by
    by_cases hh : ws = us
    · rw [decide_eq_true hh, decide_eq_true (by rw [hh])]
    · rw [decide_eq_false hh, decide_eq_false (fun e => hh (map_same f hf _ _ e))]
  have e2 : decide (bs.map g = cs.map g) = decide (bs = cs) := by
    by_cases hh : bs = cs
    · rw [decide_eq_true hh, decide_eq_true (by rw [hh])]
    · rw [decide_eq_false hh, decide_eq_false (fun e => hh (map_same g hg _ _ e))]
  rw [← e1, ← e2]
  have G := same_x (ws.map f) (us.map f) (bs.map g) (cs.map g) ws.length us.length bs.length cs.length (by have := h.wl; simpa using this) (by have := h'.wl; simpa using this) (by have := h.bl; simp; omega) (by have := h'.bl; simp; omega)
  obtain ⟨c', ⟨h1, rfl⟩, G⟩ := G.out
  let rows : List (Option Blk) := [some (memB 1 2 (ws.map f).length ws.length (bs.map g).length bs.length), some (numB .u64 49 (ws.map f)), some (numB .u8 5 (bs.map g)), some (memB 4 5 (us.map f).length us.length (cs.map g).length cs.length), some (numB .u64 49 (us.map f)), some (numB .u8 5 (cs.map g))]
  let F : Emb := ⟨fun n => if n = 0 then M.m else if n = 1 then M.bw else if n = 2 then M.bb else if n = 3 then M'.m else if n = 4 then M'.bw else M'.bb, fun _ => 0, fun n => if n = 1 then M.pw.size else if n = 2 then M.pb.size else if n = 4 then M'.pw.size else M'.pb.size⟩
  have hr : ∀ (n : Nat) (b : Blk), rows[n]? = some (some b) → b.ro = true ∧ b.grow = none ∧ (∀ v ∈ b.cells, Clo (Kn rows.length 0) v) ∧ ∃ (post : Array Value), w.heap[F.blk n]? = some (.cells ((b.cells.map (ren F)).toArray ++ post) b.elem (0, 0)) := by
    intro n b hb
    have wc : ∀ {l : List UInt64}, (numRow .u64 (l.map f)).map (ren F) = (wcells l).toList := fun {l} => by rw [← plain_map numRow_plain]; simp [numRow, wcells, f]
    have bc : ∀ {l : List UInt8}, (numRow .u8 (l.map g)).map (ren F) = (bcells l).toList := fun {l} => by rw [← plain_map numRow_plain]; simp [numRow, bcells, g]
    match n, hb with
    | 0, hb => cases hb; exact ⟨rfl, rfl, by simp only [memB, List.mem_cons, List.not_mem_nil, or_false]; rintro v (rfl | rfl); exact clo_sq (by simp [rows]); exact clo_sq (by simp [rows]), #[], by have := h.hm; simpa [F, memB, adr, memC, blk] using this⟩
    | 1, hb => cases hb; exact ⟨rfl, rfl, fun v hv => Clo.plain (numRow_plain v hv), M.pw, by have := h.hw; simp only [numB, wc]; simpa [F, blk] using this⟩
    | 2, hb => cases hb; exact ⟨rfl, rfl, fun v hv => Clo.plain (numRow_plain v hv), M.pb, by have := h.hb; simp only [numB, bc]; simpa [F, blk] using this⟩
    | 3, hb => cases hb; exact ⟨rfl, rfl, by simp only [memB, List.mem_cons, List.not_mem_nil, or_false]; rintro v (rfl | rfl); exact clo_sq (by simp [rows]); exact clo_sq (by simp [rows]), #[], by have := h'.hm; simpa [F, memB, adr, memC, blk] using this⟩
    | 4, hb => cases hb; exact ⟨rfl, rfl, fun v hv => Clo.plain (numRow_plain v hv), M'.pw, by have := h'.hw; simp only [numB, wc]; simpa [F, blk] using this⟩
    | 5, hb => cases hb; exact ⟨rfl, rfl, fun v hv => Clo.plain (numRow_plain v hv), M'.pb, by have := h'.hb; simp only [numB, bc]; simpa [F, blk] using this⟩
    | n + 6, hb => simp [rows] at hb
  have hget : ∀ (n : Nat) (b : Blk), (heapL rows).get n = some b → rows[n]? = some (some b) := fun n b h => by
    rw [heapL_get] at h
    cases hr : rows[n]? with
    | none => rw [hr] at h; cases h
    | some o => rw [hr] at h; rw [show o = some b from h]
  have hlen : rows.length = 6 := rfl
  have I : AInv BF F w (fun _ => False) (Kn (heapL rows).next (BF.cnt ())) (fun u => u ∈ [Value.pointer (some ⟨0, 0, none⟩), Value.pointer (some ⟨3, 0, none⟩)] ++ List.replicate (Try.f73.ntmps - 2) undef) (heapL rows) () w := by
    refine ⟨⟨fun n b hb => ?_, fun n m b _ hb _ _ hro => ?_⟩, trivial, fun u hu => ?_, fun n b hb v hv => ?_, fun n b hb => ?_, fun n h1 h2 => ?_, fun n hn => ?_, Kept.refl _ _, fun n b hb hro _ => ?_, fun b hb _ => hb, fun n b _ hf => hf⟩
    · obtain ⟨r1, r2, _, post, r4⟩ := hr n b (hget n b hb)
      exact ⟨#[], post, (0, 0), by simpa using r4, rfl, (fun _ => rfl), (fun h => by rw [r2] at h; cases h), (fun s h => by rw [r2] at h; cases h)⟩
    · have := (hr n b (hget n b hb)).1
      rw [hro] at this; cases this
    · rcases List.mem_append.1 hu with hu | hu
      · simp only [List.mem_cons, List.not_mem_nil, or_false] at hu
        rcases hu with rfl | rfl
        · exact (clo_pq (by rw [heapL_next, hlen]; decide)).stab F
        · exact (clo_pq (by rw [heapL_next, hlen]; decide)).stab F
      · rw [List.eq_of_mem_replicate hu]
        exact Stab.plain (by simp [undef, plainB])
    · exact ((hr n b (hget n b hb)).2.2.1 v hv).stab F
    · have := (List.getElem?_eq_some_iff.1 (hget n b hb)).1
      exact ⟨.inl (by rw [heapL_next]; exact this), by unfold VB; omega⟩
    · have h2 : n < VB + 0 := h2
      omega
    · rcases hn with hn | ⟨hn, hn'⟩
      · rw [heapL_next, hlen] at hn
        show n < VB + 0
        unfold VB; omega
      · exact hn'
    · have := (hr n b (hget n b hb)).1
      rw [hro] at this; cases this
  have hC := calls_of_simul (zs := #[.pointer (some ⟨0, 0, none⟩), .pointer (some ⟨3, 0, none⟩)]) Try.func73 rfl G.simul I (by rw [heapL_next, hlen]; unfold VB; omega)
  have ha : (#[.pointer (some ⟨0, 0, none⟩), .pointer (some ⟨3, 0, none⟩)] : Array Value).map (ren F) = #[.pointer (some ⟨M.m, 0, none⟩), .pointer (some ⟨M'.m, 0, none⟩)] := by simp [adr, F]
  rw [ha] at hC
  refine hC.mono ?_
  rintro e w' ⟨F', rfl, I', _⟩
  exact ⟨by rw [ren_bool], I'.kept.os, I'.kept.tape, I'.kept.output, I'.kept.size, fun b hb _ => I'.kept.block b hb (fun h => h)⟩
end Go.Proofs.Ytceddijolfpppaa
