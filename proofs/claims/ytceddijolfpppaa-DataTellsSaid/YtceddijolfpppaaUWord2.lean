/-
  Layer 1 over the abstract machine: references, pages, bits in words.
  Conditions: numbers fit their fields.
-/
import Derived.Test.YtceddijolfpppaaURun5
import Derived.Test.YtceddijolfpppaaUMem
import Derived.Test.YtceddijolfpppaaUQuick
namespace Go.Proofs.Ytceddijolfpppaa
open Go Go.RowKit
set_option linter.unusedSimpArgs false
set_option linter.unusedVariables false
theorem field_u8 (S : St) (n a m : Nat) (hn : n ≤ 255) (hm : m ≤ 63) (ha : a ≤ 63) (ham : a + m ≤ 64) :
    Does OF 156 #[.int .u8 n, .int .i64 a, .int .i64 m] [] S (.int .u64 ((n % 2 ^ m * 2 ^ a : Nat) : Int)) S := by
  refine Does.mk Try.func156 rfl rfl ?clo ?hand ?_
  case clo => exact clo3 iclo iclo iclo
  case hand => exact Hand.plain rfl
  rw [Try.ntmps156]; simp only [List.size_toArray, List.length_cons, List.length_nil, List.replicate, List.cons_append, List.nil_append]
  have e0 := w_id (show n < 18446744073709551616 by omega)
  have e1 := shl_one hm
  have e2 := sub_one hm
  have e3 := and_mask (show n < 18446744073709551616 by omega) hm
  have e4 := shl_at ha (field_lt (n := n) ham)
  repeat (first | refine Goes.reg ?_ | refine Goes.ctl2 rfl ?_ | ((first | refine qv1 rfl rfl rfl fun K hK => ?_ | refine qv3 rfl rfl rfl fun K hK => ?_ | refine qv2 rfl rfl rfl rfl rfl rfl fun K hK => ?_ | refine qv4 rfl rfl rfl rfl rfl rfl fun K hK => ?_ | refine qn1 rfl rfl rfl fun K hK => ?_ | refine qn3 rfl rfl rfl fun K hK => ?_ | refine qt1 rfl rfl rfl fun K hK => ?_ | refine qt3 rfl rfl rfl fun K hK => ?_); simp (disch := (first | omega | (simp only [sz] <;> omega) | fail)) only [go_sem, e0, e1, e2, e3, e4]; with_reducible refine hK _ _ ?_; clear hK K) | refine At.nil rfl ?_ | refine RG.nil rfl ?_ | ((first | refine AtL.skipg rfl rfl rfl rfl rfl ?_ | refine RGL.skipg rfl rfl rfl rfl rfl ?_ | refine AtL.skipu rfl rfl rfl rfl ?_ | refine RGL.skipu rfl rfl rfl rfl ?_); simp only [putL, List.set_cons_zero, List.set_cons_succ]) | refine Goes.yes rfl ?_ | refine Goes.no rfl ?_ | refine Goes.drawR [] (by kernel_rfl) ?_)
  refine Goes.fin rfl (by simp (disch := (first | omega | (simp only [heapL_next, List.length_cons, List.length_nil, List.size_toArray, geo_len] <;> omega) | fail)) only [go_sem, resA, res1A, Try.results156] <;> rfl) ?_
  rfl
theorem of_u8 (S : St) (x : UInt64) (a m : Nat) (hm : m ≤ 8) (ha : a ≤ 63) :
    Does OF 157 #[.int .u64 (x.toNat : Int), .int .i64 a, .int .i64 m] [] S (.int .u8 ((x.toNat / 2 ^ a % 2 ^ m : Nat) : Int)) S := by
  refine Does.mk Try.func157 rfl rfl ?clo ?hand ?_
  case clo => exact clo3 iclo iclo iclo
  case hand => exact Hand.plain rfl
  rw [Try.ntmps157]; simp only [List.size_toArray, List.length_cons, List.length_nil, List.replicate, List.cons_append, List.nil_append]
  have hx := x.toNat_lt
  have hd : x.toNat / 2 ^ a < 18446744073709551616 := Nat.lt_of_le_of_lt (Nat.div_le_self _ _) hx
  have e0 := shr_at (n := x.toNat) ha
  have e1 := shl_one (m := m) (by omega)
  have e2 := sub_one (m := m) (by omega)
  have e3 := and_mask hd (show m ≤ 63 by omega)
  have h4 : x.toNat / 2 ^ a % 2 ^ m < 2 ^ m := Nat.mod_lt _ (Nat.pow_pos (by decide))
  have h5 : (2 : Nat) ^ m ≤ 2 ^ 8 := Nat.pow_le_pow_right (by decide) hm
  have h6 : (2 : Nat) ^ 8 = 256 := by decide
  have e4 : IntKind.u8.wrap ((x.toNat / 2 ^ a % 2 ^ m : Nat) : Int) = ((x.toNat / 2 ^ a % 2 ^ m : Nat) : Int) := by rw [IntKind.wrap_u8]; omega
  repeat (first | refine Goes.reg ?_ | refine Goes.ctl2 rfl ?_ | ((first | refine qv1 rfl rfl rfl fun K hK => ?_ | refine qv3 rfl rfl rfl fun K hK => ?_ | refine qv2 rfl rfl rfl rfl rfl rfl fun K hK => ?_ | refine qv4 rfl rfl rfl rfl rfl rfl fun K hK => ?_ | refine qn1 rfl rfl rfl fun K hK => ?_ | refine qn3 rfl rfl rfl fun K hK => ?_ | refine qt1 rfl rfl rfl fun K hK => ?_ | refine qt3 rfl rfl rfl fun K hK => ?_); simp (disch := (first | omega | (simp only [sz] <;> omega) | fail)) only [go_sem, e0, e1, e2, e3, e4]; with_reducible refine hK _ _ ?_; clear hK K) | refine At.nil rfl ?_ | refine RG.nil rfl ?_ | ((first | refine AtL.skipg rfl rfl rfl rfl rfl ?_ | refine RGL.skipg rfl rfl rfl rfl rfl ?_ | refine AtL.skipu rfl rfl rfl rfl ?_ | refine RGL.skipu rfl rfl rfl rfl ?_); simp only [putL, List.set_cons_zero, List.set_cons_succ]) | refine Goes.yes rfl ?_ | refine Goes.no rfl ?_ | refine Goes.drawR [] (by kernel_rfl) ?_)
  refine Goes.fin rfl (by simp (disch := (first | omega | (simp only [heapL_next, List.length_cons, List.length_nil, List.size_toArray, geo_len] <;> omega) | fail)) only [go_sem, resA, res1A, Try.results157] <;> rfl) ?_
  rfl
def refV (i : Nat) (m : Bool) (v : Nat) : Value := .agg #[.int .i64 i, .bool m, .int .u32 v]
theorem refV_plain (i : Nat) (m : Bool) (v : Nat) : plainB (refV i m v) = true := by simp [refV, plainB]
def mN (m : Bool) : Nat := match m with | true => 16777216 | false => 0
def rN (i : Nat) (m : Bool) (v : Nat) : Nat := i + v * 2 ^ 32 + mN m
theorem rN_t (i v : Nat) : rN i true v = i + v * 2 ^ 32 + mN true := rfl
theorem rN_f (i v : Nat) : rN i false v = i + v * 2 ^ 32 + mN false := rfl
theorem mN_t : mN true = 16777216 := rfl
theorem mN_f : mN false = 0 := rfl
theorem or_bit {a b : Nat} (ha : a < 16777216) (hb : b < 4294967296) : orZ .u64 ((a + b * 2 ^ 32 : Nat) : Int) 16777216 = ((a + b * 2 ^ 32 + 16777216 : Nat) : Int) := by
  show IntKind.u64.wrap ((BitVec.ofInt 64 ((a + b * 2 ^ 32 : Nat) : Int) ||| BitVec.ofInt 64 16777216).toNat : Int) = _
  rw [BitVec.toNat_or, bv_nat (by omega)]
  have e : (BitVec.ofInt 64 16777216).toNat = 16777216 := by decide
  rw [e]
  have h1 : (a + b * 2 ^ 32) ||| 16777216 = a + b * 2 ^ 32 + 16777216 := by
    have k1 : a + b * 2 ^ 32 = 2 ^ 32 * b ||| a := by rw [← Nat.two_pow_add_eq_or_of_lt (by omega)]; omega
    have k2 : (a ||| 16777216) = 16777216 + a := by
      have := Nat.two_pow_add_eq_or_of_lt (i := 24) (b := a) (by omega) 1
      rw [Nat.or_comm]; simpa using this.symm
    rw [k1, Nat.or_assoc, k2, ← Nat.two_pow_add_eq_or_of_lt (by omega), ← Nat.two_pow_add_eq_or_of_lt (by omega)]
    omega
  rw [h1]
  exact w_id (by omega)
set_option maxHeartbeats 1000000 in
theorem rWord_aux (S : St) (i : Nat) (m : Bool) (v : Nat) (q : Int) (hi : i < 16777216) (hv : v < 4294967296) (hq : (match m with | true => orZ .u64 ((i + v * 2 ^ 32 : Nat) : Int) 16777216 | false => ((i + v * 2 ^ 32 : Nat) : Int)) = q) :
    Does OF 54 #[refV i m v] [] S (.int .u64 q) S := by
  refine Does.mk Try.func54 rfl rfl ?clo ?hand ?_
  case clo => exact clo1 (Clo.plain (refV_plain i m v))
  case hand => exact Hand.plain rfl
  rw [Try.ntmps54]; simp only [List.size_toArray, List.length_cons, List.length_nil, List.replicate, List.cons_append, List.nil_append]
  unfold refV
  repeat (first | refine Goes.reg ?_ | refine Goes.ctl2 rfl ?_ | ((first | refine qv1 rfl rfl rfl fun K hK => ?_ | refine qv3 rfl rfl rfl fun K hK => ?_ | refine qv2 rfl rfl rfl rfl rfl rfl fun K hK => ?_ | refine qv4 rfl rfl rfl rfl rfl rfl fun K hK => ?_ | refine qn1 rfl rfl rfl fun K hK => ?_ | refine qn3 rfl rfl rfl fun K hK => ?_ | refine qt1 rfl rfl rfl fun K hK => ?_ | refine qt3 rfl rfl rfl fun K hK => ?_); simp (disch := (first | omega | (simp only [sz] <;> omega) | fail)) only [go_sem]; with_reducible refine hK _ _ ?_; clear hK K) | refine At.nil rfl ?_ | refine RG.nil rfl ?_ | ((first | refine AtL.skipg rfl rfl rfl rfl rfl ?_ | refine RGL.skipg rfl rfl rfl rfl rfl ?_ | refine AtL.skipu rfl rfl rfl rfl ?_ | refine RGL.skipu rfl rfl rfl rfl ?_); simp only [putL, List.set_cons_zero, List.set_cons_succ]) | refine Goes.yes rfl ?_ | refine Goes.no rfl ?_ | refine Goes.drawR [] (by kernel_rfl) ?_)
  ((first | refine qc1 rfl rfl fun K hK => ?_ | refine qc3 rfl rfl fun K hK => ?_); simp (disch := (first | omega | (simp only [sz] <;> omega) | fail)) only [go_sem]; refine ⟨_, _, field_int _ i 0 24 (by omega) (by decide) (by decide) (by decide), ?_⟩; (try simp only [go_sem]); with_reducible refine hK _ _ ?_; clear hK K)
  rw [show i % 2 ^ 24 * 2 ^ 0 = i by omega]
  repeat (first | refine Goes.reg ?_ | refine Goes.ctl2 rfl ?_ | ((first | refine qv1 rfl rfl rfl fun K hK => ?_ | refine qv3 rfl rfl rfl fun K hK => ?_ | refine qv2 rfl rfl rfl rfl rfl rfl fun K hK => ?_ | refine qv4 rfl rfl rfl rfl rfl rfl fun K hK => ?_ | refine qn1 rfl rfl rfl fun K hK => ?_ | refine qn3 rfl rfl rfl fun K hK => ?_ | refine qt1 rfl rfl rfl fun K hK => ?_ | refine qt3 rfl rfl rfl fun K hK => ?_); simp (disch := (first | omega | (simp only [sz] <;> omega) | fail)) only [go_sem]; with_reducible refine hK _ _ ?_; clear hK K) | refine At.nil rfl ?_ | refine RG.nil rfl ?_ | ((first | refine AtL.skipg rfl rfl rfl rfl rfl ?_ | refine RGL.skipg rfl rfl rfl rfl rfl ?_ | refine AtL.skipu rfl rfl rfl rfl ?_ | refine RGL.skipu rfl rfl rfl rfl ?_); simp only [putL, List.set_cons_zero, List.set_cons_succ]) | refine Goes.yes rfl ?_ | refine Goes.no rfl ?_ | refine Goes.drawR [] (by kernel_rfl) ?_)
  ((first | refine qc1 rfl rfl fun K hK => ?_ | refine qc3 rfl rfl fun K hK => ?_); simp (disch := (first | omega | (simp only [sz] <;> omega) | fail)) only [go_sem]; refine ⟨_, _, field_u32 _ v 32 32 (by omega) (by decide) (by decide) (by decide), ?_⟩; (try simp only [go_sem]); with_reducible refine hK _ _ ?_; clear hK K)
  rw [show v % 2 ^ 32 * 2 ^ 32 = v * 2 ^ 32 by omega]
  have e1 := or_add (a := v) (b := i) (i := 32) (by omega) (by omega)
  repeat (first | refine Goes.reg ?_ | refine Goes.ctl2 rfl ?_ | ((first | refine qv1 rfl rfl rfl fun K hK => ?_ | refine qv3 rfl rfl rfl fun K hK => ?_ | refine qv2 rfl rfl rfl rfl rfl rfl fun K hK => ?_ | refine qv4 rfl rfl rfl rfl rfl rfl fun K hK => ?_ | refine qn1 rfl rfl rfl fun K hK => ?_ | refine qn3 rfl rfl rfl fun K hK => ?_ | refine qt1 rfl rfl rfl fun K hK => ?_ | refine qt3 rfl rfl rfl fun K hK => ?_); simp (disch := (first | omega | (simp only [sz] <;> omega) | fail)) only [go_sem, e1]; with_reducible refine hK _ _ ?_; clear hK K) | refine At.nil rfl ?_ | refine RG.nil rfl ?_ | ((first | refine AtL.skipg rfl rfl rfl rfl rfl ?_ | refine RGL.skipg rfl rfl rfl rfl rfl ?_ | refine AtL.skipu rfl rfl rfl rfl ?_ | refine RGL.skipu rfl rfl rfl rfl ?_); simp only [putL, List.set_cons_zero, List.set_cons_succ]) | refine Goes.yes rfl ?_ | refine Goes.no rfl ?_ | refine Goes.drawR [] (by kernel_rfl) ?_)
  cases m with
  | true =>
    simp only at hq
    repeat (first | refine Goes.reg ?_ | refine Goes.ctl2 rfl ?_ | ((first | refine qv1 rfl rfl rfl fun K hK => ?_ | refine qv3 rfl rfl rfl fun K hK => ?_ | refine qv2 rfl rfl rfl rfl rfl rfl fun K hK => ?_ | refine qv4 rfl rfl rfl rfl rfl rfl fun K hK => ?_ | refine qn1 rfl rfl rfl fun K hK => ?_ | refine qn3 rfl rfl rfl fun K hK => ?_ | refine qt1 rfl rfl rfl fun K hK => ?_ | refine qt3 rfl rfl rfl fun K hK => ?_); simp (disch := (first | omega | (simp only [sz] <;> omega) | fail)) only [go_sem, hq]; with_reducible refine hK _ _ ?_; clear hK K) | refine At.nil rfl ?_ | refine RG.nil rfl ?_ | ((first | refine AtL.skipg rfl rfl rfl rfl rfl ?_ | refine RGL.skipg rfl rfl rfl rfl rfl ?_ | refine AtL.skipu rfl rfl rfl rfl ?_ | refine RGL.skipu rfl rfl rfl rfl ?_); simp only [putL, List.set_cons_zero, List.set_cons_succ]) | refine Goes.yes rfl ?_ | refine Goes.no rfl ?_ | refine Goes.drawR [] (by kernel_rfl) ?_)
    refine Goes.fin rfl (by simp (disch := (first | omega | (simp only [heapL_next, List.length_cons, List.length_nil, List.size_toArray, geo_len] <;> omega) | fail)) only [go_sem, resA, res1A, Try.results54] <;> rfl) ?_
    rfl
  | false =>
    simp only at hq
    repeat (first | refine Goes.reg ?_ | refine Goes.ctl2 rfl ?_ | ((first | refine qv1 rfl rfl rfl fun K hK => ?_ | refine qv3 rfl rfl rfl fun K hK => ?_ | refine qv2 rfl rfl rfl rfl rfl rfl fun K hK => ?_ | refine qv4 rfl rfl rfl rfl rfl rfl fun K hK => ?_ | refine qn1 rfl rfl rfl fun K hK => ?_ | refine qn3 rfl rfl rfl fun K hK => ?_ | refine qt1 rfl rfl rfl fun K hK => ?_ | refine qt3 rfl rfl rfl fun K hK => ?_); simp (disch := (first | omega | (simp only [sz] <;> omega) | fail)) only [go_sem, hq]; with_reducible refine hK _ _ ?_; clear hK K) | refine At.nil rfl ?_ | refine RG.nil rfl ?_ | ((first | refine AtL.skipg rfl rfl rfl rfl rfl ?_ | refine RGL.skipg rfl rfl rfl rfl rfl ?_ | refine AtL.skipu rfl rfl rfl rfl ?_ | refine RGL.skipu rfl rfl rfl rfl ?_); simp only [putL, List.set_cons_zero, List.set_cons_succ]) | refine Goes.yes rfl ?_ | refine Goes.no rfl ?_ | refine Goes.drawR [] (by kernel_rfl) ?_)
    refine Goes.fin rfl (by simp (disch := (first | omega | (simp only [heapL_next, List.length_cons, List.length_nil, List.size_toArray, geo_len] <;> omega) | fail)) only [go_sem, resA, res1A, Try.results54] <;> rfl) ?_
    rfl
theorem rWord_does (S : St) (i : Nat) (m : Bool) (v : Nat) (hi : i < 16777216) (hv : v < 4294967296) :
    Does OF 54 #[refV i m v] [] S (.int .u64 (rN i m v : Int)) S := by
  refine rWord_aux S i m v _ hi hv ?_
  cases m with
  | true => show orZ .u64 ((i + v * 2 ^ 32 : Nat) : Int) 16777216 = _; rw [or_bit hi hv, rN_t, mN_t]
  | false => show ((i + v * 2 ^ 32 : Nat) : Int) = _; rw [rN_f, mN_f, Nat.add_zero]
def bB (x : Nat) : Bool := Nat.beq x 1
set_option maxHeartbeats 1000000 in
theorem refOf_does (S : St) (x : UInt64) :
    Does OF 43 #[.int .u64 (x.toNat : Int)] [] S (refV (x.toNat / 2 ^ 0 % 2 ^ 24) (bB (x.toNat / 2 ^ 24 % 2 ^ 1)) (x.toNat / 2 ^ 32 % 2 ^ 32)) S := by
  refine Does.mk Try.func43 rfl rfl ?clo ?hand ?_
  case clo => exact clo1 iclo
  case hand => exact Hand.plain (refV_plain _ _ _)
  rw [Try.ntmps43]; simp only [List.size_toArray, List.length_cons, List.length_nil, List.replicate, List.cons_append, List.nil_append]
  have e1 : (((x.toNat / 2 ^ 24 % 2 ^ 1 : Nat) : Int) == 1) = bB (x.toNat / 2 ^ 24 % 2 ^ 1) := by
    rw [Bool.eq_iff_iff, beq_iff_eq]
    unfold bB
    rw [Nat.beq_eq]
    omega
  repeat (first | refine Goes.reg ?_ | refine Goes.ctl2 rfl ?_ | ((first | refine qv1 rfl rfl rfl fun K hK => ?_ | refine qv3 rfl rfl rfl fun K hK => ?_ | refine qv2 rfl rfl rfl rfl rfl rfl fun K hK => ?_ | refine qv4 rfl rfl rfl rfl rfl rfl fun K hK => ?_ | refine qn1 rfl rfl rfl fun K hK => ?_ | refine qn3 rfl rfl rfl fun K hK => ?_ | refine qt1 rfl rfl rfl fun K hK => ?_ | refine qt3 rfl rfl rfl fun K hK => ?_); simp (disch := (first | omega | (simp only [sz] <;> omega) | fail)) only [go_sem]; with_reducible refine hK _ _ ?_; clear hK K) | refine At.nil rfl ?_ | refine RG.nil rfl ?_ | ((first | refine AtL.skipg rfl rfl rfl rfl rfl ?_ | refine RGL.skipg rfl rfl rfl rfl rfl ?_ | refine AtL.skipu rfl rfl rfl rfl ?_ | refine RGL.skipu rfl rfl rfl rfl ?_); simp only [putL, List.set_cons_zero, List.set_cons_succ]) | refine Goes.yes rfl ?_ | refine Goes.no rfl ?_ | refine Goes.drawR [] (by kernel_rfl) ?_)
  ((first | refine qc1 rfl rfl fun K hK => ?_ | refine qc3 rfl rfl fun K hK => ?_); simp (disch := (first | omega | (simp only [sz] <;> omega) | fail)) only [go_sem]; refine ⟨_, _, of_int _ x 0 24 (by decide) (by decide), ?_⟩; (try simp only [go_sem]); with_reducible refine hK _ _ ?_; clear hK K)
  repeat (first | refine Goes.reg ?_ | refine Goes.ctl2 rfl ?_ | ((first | refine qv1 rfl rfl rfl fun K hK => ?_ | refine qv3 rfl rfl rfl fun K hK => ?_ | refine qv2 rfl rfl rfl rfl rfl rfl fun K hK => ?_ | refine qv4 rfl rfl rfl rfl rfl rfl fun K hK => ?_ | refine qn1 rfl rfl rfl fun K hK => ?_ | refine qn3 rfl rfl rfl fun K hK => ?_ | refine qt1 rfl rfl rfl fun K hK => ?_ | refine qt3 rfl rfl rfl fun K hK => ?_); simp (disch := (first | omega | (simp only [sz] <;> omega) | fail)) only [go_sem]; with_reducible refine hK _ _ ?_; clear hK K) | refine At.nil rfl ?_ | refine RG.nil rfl ?_ | ((first | refine AtL.skipg rfl rfl rfl rfl rfl ?_ | refine RGL.skipg rfl rfl rfl rfl rfl ?_ | refine AtL.skipu rfl rfl rfl rfl ?_ | refine RGL.skipu rfl rfl rfl rfl ?_); simp only [putL, List.set_cons_zero, List.set_cons_succ]) | refine Goes.yes rfl ?_ | refine Goes.no rfl ?_ | refine Goes.drawR [] (by kernel_rfl) ?_)
  ((first | refine qc1 rfl rfl fun K hK => ?_ | refine qc3 rfl rfl fun K hK => ?_); simp (disch := (first | omega | (simp only [sz] <;> omega) | fail)) only [go_sem]; refine ⟨_, _, of_int _ x 24 1 (by decide) (by decide), ?_⟩; (try simp only [go_sem]); with_reducible refine hK _ _ ?_; clear hK K)
  repeat (first | refine Goes.reg ?_ | refine Goes.ctl2 rfl ?_ | ((first | refine qv1 rfl rfl rfl fun K hK => ?_ | refine qv3 rfl rfl rfl fun K hK => ?_ | refine qv2 rfl rfl rfl rfl rfl rfl fun K hK => ?_ | refine qv4 rfl rfl rfl rfl rfl rfl fun K hK => ?_ | refine qn1 rfl rfl rfl fun K hK => ?_ | refine qn3 rfl rfl rfl fun K hK => ?_ | refine qt1 rfl rfl rfl fun K hK => ?_ | refine qt3 rfl rfl rfl fun K hK => ?_); simp (disch := (first | omega | (simp only [sz] <;> omega) | fail)) only [go_sem, e1]; with_reducible refine hK _ _ ?_; clear hK K) | refine At.nil rfl ?_ | refine RG.nil rfl ?_ | ((first | refine AtL.skipg rfl rfl rfl rfl rfl ?_ | refine RGL.skipg rfl rfl rfl rfl rfl ?_ | refine AtL.skipu rfl rfl rfl rfl ?_ | refine RGL.skipu rfl rfl rfl rfl ?_); simp only [putL, List.set_cons_zero, List.set_cons_succ]) | refine Goes.yes rfl ?_ | refine Goes.no rfl ?_ | refine Goes.drawR [] (by kernel_rfl) ?_)
  ((first | refine qc1 rfl rfl fun K hK => ?_ | refine qc3 rfl rfl fun K hK => ?_); simp (disch := (first | omega | (simp only [sz] <;> omega) | fail)) only [go_sem]; refine ⟨_, _, of_u32 _ x 32 32 (by decide) (by decide), ?_⟩; (try simp only [go_sem]); with_reducible refine hK _ _ ?_; clear hK K)
  repeat (first | refine Goes.reg ?_ | refine Goes.ctl2 rfl ?_ | ((first | refine qv1 rfl rfl rfl fun K hK => ?_ | refine qv3 rfl rfl rfl fun K hK => ?_ | refine qv2 rfl rfl rfl rfl rfl rfl fun K hK => ?_ | refine qv4 rfl rfl rfl rfl rfl rfl fun K hK => ?_ | refine qn1 rfl rfl rfl fun K hK => ?_ | refine qn3 rfl rfl rfl fun K hK => ?_ | refine qt1 rfl rfl rfl fun K hK => ?_ | refine qt3 rfl rfl rfl fun K hK => ?_); simp (disch := (first | omega | (simp only [sz] <;> omega) | fail)) only [go_sem]; with_reducible refine hK _ _ ?_; clear hK K) | refine At.nil rfl ?_ | refine RG.nil rfl ?_ | ((first | refine AtL.skipg rfl rfl rfl rfl rfl ?_ | refine RGL.skipg rfl rfl rfl rfl rfl ?_ | refine AtL.skipu rfl rfl rfl rfl ?_ | refine RGL.skipu rfl rfl rfl rfl ?_); simp only [putL, List.set_cons_zero, List.set_cons_succ]) | refine Goes.yes rfl ?_ | refine Goes.no rfl ?_ | refine Goes.drawR [] (by kernel_rfl) ?_)
  refine Goes.fin rfl (by simp (disch := (first | omega | (simp only [heapL_next, List.length_cons, List.length_nil, List.size_toArray, geo_len] <;> omega) | fail)) only [go_sem, resA, res1A, Try.results43] <;> rfl) ?_
  rfl
def pgV (k n c o : Nat) : Value := .agg #[.int .i64 k, .int .i64 n, .int .i64 c, .int .i64 o]
theorem pgV_plain (k n c o : Nat) : plainB (pgV k n c o) = true := by simp [pgV, plainB]
def pgN (k n c o : Nat) : Nat := k + n * 2 ^ 3 + c * 2 ^ 13 + o * 2 ^ 16
set_option maxHeartbeats 1000000 in
theorem pgWord_does (S : St) (k n c o : Nat) (hk : k < 8) (hn : n < 1024) (hc : c < 4) (ho : o < 128) :
    Does OF 120 #[pgV k n c o] [] S (.int .u64 (pgN k n c o : Int)) S := by
  refine Does.mk Try.func120 rfl rfl ?clo ?hand ?_
  case clo => exact clo1 (Clo.plain (pgV_plain k n c o))
  case hand => exact Hand.plain rfl
  rw [Try.ntmps120]; simp only [List.size_toArray, List.length_cons, List.length_nil, List.replicate, List.cons_append, List.nil_append]
  unfold pgV
  repeat (first | refine Goes.reg ?_ | refine Goes.ctl2 rfl ?_ | ((first | refine qv1 rfl rfl rfl fun K hK => ?_ | refine qv3 rfl rfl rfl fun K hK => ?_ | refine qv2 rfl rfl rfl rfl rfl rfl fun K hK => ?_ | refine qv4 rfl rfl rfl rfl rfl rfl fun K hK => ?_ | refine qn1 rfl rfl rfl fun K hK => ?_ | refine qn3 rfl rfl rfl fun K hK => ?_ | refine qt1 rfl rfl rfl fun K hK => ?_ | refine qt3 rfl rfl rfl fun K hK => ?_); simp (disch := (first | omega | (simp only [sz] <;> omega) | fail)) only [go_sem]; with_reducible refine hK _ _ ?_; clear hK K) | refine At.nil rfl ?_ | refine RG.nil rfl ?_ | ((first | refine AtL.skipg rfl rfl rfl rfl rfl ?_ | refine RGL.skipg rfl rfl rfl rfl rfl ?_ | refine AtL.skipu rfl rfl rfl rfl ?_ | refine RGL.skipu rfl rfl rfl rfl ?_); simp only [putL, List.set_cons_zero, List.set_cons_succ]) | refine Goes.yes rfl ?_ | refine Goes.no rfl ?_ | refine Goes.drawR [] (by kernel_rfl) ?_)
  ((first | refine qc1 rfl rfl fun K hK => ?_ | refine qc3 rfl rfl fun K hK => ?_); simp (disch := (first | omega | (simp only [sz] <;> omega) | fail)) only [go_sem]; refine ⟨_, _, field_int _ k 0 3 (by omega) (by decide) (by decide) (by decide), ?_⟩; (try simp only [go_sem]); with_reducible refine hK _ _ ?_; clear hK K)
  rw [show k % 2 ^ 3 * 2 ^ 0 = k by omega]
  repeat (first | refine Goes.reg ?_ | refine Goes.ctl2 rfl ?_ | ((first | refine qv1 rfl rfl rfl fun K hK => ?_ | refine qv3 rfl rfl rfl fun K hK => ?_ | refine qv2 rfl rfl rfl rfl rfl rfl fun K hK => ?_ | refine qv4 rfl rfl rfl rfl rfl rfl fun K hK => ?_ | refine qn1 rfl rfl rfl fun K hK => ?_ | refine qn3 rfl rfl rfl fun K hK => ?_ | refine qt1 rfl rfl rfl fun K hK => ?_ | refine qt3 rfl rfl rfl fun K hK => ?_); simp (disch := (first | omega | (simp only [sz] <;> omega) | fail)) only [go_sem]; with_reducible refine hK _ _ ?_; clear hK K) | refine At.nil rfl ?_ | refine RG.nil rfl ?_ | ((first | refine AtL.skipg rfl rfl rfl rfl rfl ?_ | refine RGL.skipg rfl rfl rfl rfl rfl ?_ | refine AtL.skipu rfl rfl rfl rfl ?_ | refine RGL.skipu rfl rfl rfl rfl ?_); simp only [putL, List.set_cons_zero, List.set_cons_succ]) | refine Goes.yes rfl ?_ | refine Goes.no rfl ?_ | refine Goes.drawR [] (by kernel_rfl) ?_)
  ((first | refine qc1 rfl rfl fun K hK => ?_ | refine qc3 rfl rfl fun K hK => ?_); simp (disch := (first | omega | (simp only [sz] <;> omega) | fail)) only [go_sem]; refine ⟨_, _, field_int _ n 3 10 (by omega) (by decide) (by decide) (by decide), ?_⟩; (try simp only [go_sem]); with_reducible refine hK _ _ ?_; clear hK K)
  rw [show n % 2 ^ 10 * 2 ^ 3 = n * 2 ^ 3 by omega]
  have e1 := or_add (a := n) (b := k) (i := 3) (by omega) (by omega)
  repeat (first | refine Goes.reg ?_ | refine Goes.ctl2 rfl ?_ | ((first | refine qv1 rfl rfl rfl fun K hK => ?_ | refine qv3 rfl rfl rfl fun K hK => ?_ | refine qv2 rfl rfl rfl rfl rfl rfl fun K hK => ?_ | refine qv4 rfl rfl rfl rfl rfl rfl fun K hK => ?_ | refine qn1 rfl rfl rfl fun K hK => ?_ | refine qn3 rfl rfl rfl fun K hK => ?_ | refine qt1 rfl rfl rfl fun K hK => ?_ | refine qt3 rfl rfl rfl fun K hK => ?_); simp (disch := (first | omega | (simp only [sz] <;> omega) | fail)) only [go_sem, e1]; with_reducible refine hK _ _ ?_; clear hK K) | refine At.nil rfl ?_ | refine RG.nil rfl ?_ | ((first | refine AtL.skipg rfl rfl rfl rfl rfl ?_ | refine RGL.skipg rfl rfl rfl rfl rfl ?_ | refine AtL.skipu rfl rfl rfl rfl ?_ | refine RGL.skipu rfl rfl rfl rfl ?_); simp only [putL, List.set_cons_zero, List.set_cons_succ]) | refine Goes.yes rfl ?_ | refine Goes.no rfl ?_ | refine Goes.drawR [] (by kernel_rfl) ?_)
  ((first | refine qc1 rfl rfl fun K hK => ?_ | refine qc3 rfl rfl fun K hK => ?_); simp (disch := (first | omega | (simp only [sz] <;> omega) | fail)) only [go_sem]; refine ⟨_, _, field_int _ c 13 2 (by omega) (by decide) (by decide) (by decide), ?_⟩; (try simp only [go_sem]); with_reducible refine hK _ _ ?_; clear hK K)
  rw [show c % 2 ^ 2 * 2 ^ 13 = c * 2 ^ 13 by omega]
  have e2 := or_add (a := c) (b := k + n * 2 ^ 3) (i := 13) (by omega) (by omega)
  repeat (first | refine Goes.reg ?_ | refine Goes.ctl2 rfl ?_ | ((first | refine qv1 rfl rfl rfl fun K hK => ?_ | refine qv3 rfl rfl rfl fun K hK => ?_ | refine qv2 rfl rfl rfl rfl rfl rfl fun K hK => ?_ | refine qv4 rfl rfl rfl rfl rfl rfl fun K hK => ?_ | refine qn1 rfl rfl rfl fun K hK => ?_ | refine qn3 rfl rfl rfl fun K hK => ?_ | refine qt1 rfl rfl rfl fun K hK => ?_ | refine qt3 rfl rfl rfl fun K hK => ?_); simp (disch := (first | omega | (simp only [sz] <;> omega) | fail)) only [go_sem, e2]; with_reducible refine hK _ _ ?_; clear hK K) | refine At.nil rfl ?_ | refine RG.nil rfl ?_ | ((first | refine AtL.skipg rfl rfl rfl rfl rfl ?_ | refine RGL.skipg rfl rfl rfl rfl rfl ?_ | refine AtL.skipu rfl rfl rfl rfl ?_ | refine RGL.skipu rfl rfl rfl rfl ?_); simp only [putL, List.set_cons_zero, List.set_cons_succ]) | refine Goes.yes rfl ?_ | refine Goes.no rfl ?_ | refine Goes.drawR [] (by kernel_rfl) ?_)
  ((first | refine qc1 rfl rfl fun K hK => ?_ | refine qc3 rfl rfl fun K hK => ?_); simp (disch := (first | omega | (simp only [sz] <;> omega) | fail)) only [go_sem]; refine ⟨_, _, field_int _ o 16 7 (by omega) (by decide) (by decide) (by decide), ?_⟩; (try simp only [go_sem]); with_reducible refine hK _ _ ?_; clear hK K)
  rw [show o % 2 ^ 7 * 2 ^ 16 = o * 2 ^ 16 by omega]
  have e3 := or_add (a := o) (b := k + n * 2 ^ 3 + c * 2 ^ 13) (i := 16) (by omega) (by omega)
  repeat (first | refine Goes.reg ?_ | refine Goes.ctl2 rfl ?_ | ((first | refine qv1 rfl rfl rfl fun K hK => ?_ | refine qv3 rfl rfl rfl fun K hK => ?_ | refine qv2 rfl rfl rfl rfl rfl rfl fun K hK => ?_ | refine qv4 rfl rfl rfl rfl rfl rfl fun K hK => ?_ | refine qn1 rfl rfl rfl fun K hK => ?_ | refine qn3 rfl rfl rfl fun K hK => ?_ | refine qt1 rfl rfl rfl fun K hK => ?_ | refine qt3 rfl rfl rfl fun K hK => ?_); simp (disch := (first | omega | (simp only [sz] <;> omega) | fail)) only [go_sem, e3]; with_reducible refine hK _ _ ?_; clear hK K) | refine At.nil rfl ?_ | refine RG.nil rfl ?_ | ((first | refine AtL.skipg rfl rfl rfl rfl rfl ?_ | refine RGL.skipg rfl rfl rfl rfl rfl ?_ | refine AtL.skipu rfl rfl rfl rfl ?_ | refine RGL.skipu rfl rfl rfl rfl ?_); simp only [putL, List.set_cons_zero, List.set_cons_succ]) | refine Goes.yes rfl ?_ | refine Goes.no rfl ?_ | refine Goes.drawR [] (by kernel_rfl) ?_)
  refine Goes.fin rfl (by simp (disch := (first | omega | (simp only [heapL_next, List.length_cons, List.length_nil, List.size_toArray, geo_len] <;> omega) | fail)) only [go_sem, resA, res1A, Try.results120] <;> rfl) ?_
  rfl
set_option maxHeartbeats 1000000 in
theorem pageOf_does (S : St) (x : UInt64) :
    Does OF 65 #[.int .u64 (x.toNat : Int)] [] S (pgV (x.toNat / 2 ^ 0 % 2 ^ 3) (x.toNat / 2 ^ 3 % 2 ^ 10) (x.toNat / 2 ^ 13 % 2 ^ 2) (x.toNat / 2 ^ 16 % 2 ^ 7)) S := by
  refine Does.mk Try.func65 rfl rfl ?clo ?hand ?_
  case clo => exact clo1 iclo
  case hand => exact Hand.plain (pgV_plain _ _ _ _)
  rw [Try.ntmps65]; simp only [List.size_toArray, List.length_cons, List.length_nil, List.replicate, List.cons_append, List.nil_append]
  repeat (first | refine Goes.reg ?_ | refine Goes.ctl2 rfl ?_ | ((first | refine qv1 rfl rfl rfl fun K hK => ?_ | refine qv3 rfl rfl rfl fun K hK => ?_ | refine qv2 rfl rfl rfl rfl rfl rfl fun K hK => ?_ | refine qv4 rfl rfl rfl rfl rfl rfl fun K hK => ?_ | refine qn1 rfl rfl rfl fun K hK => ?_ | refine qn3 rfl rfl rfl fun K hK => ?_ | refine qt1 rfl rfl rfl fun K hK => ?_ | refine qt3 rfl rfl rfl fun K hK => ?_); simp (disch := (first | omega | (simp only [sz] <;> omega) | fail)) only [go_sem]; with_reducible refine hK _ _ ?_; clear hK K) | refine At.nil rfl ?_ | refine RG.nil rfl ?_ | ((first | refine AtL.skipg rfl rfl rfl rfl rfl ?_ | refine RGL.skipg rfl rfl rfl rfl rfl ?_ | refine AtL.skipu rfl rfl rfl rfl ?_ | refine RGL.skipu rfl rfl rfl rfl ?_); simp only [putL, List.set_cons_zero, List.set_cons_succ]) | refine Goes.yes rfl ?_ | refine Goes.no rfl ?_ | refine Goes.drawR [] (by kernel_rfl) ?_)
  ((first | refine qc1 rfl rfl fun K hK => ?_ | refine qc3 rfl rfl fun K hK => ?_); simp (disch := (first | omega | (simp only [sz] <;> omega) | fail)) only [go_sem]; refine ⟨_, _, of_int _ x 0 3 (by decide) (by decide), ?_⟩; (try simp only [go_sem]); with_reducible refine hK _ _ ?_; clear hK K)
  repeat (first | refine Goes.reg ?_ | refine Goes.ctl2 rfl ?_ | ((first | refine qv1 rfl rfl rfl fun K hK => ?_ | refine qv3 rfl rfl rfl fun K hK => ?_ | refine qv2 rfl rfl rfl rfl rfl rfl fun K hK => ?_ | refine qv4 rfl rfl rfl rfl rfl rfl fun K hK => ?_ | refine qn1 rfl rfl rfl fun K hK => ?_ | refine qn3 rfl rfl rfl fun K hK => ?_ | refine qt1 rfl rfl rfl fun K hK => ?_ | refine qt3 rfl rfl rfl fun K hK => ?_); simp (disch := (first | omega | (simp only [sz] <;> omega) | fail)) only [go_sem]; with_reducible refine hK _ _ ?_; clear hK K) | refine At.nil rfl ?_ | refine RG.nil rfl ?_ | ((first | refine AtL.skipg rfl rfl rfl rfl rfl ?_ | refine RGL.skipg rfl rfl rfl rfl rfl ?_ | refine AtL.skipu rfl rfl rfl rfl ?_ | refine RGL.skipu rfl rfl rfl rfl ?_); simp only [putL, List.set_cons_zero, List.set_cons_succ]) | refine Goes.yes rfl ?_ | refine Goes.no rfl ?_ | refine Goes.drawR [] (by kernel_rfl) ?_)
  ((first | refine qc1 rfl rfl fun K hK => ?_ | refine qc3 rfl rfl fun K hK => ?_); simp (disch := (first | omega | (simp only [sz] <;> omega) | fail)) only [go_sem]; refine ⟨_, _, of_int _ x 3 10 (by decide) (by decide), ?_⟩; (try simp only [go_sem]); with_reducible refine hK _ _ ?_; clear hK K)
  repeat (first | refine Goes.reg ?_ | refine Goes.ctl2 rfl ?_ | ((first | refine qv1 rfl rfl rfl fun K hK => ?_ | refine qv3 rfl rfl rfl fun K hK => ?_ | refine qv2 rfl rfl rfl rfl rfl rfl fun K hK => ?_ | refine qv4 rfl rfl rfl rfl rfl rfl fun K hK => ?_ | refine qn1 rfl rfl rfl fun K hK => ?_ | refine qn3 rfl rfl rfl fun K hK => ?_ | refine qt1 rfl rfl rfl fun K hK => ?_ | refine qt3 rfl rfl rfl fun K hK => ?_); simp (disch := (first | omega | (simp only [sz] <;> omega) | fail)) only [go_sem]; with_reducible refine hK _ _ ?_; clear hK K) | refine At.nil rfl ?_ | refine RG.nil rfl ?_ | ((first | refine AtL.skipg rfl rfl rfl rfl rfl ?_ | refine RGL.skipg rfl rfl rfl rfl rfl ?_ | refine AtL.skipu rfl rfl rfl rfl ?_ | refine RGL.skipu rfl rfl rfl rfl ?_); simp only [putL, List.set_cons_zero, List.set_cons_succ]) | refine Goes.yes rfl ?_ | refine Goes.no rfl ?_ | refine Goes.drawR [] (by kernel_rfl) ?_)
  ((first | refine qc1 rfl rfl fun K hK => ?_ | refine qc3 rfl rfl fun K hK => ?_); simp (disch := (first | omega | (simp only [sz] <;> omega) | fail)) only [go_sem]; refine ⟨_, _, of_int _ x 13 2 (by decide) (by decide), ?_⟩; (try simp only [go_sem]); with_reducible refine hK _ _ ?_; clear hK K)
  repeat (first | refine Goes.reg ?_ | refine Goes.ctl2 rfl ?_ | ((first | refine qv1 rfl rfl rfl fun K hK => ?_ | refine qv3 rfl rfl rfl fun K hK => ?_ | refine qv2 rfl rfl rfl rfl rfl rfl fun K hK => ?_ | refine qv4 rfl rfl rfl rfl rfl rfl fun K hK => ?_ | refine qn1 rfl rfl rfl fun K hK => ?_ | refine qn3 rfl rfl rfl fun K hK => ?_ | refine qt1 rfl rfl rfl fun K hK => ?_ | refine qt3 rfl rfl rfl fun K hK => ?_); simp (disch := (first | omega | (simp only [sz] <;> omega) | fail)) only [go_sem]; with_reducible refine hK _ _ ?_; clear hK K) | refine At.nil rfl ?_ | refine RG.nil rfl ?_ | ((first | refine AtL.skipg rfl rfl rfl rfl rfl ?_ | refine RGL.skipg rfl rfl rfl rfl rfl ?_ | refine AtL.skipu rfl rfl rfl rfl ?_ | refine RGL.skipu rfl rfl rfl rfl ?_); simp only [putL, List.set_cons_zero, List.set_cons_succ]) | refine Goes.yes rfl ?_ | refine Goes.no rfl ?_ | refine Goes.drawR [] (by kernel_rfl) ?_)
  ((first | refine qc1 rfl rfl fun K hK => ?_ | refine qc3 rfl rfl fun K hK => ?_); simp (disch := (first | omega | (simp only [sz] <;> omega) | fail)) only [go_sem]; refine ⟨_, _, of_int _ x 16 7 (by decide) (by decide), ?_⟩; (try simp only [go_sem]); with_reducible refine hK _ _ ?_; clear hK K)
  repeat (first | refine Goes.reg ?_ | refine Goes.ctl2 rfl ?_ | ((first | refine qv1 rfl rfl rfl fun K hK => ?_ | refine qv3 rfl rfl rfl fun K hK => ?_ | refine qv2 rfl rfl rfl rfl rfl rfl fun K hK => ?_ | refine qv4 rfl rfl rfl rfl rfl rfl fun K hK => ?_ | refine qn1 rfl rfl rfl fun K hK => ?_ | refine qn3 rfl rfl rfl fun K hK => ?_ | refine qt1 rfl rfl rfl fun K hK => ?_ | refine qt3 rfl rfl rfl fun K hK => ?_); simp (disch := (first | omega | (simp only [sz] <;> omega) | fail)) only [go_sem]; with_reducible refine hK _ _ ?_; clear hK K) | refine At.nil rfl ?_ | refine RG.nil rfl ?_ | ((first | refine AtL.skipg rfl rfl rfl rfl rfl ?_ | refine RGL.skipg rfl rfl rfl rfl rfl ?_ | refine AtL.skipu rfl rfl rfl rfl ?_ | refine RGL.skipu rfl rfl rfl rfl ?_); simp only [putL, List.set_cons_zero, List.set_cons_succ]) | refine Goes.yes rfl ?_ | refine Goes.no rfl ?_ | refine Goes.drawR [] (by kernel_rfl) ?_)
  refine Goes.fin rfl (by simp (disch := (first | omega | (simp only [heapL_next, List.length_cons, List.length_nil, List.size_toArray, geo_len] <;> omega) | fail)) only [go_sem, resA, res1A, Try.results65] <;> rfl) ?_
  rfl
theorem gHead_does (S : St) (N T : Nat) (a b : Int) (hN : N ≤ 256) (hT : T ≤ 64) (hb : b ≤ 9223372036854775807) :
    Does OF 53 #[.agg (geoC N T), .int .i64 a, .int .i64 b] [] S (.int .i64 (gat N T 13 (gin a b 4))) S := by
  refine Does.mk Try.func53 rfl rfl ?clo ?hand ?_
  case clo => exact clo3 gclo iclo iclo
  case hand => exact Hand.plain rfl
  rw [Try.ntmps53]; simp only [List.size_toArray, List.length_cons, List.length_nil, List.replicate, List.cons_append, List.nil_append]
  repeat (first | refine Goes.reg ?_ | refine Goes.ctl2 rfl ?_ | ((first | refine qv1 rfl rfl rfl fun K hK => ?_ | refine qv3 rfl rfl rfl fun K hK => ?_ | refine qv2 rfl rfl rfl rfl rfl rfl fun K hK => ?_ | refine qv4 rfl rfl rfl rfl rfl rfl fun K hK => ?_ | refine qn1 rfl rfl rfl fun K hK => ?_ | refine qn3 rfl rfl rfl fun K hK => ?_ | refine qt1 rfl rfl rfl fun K hK => ?_ | refine qt3 rfl rfl rfl fun K hK => ?_); simp (disch := (first | omega | (simp only [sz] <;> omega) | fail)) only [go_sem]; with_reducible refine hK _ _ ?_; clear hK K) | refine At.nil rfl ?_ | refine RG.nil rfl ?_ | ((first | refine AtL.skipg rfl rfl rfl rfl rfl ?_ | refine RGL.skipg rfl rfl rfl rfl rfl ?_ | refine AtL.skipu rfl rfl rfl rfl ?_ | refine RGL.skipu rfl rfl rfl rfl ?_); simp only [putL, List.set_cons_zero, List.set_cons_succ]) | refine Goes.yes rfl ?_ | refine Goes.no rfl ?_ | refine Goes.drawR [] (by kernel_rfl) ?_)
  ((first | refine qp1 rfl rfl fun K hK => ?_ | refine qp3 rfl rfl fun K hK => ?_); simp (disch := (first | omega | (simp only [sz] <;> omega) | fail)) only [go_sem]; refine ⟨_, _, qpu fun w => in_any a b 4 w hb (by omega) (by omega), ?_⟩; (try simp only [go_sem]); with_reducible refine hK _ _ ?_; clear hK K)
  repeat (first | refine Goes.reg ?_ | refine Goes.ctl2 rfl ?_ | ((first | refine qv1 rfl rfl rfl fun K hK => ?_ | refine qv3 rfl rfl rfl fun K hK => ?_ | refine qv2 rfl rfl rfl rfl rfl rfl fun K hK => ?_ | refine qv4 rfl rfl rfl rfl rfl rfl fun K hK => ?_ | refine qn1 rfl rfl rfl fun K hK => ?_ | refine qn3 rfl rfl rfl fun K hK => ?_ | refine qt1 rfl rfl rfl fun K hK => ?_ | refine qt3 rfl rfl rfl fun K hK => ?_); simp (disch := (first | omega | (simp only [sz] <;> omega) | fail)) only [go_sem]; with_reducible refine hK _ _ ?_; clear hK K) | refine At.nil rfl ?_ | refine RG.nil rfl ?_ | ((first | refine AtL.skipg rfl rfl rfl rfl rfl ?_ | refine RGL.skipg rfl rfl rfl rfl rfl ?_ | refine AtL.skipu rfl rfl rfl rfl ?_ | refine RGL.skipu rfl rfl rfl rfl ?_); simp only [putL, List.set_cons_zero, List.set_cons_succ]) | refine Goes.yes rfl ?_ | refine Goes.no rfl ?_ | refine Goes.drawR [] (by kernel_rfl) ?_)
  ((first | refine qp1 rfl rfl fun K hK => ?_ | refine qp3 rfl rfl fun K hK => ?_); simp (disch := (first | omega | (simp only [sz] <;> omega) | fail)) only [go_sem]; refine ⟨_, _, qpu fun w => at_any N T 13 13 (gin a b 4) w rfl (by omega) hN hT, ?_⟩; (try simp only [go_sem]); with_reducible refine hK _ _ ?_; clear hK K)
  repeat (first | refine Goes.reg ?_ | refine Goes.ctl2 rfl ?_ | ((first | refine qv1 rfl rfl rfl fun K hK => ?_ | refine qv3 rfl rfl rfl fun K hK => ?_ | refine qv2 rfl rfl rfl rfl rfl rfl fun K hK => ?_ | refine qv4 rfl rfl rfl rfl rfl rfl fun K hK => ?_ | refine qn1 rfl rfl rfl fun K hK => ?_ | refine qn3 rfl rfl rfl fun K hK => ?_ | refine qt1 rfl rfl rfl fun K hK => ?_ | refine qt3 rfl rfl rfl fun K hK => ?_); simp (disch := (first | omega | (simp only [sz] <;> omega) | fail)) only [go_sem]; with_reducible refine hK _ _ ?_; clear hK K) | refine At.nil rfl ?_ | refine RG.nil rfl ?_ | ((first | refine AtL.skipg rfl rfl rfl rfl rfl ?_ | refine RGL.skipg rfl rfl rfl rfl rfl ?_ | refine AtL.skipu rfl rfl rfl rfl ?_ | refine RGL.skipu rfl rfl rfl rfl ?_); simp only [putL, List.set_cons_zero, List.set_cons_succ]) | refine Goes.yes rfl ?_ | refine Goes.no rfl ?_ | refine Goes.drawR [] (by kernel_rfl) ?_)
  refine Goes.fin rfl (by simp (disch := (first | omega | (simp only [heapL_next, List.length_cons, List.length_nil, List.size_toArray, geo_len] <;> omega) | fail)) only [go_sem, resA, res1A, Try.results53] <;> rfl) ?_
  rfl
theorem gHazard_does (S : St) (N T : Nat) (a b : Int) (hN : N ≤ 256) (hT : T ≤ 64) (hb : b ≤ 9223372036854775807) :
    Does OF 63 #[.agg (geoC N T), .int .i64 a, .int .i64 b] [] S (.int .i64 (gat N T 14 (gin a b 2))) S := by
  refine Does.mk Try.func63 rfl rfl ?clo ?hand ?_
  case clo => exact clo3 gclo iclo iclo
  case hand => exact Hand.plain rfl
  rw [Try.ntmps63]; simp only [List.size_toArray, List.length_cons, List.length_nil, List.replicate, List.cons_append, List.nil_append]
  repeat (first | refine Goes.reg ?_ | refine Goes.ctl2 rfl ?_ | ((first | refine qv1 rfl rfl rfl fun K hK => ?_ | refine qv3 rfl rfl rfl fun K hK => ?_ | refine qv2 rfl rfl rfl rfl rfl rfl fun K hK => ?_ | refine qv4 rfl rfl rfl rfl rfl rfl fun K hK => ?_ | refine qn1 rfl rfl rfl fun K hK => ?_ | refine qn3 rfl rfl rfl fun K hK => ?_ | refine qt1 rfl rfl rfl fun K hK => ?_ | refine qt3 rfl rfl rfl fun K hK => ?_); simp (disch := (first | omega | (simp only [sz] <;> omega) | fail)) only [go_sem]; with_reducible refine hK _ _ ?_; clear hK K) | refine At.nil rfl ?_ | refine RG.nil rfl ?_ | ((first | refine AtL.skipg rfl rfl rfl rfl rfl ?_ | refine RGL.skipg rfl rfl rfl rfl rfl ?_ | refine AtL.skipu rfl rfl rfl rfl ?_ | refine RGL.skipu rfl rfl rfl rfl ?_); simp only [putL, List.set_cons_zero, List.set_cons_succ]) | refine Goes.yes rfl ?_ | refine Goes.no rfl ?_ | refine Goes.drawR [] (by kernel_rfl) ?_)
  ((first | refine qp1 rfl rfl fun K hK => ?_ | refine qp3 rfl rfl fun K hK => ?_); simp (disch := (first | omega | (simp only [sz] <;> omega) | fail)) only [go_sem]; refine ⟨_, _, qpu fun w => in_any a b 2 w hb (by omega) (by omega), ?_⟩; (try simp only [go_sem]); with_reducible refine hK _ _ ?_; clear hK K)
  repeat (first | refine Goes.reg ?_ | refine Goes.ctl2 rfl ?_ | ((first | refine qv1 rfl rfl rfl fun K hK => ?_ | refine qv3 rfl rfl rfl fun K hK => ?_ | refine qv2 rfl rfl rfl rfl rfl rfl fun K hK => ?_ | refine qv4 rfl rfl rfl rfl rfl rfl fun K hK => ?_ | refine qn1 rfl rfl rfl fun K hK => ?_ | refine qn3 rfl rfl rfl fun K hK => ?_ | refine qt1 rfl rfl rfl fun K hK => ?_ | refine qt3 rfl rfl rfl fun K hK => ?_); simp (disch := (first | omega | (simp only [sz] <;> omega) | fail)) only [go_sem]; with_reducible refine hK _ _ ?_; clear hK K) | refine At.nil rfl ?_ | refine RG.nil rfl ?_ | ((first | refine AtL.skipg rfl rfl rfl rfl rfl ?_ | refine RGL.skipg rfl rfl rfl rfl rfl ?_ | refine AtL.skipu rfl rfl rfl rfl ?_ | refine RGL.skipu rfl rfl rfl rfl ?_); simp only [putL, List.set_cons_zero, List.set_cons_succ]) | refine Goes.yes rfl ?_ | refine Goes.no rfl ?_ | refine Goes.drawR [] (by kernel_rfl) ?_)
  ((first | refine qp1 rfl rfl fun K hK => ?_ | refine qp3 rfl rfl fun K hK => ?_); simp (disch := (first | omega | (simp only [sz] <;> omega) | fail)) only [go_sem]; refine ⟨_, _, qpu fun w => at_any N T 14 14 (gin a b 2) w rfl (by omega) hN hT, ?_⟩; (try simp only [go_sem]); with_reducible refine hK _ _ ?_; clear hK K)
  repeat (first | refine Goes.reg ?_ | refine Goes.ctl2 rfl ?_ | ((first | refine qv1 rfl rfl rfl fun K hK => ?_ | refine qv3 rfl rfl rfl fun K hK => ?_ | refine qv2 rfl rfl rfl rfl rfl rfl fun K hK => ?_ | refine qv4 rfl rfl rfl rfl rfl rfl fun K hK => ?_ | refine qn1 rfl rfl rfl fun K hK => ?_ | refine qn3 rfl rfl rfl fun K hK => ?_ | refine qt1 rfl rfl rfl fun K hK => ?_ | refine qt3 rfl rfl rfl fun K hK => ?_); simp (disch := (first | omega | (simp only [sz] <;> omega) | fail)) only [go_sem]; with_reducible refine hK _ _ ?_; clear hK K) | refine At.nil rfl ?_ | refine RG.nil rfl ?_ | ((first | refine AtL.skipg rfl rfl rfl rfl rfl ?_ | refine RGL.skipg rfl rfl rfl rfl rfl ?_ | refine AtL.skipu rfl rfl rfl rfl ?_ | refine RGL.skipu rfl rfl rfl rfl ?_); simp only [putL, List.set_cons_zero, List.set_cons_succ]) | refine Goes.yes rfl ?_ | refine Goes.no rfl ?_ | refine Goes.drawR [] (by kernel_rfl) ?_)
  refine Goes.fin rfl (by simp (disch := (first | omega | (simp only [heapL_next, List.length_cons, List.length_nil, List.size_toArray, geo_len] <;> omega) | fail)) only [go_sem, resA, res1A, Try.results63] <;> rfl) ?_
  rfl
theorem gRoom_does (S : St) (N T : Nat) (hT : T ≤ 64) :
    Does OF 89 #[.agg (geoC N T)] [] S (.int .i64 ((2 * T + 2 : Nat) : Int)) S := by
  refine Does.mk Try.func89 rfl rfl ?clo ?hand ?_
  case clo => exact clo1 gclo
  case hand => exact Hand.plain rfl
  rw [Try.ntmps89]; simp only [List.size_toArray, List.length_cons, List.length_nil, List.replicate, List.cons_append, List.nil_append]
  have e1 : IntKind.i64.wrap (2 * (T : Int)) = ((2 * T : Nat) : Int) := by rw [wrap_i64 (by omega) (by omega)]; push_cast; rfl
  have e2 : IntKind.i64.wrap (((2 * T : Nat) : Int) + 2) = ((2 * T + 2 : Nat) : Int) := by rw [wrap_i64 (by omega) (by omega)]; push_cast; rfl
  have e3 : (geoC N T).toList[1]? = some (.int .i64 T) := by have := geoC_1 N T; simpa using this
  repeat (first | refine Goes.reg ?_ | refine Goes.ctl2 rfl ?_ | ((first | refine qv1 rfl rfl rfl fun K hK => ?_ | refine qv3 rfl rfl rfl fun K hK => ?_ | refine qv2 rfl rfl rfl rfl rfl rfl fun K hK => ?_ | refine qv4 rfl rfl rfl rfl rfl rfl fun K hK => ?_ | refine qn1 rfl rfl rfl fun K hK => ?_ | refine qn3 rfl rfl rfl fun K hK => ?_ | refine qt1 rfl rfl rfl fun K hK => ?_ | refine qt3 rfl rfl rfl fun K hK => ?_); simp (disch := (first | omega | (simp only [sz] <;> omega) | fail)) only [go_sem, e1, e2, e3]; with_reducible refine hK _ _ ?_; clear hK K) | refine At.nil rfl ?_ | refine RG.nil rfl ?_ | ((first | refine AtL.skipg rfl rfl rfl rfl rfl ?_ | refine RGL.skipg rfl rfl rfl rfl rfl ?_ | refine AtL.skipu rfl rfl rfl rfl ?_ | refine RGL.skipu rfl rfl rfl rfl ?_); simp only [putL, List.set_cons_zero, List.set_cons_succ]) | refine Goes.yes rfl ?_ | refine Goes.no rfl ?_ | refine Goes.drawR [] (by kernel_rfl) ?_)
  refine Goes.fin rfl (by simp (disch := (first | omega | (simp only [heapL_next, List.length_cons, List.length_nil, List.size_toArray, geo_len] <;> omega) | fail)) only [go_sem, resA, res1A, Try.results89] <;> rfl) ?_
  rfl
theorem gRetired_does (S : St) (N T : Nat) (a b : Int) (hN : N ≤ 256) (hT : T ≤ 64) (hb : b ≤ 9223372036854775807) :
    Does OF 62 #[.agg (geoC N T), .int .i64 a, .int .i64 b] [] S (.int .i64 (gat N T 16 (gin a b ((2 * T + 2 : Nat) : Int)))) S := by
  refine Does.mk Try.func62 rfl rfl ?clo ?hand ?_
  case clo => exact clo3 gclo iclo iclo
  case hand => exact Hand.plain rfl
  rw [Try.ntmps62]; simp only [List.size_toArray, List.length_cons, List.length_nil, List.replicate, List.cons_append, List.nil_append]
  repeat (first | refine Goes.reg ?_ | refine Goes.ctl2 rfl ?_ | ((first | refine qv1 rfl rfl rfl fun K hK => ?_ | refine qv3 rfl rfl rfl fun K hK => ?_ | refine qv2 rfl rfl rfl rfl rfl rfl fun K hK => ?_ | refine qv4 rfl rfl rfl rfl rfl rfl fun K hK => ?_ | refine qn1 rfl rfl rfl fun K hK => ?_ | refine qn3 rfl rfl rfl fun K hK => ?_ | refine qt1 rfl rfl rfl fun K hK => ?_ | refine qt3 rfl rfl rfl fun K hK => ?_); simp (disch := (first | omega | (simp only [sz] <;> omega) | fail)) only [go_sem]; with_reducible refine hK _ _ ?_; clear hK K) | refine At.nil rfl ?_ | refine RG.nil rfl ?_ | ((first | refine AtL.skipg rfl rfl rfl rfl rfl ?_ | refine RGL.skipg rfl rfl rfl rfl rfl ?_ | refine AtL.skipu rfl rfl rfl rfl ?_ | refine RGL.skipu rfl rfl rfl rfl ?_); simp only [putL, List.set_cons_zero, List.set_cons_succ]) | refine Goes.yes rfl ?_ | refine Goes.no rfl ?_ | refine Goes.drawR [] (by kernel_rfl) ?_)
  ((first | refine qc1 rfl rfl fun K hK => ?_ | refine qc3 rfl rfl fun K hK => ?_); simp (disch := (first | omega | (simp only [sz] <;> omega) | fail)) only [go_sem]; refine ⟨_, _, gRoom_does S N T hT, ?_⟩; (try simp only [go_sem]); with_reducible refine hK _ _ ?_; clear hK K)
  repeat (first | refine Goes.reg ?_ | refine Goes.ctl2 rfl ?_ | ((first | refine qv1 rfl rfl rfl fun K hK => ?_ | refine qv3 rfl rfl rfl fun K hK => ?_ | refine qv2 rfl rfl rfl rfl rfl rfl fun K hK => ?_ | refine qv4 rfl rfl rfl rfl rfl rfl fun K hK => ?_ | refine qn1 rfl rfl rfl fun K hK => ?_ | refine qn3 rfl rfl rfl fun K hK => ?_ | refine qt1 rfl rfl rfl fun K hK => ?_ | refine qt3 rfl rfl rfl fun K hK => ?_); simp (disch := (first | omega | (simp only [sz] <;> omega) | fail)) only [go_sem]; with_reducible refine hK _ _ ?_; clear hK K) | refine At.nil rfl ?_ | refine RG.nil rfl ?_ | ((first | refine AtL.skipg rfl rfl rfl rfl rfl ?_ | refine RGL.skipg rfl rfl rfl rfl rfl ?_ | refine AtL.skipu rfl rfl rfl rfl ?_ | refine RGL.skipu rfl rfl rfl rfl ?_); simp only [putL, List.set_cons_zero, List.set_cons_succ]) | refine Goes.yes rfl ?_ | refine Goes.no rfl ?_ | refine Goes.drawR [] (by kernel_rfl) ?_)
  ((first | refine qp1 rfl rfl fun K hK => ?_ | refine qp3 rfl rfl fun K hK => ?_); simp (disch := (first | omega | (simp only [sz] <;> omega) | fail)) only [go_sem]; refine ⟨_, _, qpu fun w => in_any a b ((2 * T + 2 : Nat) : Int) w hb (by omega) (by omega), ?_⟩; (try simp only [go_sem]); with_reducible refine hK _ _ ?_; clear hK K)
  repeat (first | refine Goes.reg ?_ | refine Goes.ctl2 rfl ?_ | ((first | refine qv1 rfl rfl rfl fun K hK => ?_ | refine qv3 rfl rfl rfl fun K hK => ?_ | refine qv2 rfl rfl rfl rfl rfl rfl fun K hK => ?_ | refine qv4 rfl rfl rfl rfl rfl rfl fun K hK => ?_ | refine qn1 rfl rfl rfl fun K hK => ?_ | refine qn3 rfl rfl rfl fun K hK => ?_ | refine qt1 rfl rfl rfl fun K hK => ?_ | refine qt3 rfl rfl rfl fun K hK => ?_); simp (disch := (first | omega | (simp only [sz] <;> omega) | fail)) only [go_sem]; with_reducible refine hK _ _ ?_; clear hK K) | refine At.nil rfl ?_ | refine RG.nil rfl ?_ | ((first | refine AtL.skipg rfl rfl rfl rfl rfl ?_ | refine RGL.skipg rfl rfl rfl rfl rfl ?_ | refine AtL.skipu rfl rfl rfl rfl ?_ | refine RGL.skipu rfl rfl rfl rfl ?_); simp only [putL, List.set_cons_zero, List.set_cons_succ]) | refine Goes.yes rfl ?_ | refine Goes.no rfl ?_ | refine Goes.drawR [] (by kernel_rfl) ?_)
  ((first | refine qp1 rfl rfl fun K hK => ?_ | refine qp3 rfl rfl fun K hK => ?_); simp (disch := (first | omega | (simp only [sz] <;> omega) | fail)) only [go_sem]; refine ⟨_, _, qpu fun w => at_any N T 16 16 (gin a b ((2 * T + 2 : Nat) : Int)) w rfl (by omega) hN hT, ?_⟩; (try simp only [go_sem]); with_reducible refine hK _ _ ?_; clear hK K)
  repeat (first | refine Goes.reg ?_ | refine Goes.ctl2 rfl ?_ | ((first | refine qv1 rfl rfl rfl fun K hK => ?_ | refine qv3 rfl rfl rfl fun K hK => ?_ | refine qv2 rfl rfl rfl rfl rfl rfl fun K hK => ?_ | refine qv4 rfl rfl rfl rfl rfl rfl fun K hK => ?_ | refine qn1 rfl rfl rfl fun K hK => ?_ | refine qn3 rfl rfl rfl fun K hK => ?_ | refine qt1 rfl rfl rfl fun K hK => ?_ | refine qt3 rfl rfl rfl fun K hK => ?_); simp (disch := (first | omega | (simp only [sz] <;> omega) | fail)) only [go_sem]; with_reducible refine hK _ _ ?_; clear hK K) | refine At.nil rfl ?_ | refine RG.nil rfl ?_ | ((first | refine AtL.skipg rfl rfl rfl rfl rfl ?_ | refine RGL.skipg rfl rfl rfl rfl rfl ?_ | refine AtL.skipu rfl rfl rfl rfl ?_ | refine RGL.skipu rfl rfl rfl rfl ?_); simp only [putL, List.set_cons_zero, List.set_cons_succ]) | refine Goes.yes rfl ?_ | refine Goes.no rfl ?_ | refine Goes.drawR [] (by kernel_rfl) ?_)
  refine Goes.fin rfl (by simp (disch := (first | omega | (simp only [heapL_next, List.length_cons, List.length_nil, List.size_toArray, geo_len] <;> omega) | fail)) only [go_sem, resA, res1A, Try.results62] <;> rfl) ?_
  rfl
theorem gNext_does (S : St) (N T : Nat) (a : Int) (hN : N ≤ 256) (hT : T ≤ 64) (h0 : -9223372036854775807 ≤ a) (h1 : a ≤ 9223372036854775807) :
    Does OF 110 #[.agg (geoC N T), .int .i64 a] [] S (.int .i64 (gat N T 17 (gin (a - 1) 0 1))) S := by
  refine Does.mk Try.func110 rfl rfl ?clo ?hand ?_
  case clo => exact clo2 gclo iclo
  case hand => exact Hand.plain rfl
  rw [Try.ntmps110]; simp only [List.size_toArray, List.length_cons, List.length_nil, List.replicate, List.cons_append, List.nil_append]
  have e1 : IntKind.i64.wrap (a - 1) = a - 1 := wrap_i64 (by omega) (by omega)
  repeat (first | refine Goes.reg ?_ | refine Goes.ctl2 rfl ?_ | ((first | refine qv1 rfl rfl rfl fun K hK => ?_ | refine qv3 rfl rfl rfl fun K hK => ?_ | refine qv2 rfl rfl rfl rfl rfl rfl fun K hK => ?_ | refine qv4 rfl rfl rfl rfl rfl rfl fun K hK => ?_ | refine qn1 rfl rfl rfl fun K hK => ?_ | refine qn3 rfl rfl rfl fun K hK => ?_ | refine qt1 rfl rfl rfl fun K hK => ?_ | refine qt3 rfl rfl rfl fun K hK => ?_); simp (disch := (first | omega | (simp only [sz] <;> omega) | fail)) only [go_sem, e1]; with_reducible refine hK _ _ ?_; clear hK K) | refine At.nil rfl ?_ | refine RG.nil rfl ?_ | ((first | refine AtL.skipg rfl rfl rfl rfl rfl ?_ | refine RGL.skipg rfl rfl rfl rfl rfl ?_ | refine AtL.skipu rfl rfl rfl rfl ?_ | refine RGL.skipu rfl rfl rfl rfl ?_); simp only [putL, List.set_cons_zero, List.set_cons_succ]) | refine Goes.yes rfl ?_ | refine Goes.no rfl ?_ | refine Goes.drawR [] (by kernel_rfl) ?_)
  ((first | refine qp1 rfl rfl fun K hK => ?_ | refine qp3 rfl rfl fun K hK => ?_); simp (disch := (first | omega | (simp only [sz] <;> omega) | fail)) only [go_sem]; refine ⟨_, _, qpu fun w => in_any (a - 1) 0 1 w (by omega) (by omega) (by omega), ?_⟩; (try simp only [go_sem]); with_reducible refine hK _ _ ?_; clear hK K)
  repeat (first | refine Goes.reg ?_ | refine Goes.ctl2 rfl ?_ | ((first | refine qv1 rfl rfl rfl fun K hK => ?_ | refine qv3 rfl rfl rfl fun K hK => ?_ | refine qv2 rfl rfl rfl rfl rfl rfl fun K hK => ?_ | refine qv4 rfl rfl rfl rfl rfl rfl fun K hK => ?_ | refine qn1 rfl rfl rfl fun K hK => ?_ | refine qn3 rfl rfl rfl fun K hK => ?_ | refine qt1 rfl rfl rfl fun K hK => ?_ | refine qt3 rfl rfl rfl fun K hK => ?_); simp (disch := (first | omega | (simp only [sz] <;> omega) | fail)) only [go_sem]; with_reducible refine hK _ _ ?_; clear hK K) | refine At.nil rfl ?_ | refine RG.nil rfl ?_ | ((first | refine AtL.skipg rfl rfl rfl rfl rfl ?_ | refine RGL.skipg rfl rfl rfl rfl rfl ?_ | refine AtL.skipu rfl rfl rfl rfl ?_ | refine RGL.skipu rfl rfl rfl rfl ?_); simp only [putL, List.set_cons_zero, List.set_cons_succ]) | refine Goes.yes rfl ?_ | refine Goes.no rfl ?_ | refine Goes.drawR [] (by kernel_rfl) ?_)
  ((first | refine qp1 rfl rfl fun K hK => ?_ | refine qp3 rfl rfl fun K hK => ?_); simp (disch := (first | omega | (simp only [sz] <;> omega) | fail)) only [go_sem]; refine ⟨_, _, qpu fun w => at_any N T 17 17 (gin (a - 1) 0 1) w rfl (by omega) hN hT, ?_⟩; (try simp only [go_sem]); with_reducible refine hK _ _ ?_; clear hK K)
  repeat (first | refine Goes.reg ?_ | refine Goes.ctl2 rfl ?_ | ((first | refine qv1 rfl rfl rfl fun K hK => ?_ | refine qv3 rfl rfl rfl fun K hK => ?_ | refine qv2 rfl rfl rfl rfl rfl rfl fun K hK => ?_ | refine qv4 rfl rfl rfl rfl rfl rfl fun K hK => ?_ | refine qn1 rfl rfl rfl fun K hK => ?_ | refine qn3 rfl rfl rfl fun K hK => ?_ | refine qt1 rfl rfl rfl fun K hK => ?_ | refine qt3 rfl rfl rfl fun K hK => ?_); simp (disch := (first | omega | (simp only [sz] <;> omega) | fail)) only [go_sem]; with_reducible refine hK _ _ ?_; clear hK K) | refine At.nil rfl ?_ | refine RG.nil rfl ?_ | ((first | refine AtL.skipg rfl rfl rfl rfl rfl ?_ | refine RGL.skipg rfl rfl rfl rfl rfl ?_ | refine AtL.skipu rfl rfl rfl rfl ?_ | refine RGL.skipu rfl rfl rfl rfl ?_); simp only [putL, List.set_cons_zero, List.set_cons_succ]) | refine Goes.yes rfl ?_ | refine Goes.no rfl ?_ | refine Goes.drawR [] (by kernel_rfl) ?_)
  refine Goes.fin rfl (by simp (disch := (first | omega | (simp only [heapL_next, List.length_cons, List.length_nil, List.size_toArray, geo_len] <;> omega) | fail)) only [go_sem, resA, res1A, Try.results110] <;> rfl) ?_
  rfl
end Go.Proofs.Ytceddijolfpppaa
namespace Go.Proofs.Ytceddijolfpppaa
open Go Go.RowKit
set_option linter.unusedSimpArgs false
set_option linter.unusedVariables false
def retI {P : Program} {σ : Type} {X : Face P σ} {κ : Type} (K : KF P X κ) (s : κ) (f : FuncId) (x : Nat) (y : Nat) (n : Nat) : Bool := match P.funcs[f]? with
  | some g => (match goB g, g.body with
    | true, some c => (match Nat.ble 1 g.ntmps && Nat.ble g.ntmps 4000000, goK K n g [.code c] (frameF (depN g.ntmps) g.ntmps [.int .i64 (.ofNat x)] 0 (manyT undef (depN g.ntmps))) [] s with
      | true, some (.int .i64 (.ofNat m), _, _) => Nat.beq m y
      | _, _ => false)
    | _, _ => false)
  | none => false
theorem retI_ok {f : FuncId} {x y n : Nat} (h : retI OK [] f x y n = true) (w : World) : Calls Try.prog f #[.int .i64 (x : Int)] w (Ret (.int .i64 (y : Int)) (Ext [] w)) := by
  unfold retI at h
  split at h
  · rename_i g hf
    split at h
    · rename_i c hg hb
      split at h
      · rename_i m rows s' hn hgo
        have hm := Nat.eq_of_beq_eq_true h
        subst hm
        simp only [Bool.and_eq_true] at hn
        have h1 := Nat.le_of_ble_eq_true hn.1
        have h2 := depN_le (Nat.le_of_ble_eq_true hn.2)
        obtain ⟨_, G⟩ := goK_ok OK n _ _ _ _ _ _ _ _ h2 (fun ob hob => by cases hob) hgo
        have f2 := frameF_ok h2 [.int .i64 (.ofNat x)] 0 (manyT undef (depN g.ntmps)) (by simpa using h1)
        rw [f2, absT_many undef h2] at G
        simp only [List.take_zero, List.nil_append, Nat.zero_add, List.drop_replicate] at G
        have I : AInv OF ⟨fun _ => 0, fun _ => 0, fun _ => 0⟩ w (fun _ => False) (Kn (heapL []).next (OF.cnt ([] : St))) (fun u => u ∈ (enterL g c #[.int .i64 (x : Int)]).2) (heapL []) ([] : St) w := by
          refine ⟨⟨fun n b hb => ?_, fun n m b _ hb _ _ hro => ?_⟩, ⟨fun k ob h => by simp at h, fun k ob h => by simp at h, fun k k' ob ob' _ h => by simp at h⟩, fun u hu => ?_, fun n b hb v hv => ?_, fun n b hb => ?_, fun n h1 h2 => ?_, fun n hn => ?_, Kept.refl _ _, fun n b hb hro _ => ?_, fun b hb _ => ?_, fun n b _ hf => ?_⟩
          · rw [heapL_get] at hb; simp at hb
          · rw [heapL_get] at hb; simp at hb
          · unfold enterL at hu
            rcases List.mem_append.1 hu with hu | hu
            · simp only [List.mem_cons, List.not_mem_nil, or_false] at hu
              subst hu
              exact Stab.plain rfl
            · rw [List.eq_of_mem_replicate hu]
              exact Stab.plain (by simp [undef, plainB])
          · rw [heapL_get] at hb; simp at hb
          · rw [heapL_get] at hb; simp at hb
          · have h2 : n < VB + 0 := h2
            omega
          · rcases hn with hn | ⟨hn, hn'⟩
            · rw [heapL_next] at hn
              simp at hn
            · exact hn'
          · rw [heapL_get] at hb; simp at hb
          · obtain ⟨k, ob, hk, _⟩ := hb
            simp at hk
          · obtain ⟨k, ob, hk, _⟩ := hf
            simp at hk
        have e1 : ((#[.int .i64 (x : Int)] : Array Value)).map (ren ⟨fun _ => 0, fun _ => 0, fun _ => 0⟩) = #[.int .i64 (x : Int)] := by simp
        have hG := G.simul
        rw [← e1]
        refine (calls_of_simul hf hb hG I (by rw [heapL_next]; unfold VB; simp)).mono ?_
        rintro e w' ⟨F', rfl, I', _⟩
        exact ⟨by simp, I'.kept.os, I'.kept.tape, I'.kept.output, I'.kept.size, fun b hb _ => I'.kept.block b hb (fun h => h)⟩
      · cases h
    · cases h
  · cases h
theorem Does.ex {f : FuncId} {g : Func} {c : Code} {args : Array Value} {l : List Blk} {S : St} {Q : Value → St → Prop} (hf : Try.prog.funcs[f]? = some g) (hg : goB g = true) (hb : g.body = some c) (hclo : ∀ u ∈ args.toList, Clo (Kn l.length (OF.cnt S)) u) (hv : ∀ v S', Q v S' → Hand (OF.cnt S') v)
    (hrun : Goes OF g (fun x => ∃ h1 v S', Q v S' ∧ x = .done v h1 S') (.run [.code c] (args.toList ++ List.replicate (g.ntmps - args.size) undef) (heapL (l.map some)) S)) : ∃ v S', Q v S' ∧ Does OF f args l S v S' := by
  obtain ⟨c', ⟨h1, v, S', hq, rfl⟩, G⟩ := hrun.out
  exact ⟨v, S', hq, g, c, h1, hf, hg, hb, hclo, hv v S' hq, G⟩
theorem Goes.finE {fn : Func} {todo : List Item} {tmps : List Value} {h : AHeap} {S : St} {Q : Value → St → Prop} {v : Value} (ht : retB todo = true) (hv : resA Try.prog fn tmps h = some v) (hS : Q v S) :
    Goes OF fn (fun x => ∃ h1 v S', Q v S' ∧ x = .done v h1 S') (.run todo tmps h S) := .ret ht hv (.here ⟨h, v, S, hS, rfl⟩)
theorem log_all : (List.range 256).all (fun i => retI OK [] 139 (Nat.succ i) (Nat.log2 (Nat.succ i)) 1000) = true := by kernel_rfl
theorem log_any (n : Nat) (w : World) (h1 : 1 ≤ n) (h2 : n ≤ 256) : Calls Try.prog 139 #[.int .i64 (n : Int)] w (Ret (.int .i64 ((n.log2 : Nat) : Int)) (Ext [] w)) := by
  obtain ⟨i, rfl⟩ : ∃ i, n = i + 1 := ⟨n - 1, by omega⟩
  have := List.all_eq_true.1 log_all i (List.mem_range.2 (by omega))
  exact retI_ok this w
end Go.Proofs.Ytceddijolfpppaa
