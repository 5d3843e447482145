/-
  DataWritten: the law over the abstract machine.
  No condition: 'for every input'.
-/
import Derived.Test.YtceddijolfpppaaUData
namespace Go.Proofs.Ytceddijolfpppaa
open Go Go.RowKit
set_option linter.unusedSimpArgs false
set_option linter.unusedVariables false
def i16C (x : Int) : List Value := [.int .i16 x]
def u8C (x : UInt8) : List Value := [.int .u8 x.toNat]
theorem i16C_at {l : List Int} {i : Nat} {x : Int} (h : l[i]? = some x) : (rowC i16C l)[i]? = some (.int .i16 x) := by
  have := rowC_get (fl := i16C) (s := 1) (fun _ => rfl) h (j := 0) (by decide)
  simpa [i16C] using this
theorem u8C_at {l : List UInt8} {i : Nat} {x : UInt8} (h : l[i]? = some x) : (rowC u8C l)[i]? = some (.int .u8 x.toNat) := by
  have := rowC_get (fl := u8C) (s := 1) (fun _ => rfl) h (j := 0) (by decide)
  simpa [u8C] using this
theorem i16C_len (l : List Int) : (rowC i16C l).length = l.length := by rw [rowC_len (s := 1) (fun _ => rfl), Nat.mul_one]
theorem u8C_len (l : List UInt8) : (rowC u8C l).length = l.length := by rw [rowC_len (s := 1) (fun _ => rfl), Nat.mul_one]
theorem u8C_set : ∀ (l : List UInt8) (i : Nat) (b : UInt8), (rowC u8C l).set i (.int .u8 b.toNat) = rowC u8C (l.set i b)
  | [], _, _ => rfl
  | _ :: _, 0, _ => rfl
  | a :: l, i + 1, b => by
    have h := u8C_set l i b
    unfold rowC at h ⊢
    simp only [List.flatMap_cons, u8C, List.cons_append, List.nil_append, List.set_cons_succ, List.cons.injEq, true_and]
    exact h
theorem u8C_zeros : ∀ n : Nat, zerosL [.int .u8 0] n = rowC u8C (List.replicate n 0)
  | 0 => rfl
  | n + 1 => by
    rw [List.replicate_succ]
    unfold rowC
    rw [List.flatMap_cons]
    exact congrArg (List.cons _) (u8C_zeros n)
def byt (W : List UInt8) : List UInt8 := List.replicate 64 0 ++ (W ++ List.replicate (192 - W.length) 0)
theorem byt_zero {n : Nat} (h : n ≤ 192) : byt (List.replicate n 0) = List.replicate 256 0 := by
  unfold byt
  rw [List.length_replicate, List.replicate_append_replicate, List.replicate_append_replicate, show 64 + (n + (192 - n)) = 256 by omega]
theorem byt_at {W : List UInt8} {i : Nat} {x : UInt8} (h : W[i]? = some x) : bT (64 + (i : Int)) (byt W) = x := by
  have hl := (List.getElem?_eq_some_iff.1 h).1
  have : (byt W)[64 + i]? = some x := by
    unfold byt
    rw [List.getElem?_append_right (by simp), List.length_replicate, Nat.add_sub_cancel_left, List.getElem?_append_left hl, h]
  unfold bT bAt
  rw [if_neg (by omega), show (64 + (i : Int)).toNat = 64 + i by omega, this]
theorem byt_far {W : List UInt8} {i : Nat} (h : W.length ≤ i) (h2 : i < 192) : bT (64 + (i : Int)) (byt W) = 0 := by
  have : (byt W)[64 + i]? = some 0 := by
    unfold byt
    rw [List.getElem?_append_right (by simp), List.length_replicate, Nat.add_sub_cancel_left, List.getElem?_append_right h, List.getElem?_replicate_of_lt (by omega)]
  unfold bT bAt
  rw [if_neg (by omega), show (64 + (i : Int)).toNat = 64 + i by omega, this]
theorem byt_set {W : List UInt8} {i : Nat} (b : UInt8) (h : i < W.length) : bS (64 + (i : Int)) b (byt W) = byt (W.set i b) := by
  obtain ⟨x, hx⟩ : ∃ x, x = W[i] := ⟨_, rfl⟩
  have hg : (byt W)[64 + i]? = some x := by
    unfold byt
    rw [List.getElem?_append_right (by simp), List.length_replicate, Nat.add_sub_cancel_left, List.getElem?_append_left h, hx, List.getElem?_eq_getElem h]
  have hb : bAt (byt W) (64 + (i : Int)) = some x := by
    unfold bAt; rw [if_neg (by omega), show (64 + (i : Int)).toNat = 64 + i by omega, hg]
  unfold bS
  rw [hb]
  simp only
  rw [show (64 + (i : Int)).toNat = 64 + i by omega]
  unfold byt
  rw [List.length_set, List.set_append_right _ _ (by simp), List.length_replicate, Nat.add_sub_cancel_left, List.set_append_left _ _ h]
set_option maxHeartbeats 8000000 in
set_option maxRecDepth 10000 in
theorem dataWritten_law (k z : Nat) (s0 s1 : Option Addr) (c0 c1 : Nat) (offs : List Int) (l : List UInt8) (ob0 ob1 : Option Blk) (hs0 : SlAt 0 s0) (hs1 : SlAt 1 s1) (hr0 : RowIs i16C 0 s0 offs ob0) (hr1 : RowIs u8C 1 s1 l ob1) (h2 : k ≤ 255) (h3 : z ≤ 65535)
    (hl0 : offs.length ≤ 9223372036854775807) (hl1 : l.length ≤ 9223372036854775807) (hb : ∀ x ∈ offs, -32768 ≤ x ∧ x ≤ 32767) :
    Law 12 #[.int .u8 k, .int .u16 z, .slice s0 offs.length c0, .slice s1 l.length c1] [ob0, ob1] := by
  refine Law.mk Try.func12 rfl rfl (clo4 iclo iclo (hs0.clo (by simp)) (hs1.clo (by simp))) ?_
  rw [Try.ntmps12]; simp only [List.size_toArray, List.length_cons, List.length_nil, List.replicate, List.cons_append, List.nil_append]
  by_cases b0 : 60 < offs.length
  · refine via ?_
    obtain ⟨S9, hA⟩ := awake17_does _
    ((first | refine qc1 rfl rfl fun K hK => ?_ | refine qc3 rfl rfl fun K hK => ?_); simp (disch := (first | omega | (simp only [sz] <;> omega) | fail)) only [go_sem]; refine ⟨_, _, hA, ?_⟩; (try simp only [go_sem]); with_reducible refine hK _ _ ?_; clear hK K)
    refine via ?_
    exact Goes.law rfl rfl
  by_cases b1 : l.length < offs.length
  · refine via ?_
    obtain ⟨S9, hA⟩ := awake17_does _
    ((first | refine qc1 rfl rfl fun K hK => ?_ | refine qc3 rfl rfl fun K hK => ?_); simp (disch := (first | omega | (simp only [sz] <;> omega) | fail)) only [go_sem]; refine ⟨_, _, hA, ?_⟩; (try simp only [go_sem]); with_reducible refine hK _ _ ?_; clear hK K)
    refine via ?_
    exact Goes.law rfl rfl
  have h5 := Nat.mod_lt k (show 0 < 5 by decide)
  have m5 : (k : Int).tmod 5 = ((k % 5 : Nat) : Int) := tmod_n k 5
  have u5 : IntKind.u8.wrap ((k % 5 : Nat) : Int) = ((k % 5 : Nat) : Int) := by rw [IntKind.wrap_u8]; omega
  refine viaF (And.intro m5 u5) ?_
  obtain ⟨c, hc⟩ : ∃ c, c = k % 5 := ⟨_, rfl⟩
  rw [← hc]
  rw [← hc] at h5
  obtain ⟨ws, st, kd, ln, cl, hst, D, hkd, hln, hcl, hroom, hbeg⟩ := begun17_does [] 4 1 z c h5 (by decide) (by decide) (by decide) (by decide) (by omega)
  simp only [List.length_nil, List.nil_append, Nat.zero_add] at hbeg
  ((first | refine qc1 rfl rfl fun K hK => ?_ | refine qc3 rfl rfl fun K hK => ?_); simp (disch := (first | omega | (simp only [sz] <;> omega) | fail)) only [go_sem]; refine ⟨_, _, hbeg, ?_⟩; (try simp only [go_sem]); with_reducible refine hK _ _ ?_; clear hK K)
  unfold blkV
  obtain ⟨rm, hrm⟩ : ∃ rm, rm = roomK c := ⟨_, rfl⟩
  obtain ⟨zz, hzz⟩ : ∃ zz, zz = z % roomK c + 1 := ⟨_, rfl⟩
  rw [← hzz] at D
  rw [← hrm] at hroom
  rw [← hzz, ← hrm]
  have hrl := roomK_le c h5
  have hzl : zz ≤ 128 := by have := Nat.mod_lt z hrl.1; omega
  have hzr : zz ≤ rm := by have := Nat.mod_lt z hrl.1; omega
  have hrm2 : rm ≤ 128 := by omega
  have hz1 : 1 ≤ zz := by omega
  clear hzz hrm
  have g6 : 0 ≤ gat 4 1 6 ((0 : Nat) : Int) := by decide
  have g11 : 0 ≤ gat 4 1 11 ((9 : Nat) : Int) := by decide
  have hW0 : zerosL [.int .u8 0] zz = rowC u8C (List.replicate zz 0) := u8C_zeros zz
  have hB0 : List.replicate 256 (0 : UInt8) = byt (List.replicate zz 0) := (byt_zero (by omega)).symm
  refine via ?_
  rw [hW0, hB0]
  refine Goes.wh (fun z tmps h S => ∃ (i q sp : Nat) (W : List UInt8), z = offs.length - i ∧ i ≤ offs.length ∧ 5 ≤ q ∧ q ≤ 5 + 20 * i ∧ sp ≤ 20 * i ∧ W.length = zz ∧ S = [.mem ws (byt W), .port 0 0 st, .port 0 0 sp] ∧
    h = heapJ [ob0, ob1, some { cells := (geoC 4 1).toList, elem := 26 }, some { cells := [.int .i64 64, .int .i64 zz, .int .i64 rm], elem := 106 }, some { cells := rowC u8C W, elem := 5 }] q [] ∧ tmps.length = 152 ∧
    tmps.getD 2 undef = .slice s0 offs.length c0 ∧ tmps.getD 3 undef = .slice s1 l.length c1 ∧ tmps.getD 9 undef = .pointer (some ⟨2, 0, none⟩) ∧ tmps.getD 10 undef = hndV 0 ∧ tmps.getD 11 undef = hndV 2 ∧ tmps.getD 12 undef = .pointer (some ⟨3, 0, none⟩) ∧ tmps.getD 13 undef = .slice (some ⟨4, 0, none⟩) zz zz ∧ tmps.getD 14 undef = .int .i64 i) (m := offs.length)
    ⟨0, 5, 0, List.replicate zz 0, rfl, by omega, by omega, by omega, by omega, by simp, rfl, gap_of _, rfl, rfl, rfl, rfl, rfl, rfl, rfl, rfl, rfl⟩ ?_
  clear hW0 hB0
  rintro z tmps h S ih ⟨i, q, sp, W, rfl, hi, hq1, hq2, hsp, hWl, rfl, rfl, hl, f2, f3, f9, f10, f11, f12, f13, f14⟩
  obtain ⟨V, hV, hT⟩ := frame_lit hl; replace hT : _ = ([V 0, V 1, V 2, V 3, V 4, V 5, V 6, V 7, V 8, V 9, V 10, V 11, V 12, V 13, V 14, V 15, V 16, V 17, V 18, V 19, V 20, V 21, V 22, V 23, V 24, V 25, V 26, V 27, V 28, V 29, V 30, V 31, V 32, V 33, V 34, V 35, V 36, V 37, V 38, V 39, V 40, V 41, V 42, V 43, V 44, V 45, V 46, V 47, V 48, V 49, V 50, V 51, V 52, V 53, V 54, V 55, V 56, V 57, V 58, V 59, V 60, V 61, V 62, V 63, V 64, V 65, V 66, V 67, V 68, V 69, V 70, V 71, V 72, V 73, V 74, V 75, V 76, V 77, V 78, V 79, V 80, V 81, V 82, V 83, V 84, V 85, V 86, V 87, V 88, V 89, V 90, V 91, V 92, V 93, V 94, V 95, V 96, V 97, V 98, V 99, V 100, V 101, V 102, V 103, V 104, V 105, V 106, V 107, V 108, V 109, V 110, V 111, V 112, V 113, V 114, V 115, V 116, V 117, V 118, V 119, V 120, V 121, V 122, V 123, V 124, V 125, V 126, V 127, V 128, V 129, V 130, V 131, V 132, V 133, V 134, V 135, V 136, V 137, V 138, V 139, V 140, V 141, V 142, V 143, V 144, V 145, V 146, V 147, V 148, V 149, V 150, V 151] : List Value) := hT; rw [hV] at f2 f3 f9 f10 f11 f12 f13 f14; subst hT; simp only [f2, f3, f9, f10, f11, f12, f13, f14]; clear hV hl
  by_cases hlt : i < offs.length
  case neg =>
    obtain rfl : i = offs.length := by omega
    clear ih hlt
    refine via ?_
    have hc4 := u8C_len W
    refine Goes.wh (fun z tmps h S => ∃ (i q' sp' : Nat), z = zz - i ∧ i ≤ zz ∧ 5 ≤ q' ∧ q' ≤ 2000 + 20 * i ∧ sp' ≤ 2000 + 20 * i ∧ S = [.mem ws (byt W), .port 0 0 st, .port 0 0 sp'] ∧
      h = heapJ [ob0, ob1, some { cells := (geoC 4 1).toList, elem := 26 }, some { cells := [.int .i64 64, .int .i64 zz, .int .i64 rm], elem := 106 }, some { cells := rowC u8C W, elem := 5 }] q' [] ∧ tmps.length = 152 ∧
      tmps.getD 9 undef = .pointer (some ⟨2, 0, none⟩) ∧ tmps.getD 10 undef = hndV 0 ∧ tmps.getD 11 undef = hndV 2 ∧ tmps.getD 12 undef = .pointer (some ⟨3, 0, none⟩) ∧ tmps.getD 13 undef = .slice (some ⟨4, 0, none⟩) zz zz ∧ tmps.getD 17 undef = .int .i64 i) (m := zz)
      ⟨0, q, sp, rfl, by omega, by omega, by omega, by omega, rfl, rfl, rfl, rfl, rfl, rfl, rfl, rfl, rfl⟩ ?_
    rintro z tmps h S ih ⟨i, q', sp', rfl, hi', hq1', hq2', hsp', rfl, rfl, hl, f9, f10, f11, f12, f13, f17⟩
    obtain ⟨V, hV, hT⟩ := frame_lit hl; replace hT : _ = ([V 0, V 1, V 2, V 3, V 4, V 5, V 6, V 7, V 8, V 9, V 10, V 11, V 12, V 13, V 14, V 15, V 16, V 17, V 18, V 19, V 20, V 21, V 22, V 23, V 24, V 25, V 26, V 27, V 28, V 29, V 30, V 31, V 32, V 33, V 34, V 35, V 36, V 37, V 38, V 39, V 40, V 41, V 42, V 43, V 44, V 45, V 46, V 47, V 48, V 49, V 50, V 51, V 52, V 53, V 54, V 55, V 56, V 57, V 58, V 59, V 60, V 61, V 62, V 63, V 64, V 65, V 66, V 67, V 68, V 69, V 70, V 71, V 72, V 73, V 74, V 75, V 76, V 77, V 78, V 79, V 80, V 81, V 82, V 83, V 84, V 85, V 86, V 87, V 88, V 89, V 90, V 91, V 92, V 93, V 94, V 95, V 96, V 97, V 98, V 99, V 100, V 101, V 102, V 103, V 104, V 105, V 106, V 107, V 108, V 109, V 110, V 111, V 112, V 113, V 114, V 115, V 116, V 117, V 118, V 119, V 120, V 121, V 122, V 123, V 124, V 125, V 126, V 127, V 128, V 129, V 130, V 131, V 132, V 133, V 134, V 135, V 136, V 137, V 138, V 139, V 140, V 141, V 142, V 143, V 144, V 145, V 146, V 147, V 148, V 149, V 150, V 151] : List Value) := hT; rw [hV] at f9 f10 f11 f12 f13 f17; subst hT; simp only [f9, f10, f11, f12, f13, f17]; clear hV hl
    by_cases hlt : i < zz
    case pos =>
      obtain ⟨x, hx⟩ : ∃ x, x = W[i]'(by omega) := ⟨_, rfl⟩
      have hxk : W[i]? = some x := by rw [hx]; exact List.getElem?_eq_getElem (by omega)
      have g4 := u8C_at hxk
      refine via ?_
      ((first | refine qc1 rfl rfl fun K hK => ?_ | refine qc3 rfl rfl fun K hK => ?_); simp (disch := (first | omega | (simp only [sz] <;> omega) | fail)) only [go_sem]; refine ⟨_, _, read_in [.mem ws (byt W), .port 0 0 st, .port 0 0 sp'] 2 0 0 sp' ws (byt W) 4 1 i kd ln cl zz 64 rfl rfl (by omega) (by decide) (by decide) (by decide) g6 (by omega) (by decide) D (by omega) (by omega), ?_⟩; (try simp only [go_sem]); with_reducible refine hK _ _ ?_; clear hK K)
      rw [byt_at hxk]
      simp only [accS, List.set_cons_zero, List.set_cons_succ]
      unfold rsV
      repeat (first | refine Goes.reg ?_ | refine Goes.ctl2 rfl ?_ | ((first | refine qv1 rfl rfl rfl fun K hK => ?_ | refine qv3 rfl rfl rfl fun K hK => ?_ | refine qv2 rfl rfl rfl rfl rfl rfl fun K hK => ?_ | refine qv4 rfl rfl rfl rfl rfl rfl fun K hK => ?_ | refine qn1 rfl rfl rfl fun K hK => ?_ | refine qn3 rfl rfl rfl fun K hK => ?_ | refine qt1 rfl rfl rfl fun K hK => ?_ | refine qt3 rfl rfl rfl fun K hK => ?_); simp (disch := (first | omega | (simp only [sz] <;> omega) | fail)) only [go_sem, g4, Nat.mul_one, bne_self_eq_false]; with_reducible refine hK _ _ ?_; clear hK K) | refine At.nil rfl ?_ | refine RG.nil rfl ?_ | ((first | refine AtL.skipg rfl rfl rfl rfl rfl ?_ | refine RGL.skipg rfl rfl rfl rfl rfl ?_ | refine AtL.skipu rfl rfl rfl rfl ?_ | refine RGL.skipu rfl rfl rfl rfl ?_); simp only [putL, List.set_cons_zero, List.set_cons_succ]) | refine Goes.yes rfl ?_ | refine Goes.no rfl ?_ | refine Goes.drawR [] (by kernel_rfl) ?_)
      refine Goes.forget ?_ (by simp only [List.length_cons, List.length_nil]; omega)
      exact ih _ _ _ _ (by omega) ⟨i + 1, q' + 1, sp' + 2, rfl, by omega, by omega, by omega, by omega, rfl, rfl, rfl, rfl, rfl, rfl, rfl, rfl, rfl⟩
    obtain rfl : i = zz := by omega
    clear ih hlt
    refine via ?_
    refine Goes.wh (fun z tmps h S => ∃ (j q2 : Nat), z = rm - j ∧ i ≤ j ∧ j ≤ rm ∧ 5 ≤ q2 ∧ q2 ≤ 10000 + 20 * j ∧ S = [.mem ws (byt W), .port 0 0 st, .port 0 0 sp'] ∧
      h = heapJ [ob0, ob1, some { cells := (geoC 4 1).toList, elem := 26 }, some { cells := [.int .i64 64, .int .i64 i, .int .i64 rm], elem := 106 }, some { cells := rowC u8C W, elem := 5 }] q2 [] ∧ tmps.length = 152 ∧
      tmps.getD 10 undef = hndV 0 ∧ tmps.getD 12 undef = .pointer (some ⟨3, 0, none⟩) ∧ tmps.getD 19 undef = .int .i64 j) (m := rm - i)
      ⟨i, q', rfl, by omega, by omega, by omega, by omega, rfl, rfl, rfl, rfl, rfl, rfl⟩ ?_
    rintro z tmps h S ih ⟨j, q2, rfl, hj1, hj2, hq21, hq22, rfl, rfl, hl, f10, f12, f19⟩
    obtain ⟨V, hV, hT⟩ := frame_lit hl; replace hT : _ = ([V 0, V 1, V 2, V 3, V 4, V 5, V 6, V 7, V 8, V 9, V 10, V 11, V 12, V 13, V 14, V 15, V 16, V 17, V 18, V 19, V 20, V 21, V 22, V 23, V 24, V 25, V 26, V 27, V 28, V 29, V 30, V 31, V 32, V 33, V 34, V 35, V 36, V 37, V 38, V 39, V 40, V 41, V 42, V 43, V 44, V 45, V 46, V 47, V 48, V 49, V 50, V 51, V 52, V 53, V 54, V 55, V 56, V 57, V 58, V 59, V 60, V 61, V 62, V 63, V 64, V 65, V 66, V 67, V 68, V 69, V 70, V 71, V 72, V 73, V 74, V 75, V 76, V 77, V 78, V 79, V 80, V 81, V 82, V 83, V 84, V 85, V 86, V 87, V 88, V 89, V 90, V 91, V 92, V 93, V 94, V 95, V 96, V 97, V 98, V 99, V 100, V 101, V 102, V 103, V 104, V 105, V 106, V 107, V 108, V 109, V 110, V 111, V 112, V 113, V 114, V 115, V 116, V 117, V 118, V 119, V 120, V 121, V 122, V 123, V 124, V 125, V 126, V 127, V 128, V 129, V 130, V 131, V 132, V 133, V 134, V 135, V 136, V 137, V 138, V 139, V 140, V 141, V 142, V 143, V 144, V 145, V 146, V 147, V 148, V 149, V 150, V 151] : List Value) := hT; rw [hV] at f10 f12 f19; subst hT; simp only [f10, f12, f19]; clear hV hl
    by_cases hlt : j < rm
    case pos =>
      refine via ?_
      ((first | refine qp1 rfl rfl fun K hK => ?_ | refine qp3 rfl rfl fun K hK => ?_); simp (disch := (first | omega | (simp only [sz] <;> omega) | fail)) only [go_sem]; refine ⟨_, _, .byte (k := 0) _ rfl, ?_⟩; (try simp only [go_sem]); with_reducible refine hK _ _ ?_; clear hK K)
      rw [byt_far (i := j) (by omega) (by omega)]
      repeat (first | refine Goes.reg ?_ | refine Goes.ctl2 rfl ?_ | ((first | refine qv1 rfl rfl rfl fun K hK => ?_ | refine qv3 rfl rfl rfl fun K hK => ?_ | refine qv2 rfl rfl rfl rfl rfl rfl fun K hK => ?_ | refine qv4 rfl rfl rfl rfl rfl rfl fun K hK => ?_ | refine qn1 rfl rfl rfl fun K hK => ?_ | refine qn3 rfl rfl rfl fun K hK => ?_ | refine qt1 rfl rfl rfl fun K hK => ?_ | refine qt3 rfl rfl rfl fun K hK => ?_); simp (disch := (first | omega | (simp only [sz] <;> omega) | fail)) only [go_sem, bne_self_eq_false]; with_reducible refine hK _ _ ?_; clear hK K) | refine At.nil rfl ?_ | refine RG.nil rfl ?_ | ((first | refine AtL.skipg rfl rfl rfl rfl rfl ?_ | refine RGL.skipg rfl rfl rfl rfl rfl ?_ | refine AtL.skipu rfl rfl rfl rfl ?_ | refine RGL.skipu rfl rfl rfl rfl ?_); simp only [putL, List.set_cons_zero, List.set_cons_succ]) | refine Goes.yes rfl ?_ | refine Goes.no rfl ?_ | refine Goes.drawR [] (by kernel_rfl) ?_)
      exact ih _ _ _ _ (by omega) ⟨j + 1, q2, rfl, by omega, by omega, by omega, by omega, rfl, rfl, rfl, rfl, rfl, rfl⟩
    obtain rfl : j = rm := by omega
    clear ih hlt
    refine via ?_
    obtain ⟨S9, hA⟩ := awake17_does _
    ((first | refine qc1 rfl rfl fun K hK => ?_ | refine qc3 rfl rfl fun K hK => ?_); simp (disch := (first | omega | (simp only [sz] <;> omega) | fail)) only [go_sem]; refine ⟨_, _, hA, ?_⟩; (try simp only [go_sem]); with_reducible refine hK _ _ ?_; clear hK K)
    refine via ?_
    exact Goes.law rfl rfl
  obtain ⟨rfl, el0, rfl⟩ := hr0 (by omega)
  obtain ⟨rfl, el1, rfl⟩ := hr1 (by omega)
  obtain ⟨x, hx⟩ : ∃ x, x = offs[i] := ⟨_, rfl⟩
  have hxk : offs[i]? = some x := by rw [hx]; exact List.getElem?_eq_getElem hlt
  obtain ⟨y, hy⟩ : ∃ y, y = l[i]'(by omega) := ⟨_, rfl⟩
  have hyk : l[i]? = some y := by rw [hy]; exact List.getElem?_eq_getElem (by omega)
  have hxb := hb x (by rw [hx]; exact List.getElem_mem hlt)
  have hc0 := i16C_len offs
  have hc1 := u8C_len l
  have hc4 := u8C_len W
  have g0 := i16C_at hxk
  have g1 := u8C_at hyk
  have hm3 : (i : Int).tmod 3 = ((i % 3 : Nat) : Int) := tmod_n i 3
  have h3m := Nat.mod_lt i (show 0 < 3 by decide)
  have hwx : IntKind.i64.wrap x = x := by rw [wrap_i64 (by omega) (by omega)]
  by_cases hm0 : i % 3 = 0
  · repeat (first | refine Goes.reg ?_ | refine Goes.ctl2 rfl ?_ | ((first | refine qv1 rfl rfl rfl fun K hK => ?_ | refine qv3 rfl rfl rfl fun K hK => ?_ | refine qv2 rfl rfl rfl rfl rfl rfl fun K hK => ?_ | refine qv4 rfl rfl rfl rfl rfl rfl fun K hK => ?_ | refine qn1 rfl rfl rfl fun K hK => ?_ | refine qn3 rfl rfl rfl fun K hK => ?_ | refine qt1 rfl rfl rfl fun K hK => ?_ | refine qt3 rfl rfl rfl fun K hK => ?_); simp (disch := (first | omega | (simp only [sz] <;> omega) | fail)) only [go_sem, g0, hwx, hm3, Nat.mul_one]; with_reducible refine hK _ _ ?_; clear hK K) | refine At.nil rfl ?_ | refine RG.nil rfl ?_ | ((first | refine AtL.skipg rfl rfl rfl rfl rfl ?_ | refine RGL.skipg rfl rfl rfl rfl rfl ?_ | refine AtL.skipu rfl rfl rfl rfl ?_ | refine RGL.skipu rfl rfl rfl rfl ?_); simp only [putL, List.set_cons_zero, List.set_cons_succ]) | refine Goes.yes rfl ?_ | refine Goes.no rfl ?_ | refine Goes.drawR [] (by kernel_rfl) ?_)
    obtain ⟨o, ho⟩ : ∃ o, o = x := ⟨_, rfl⟩
    rw [← ho] at hxb
    rw [← ho]
    repeat (first | refine Goes.reg ?_ | refine Goes.ctl2 rfl ?_ | ((first | refine qv1 rfl rfl rfl fun K hK => ?_ | refine qv3 rfl rfl rfl fun K hK => ?_ | refine qv2 rfl rfl rfl rfl rfl rfl fun K hK => ?_ | refine qv4 rfl rfl rfl rfl rfl rfl fun K hK => ?_ | refine qn1 rfl rfl rfl fun K hK => ?_ | refine qn3 rfl rfl rfl fun K hK => ?_ | refine qt1 rfl rfl rfl fun K hK => ?_ | refine qt3 rfl rfl rfl fun K hK => ?_); simp (disch := (first | omega | (simp only [sz] <;> omega) | fail)) only [go_sem, g1, Nat.mul_one]; with_reducible refine hK _ _ ?_; clear hK K) | refine At.nil rfl ?_ | refine RG.nil rfl ?_ | ((first | refine AtL.skipg rfl rfl rfl rfl rfl ?_ | refine RGL.skipg rfl rfl rfl rfl rfl ?_ | refine AtL.skipu rfl rfl rfl rfl ?_ | refine RGL.skipu rfl rfl rfl rfl ?_); simp only [putL, List.set_cons_zero, List.set_cons_succ]) | refine Goes.yes rfl ?_ | refine Goes.no rfl ?_ | refine Goes.drawR [] (by kernel_rfl) ?_)
    have q8 : IntKind.i64.wrap (64 + 8) = 72 := by rfl
    by_cases hin : 0 ≤ o ∧ o < (zz : Int)
    · obtain ⟨n, rfl⟩ := Int.eq_ofNat_of_zero_le hin.1
      have hn : n < W.length := by omega
      ((first | refine qc1 rfl rfl fun K hK => ?_ | refine qc3 rfl rfl fun K hK => ?_); simp (disch := (first | omega | (simp only [sz] <;> omega) | fail)) only [go_sem]; refine ⟨_, _, write_in [.mem ws (byt W), .port 0 0 st, .port 0 0 sp] 2 0 0 sp ws (byt W) 4 1 n y kd ln cl zz 64 rfl rfl (by omega) (by decide) (by decide) (by decide) g6 (by omega) (by decide) D (by omega) (by omega), ?_⟩; (try simp only [go_sem]); with_reducible refine hK _ _ ?_; clear hK K)
      rw [byt_set y hn]
      simp only [accS, List.set_cons_zero, List.set_cons_succ]
      unfold rsV
      have hWs : (rowC u8C W).length = zz := by omega
      repeat (first | refine Goes.reg ?_ | refine Goes.ctl2 rfl ?_ | ((first | refine qv1 rfl rfl rfl fun K hK => ?_ | refine qv3 rfl rfl rfl fun K hK => ?_ | refine qv2 rfl rfl rfl rfl rfl rfl fun K hK => ?_ | refine qv4 rfl rfl rfl rfl rfl rfl fun K hK => ?_ | refine qn1 rfl rfl rfl fun K hK => ?_ | refine qn3 rfl rfl rfl fun K hK => ?_ | refine qt1 rfl rfl rfl fun K hK => ?_ | refine qt3 rfl rfl rfl fun K hK => ?_); simp (disch := (first | omega | (simp only [sz] <;> omega) | fail)) only [go_sem, g1, q8, Nat.mul_one, beq_self_eq_true, u8C_set]; with_reducible refine hK _ _ ?_; clear hK K) | refine At.nil rfl ?_ | refine RG.nil rfl ?_ | ((first | refine AtL.skipg rfl rfl rfl rfl rfl ?_ | refine RGL.skipg rfl rfl rfl rfl rfl ?_ | refine AtL.skipu rfl rfl rfl rfl ?_ | refine RGL.skipu rfl rfl rfl rfl ?_); simp only [putL, List.set_cons_zero, List.set_cons_succ]) | refine Goes.yes rfl ?_ | refine Goes.no rfl ?_ | refine Goes.drawR [] (by kernel_rfl) ?_)
      ((first | refine qc1 rfl rfl fun K hK => ?_ | refine qc3 rfl rfl fun K hK => ?_); simp (disch := (first | omega | (simp only [sz] <;> omega) | fail)) only [go_sem]; refine ⟨_, _, write_free [.mem ws (byt (W.set n y)), .port 0 0 st, .port 0 0 (sp + 2)] 2 0 0 (sp + 2) ws (byt (W.set n y)) 4 1 n y 9 rfl rfl (by omega) (by decide) (by decide) (by decide) (by decide) g6 g11 (D.free 9 (by decide) (by decide)), ?_⟩; (try simp only [go_sem]); with_reducible refine hK _ _ ?_; clear hK K)
      simp only [accS, List.set_cons_zero, List.set_cons_succ]
      refine via ?_
      refine Goes.forget ?_ (by simp only [List.length_cons, List.length_nil]; omega)
      exact ih _ _ _ _ (by omega) ⟨i + 1, q + 1, sp + 3, W.set n y, rfl, by omega, by omega, by omega, by omega, by rw [List.length_set]; exact hWl, rfl, rfl, rfl, rfl, rfl, rfl, rfl, rfl, rfl, rfl, rfl⟩
    · ((first | refine qc1 rfl rfl fun K hK => ?_ | refine qc3 rfl rfl fun K hK => ?_); simp (disch := (first | omega | (simp only [sz] <;> omega) | fail)) only [go_sem]; refine ⟨_, _, write_out [.mem ws (byt W), .port 0 0 st, .port 0 0 sp] 2 0 0 sp ws (byt W) 4 1 o y kd ln cl zz 64 rfl rfl (by omega) (by decide) (by decide) (by decide) g6 (by omega) (by decide) D (by omega), ?_⟩; (try simp only [go_sem]); with_reducible refine hK _ _ ?_; clear hK K)
      simp only [accS, List.set_cons_zero, List.set_cons_succ]
      unfold rsV
      have hoi : o < 0 ∨ (zz : Int) ≤ o := by omega
      by_cases hneg : o < 0
      · repeat (first | refine Goes.reg ?_ | refine Goes.ctl2 rfl ?_ | ((first | refine qv1 rfl rfl rfl fun K hK => ?_ | refine qv3 rfl rfl rfl fun K hK => ?_ | refine qv2 rfl rfl rfl rfl rfl rfl fun K hK => ?_ | refine qv4 rfl rfl rfl rfl rfl rfl fun K hK => ?_ | refine qn1 rfl rfl rfl fun K hK => ?_ | refine qn3 rfl rfl rfl fun K hK => ?_ | refine qt1 rfl rfl rfl fun K hK => ?_ | refine qt3 rfl rfl rfl fun K hK => ?_); simp (disch := (first | omega | (simp only [sz] <;> omega) | fail)) only [go_sem, g1, q8, Nat.mul_one, beq_self_eq_true]; with_reducible refine hK _ _ ?_; clear hK K) | refine At.nil rfl ?_ | refine RG.nil rfl ?_ | ((first | refine AtL.skipg rfl rfl rfl rfl rfl ?_ | refine RGL.skipg rfl rfl rfl rfl rfl ?_ | refine AtL.skipu rfl rfl rfl rfl ?_ | refine RGL.skipu rfl rfl rfl rfl ?_); simp only [putL, List.set_cons_zero, List.set_cons_succ]) | refine Goes.yes rfl ?_ | refine Goes.no rfl ?_ | refine Goes.drawR [] (by kernel_rfl) ?_)
        ((first | refine qc1 rfl rfl fun K hK => ?_ | refine qc3 rfl rfl fun K hK => ?_); simp (disch := (first | omega | (simp only [sz] <;> omega) | fail)) only [go_sem]; refine ⟨_, _, write_free [.mem ws (byt W), .port 0 0 st, .port 0 0 (sp + 1)] 2 0 0 (sp + 1) ws (byt W) 4 1 o y 9 rfl rfl (by omega) (by decide) (by decide) (by decide) (by decide) g6 g11 (D.free 9 (by decide) (by decide)), ?_⟩; (try simp only [go_sem]); with_reducible refine hK _ _ ?_; clear hK K)
        simp only [accS, List.set_cons_zero, List.set_cons_succ]
        refine via ?_
        refine Goes.forget ?_ (by simp only [List.length_cons, List.length_nil]; omega)
        exact ih _ _ _ _ (by omega) ⟨i + 1, q + 1, sp + 2, W, rfl, by omega, by omega, by omega, by omega, hWl, rfl, rfl, rfl, rfl, rfl, rfl, rfl, rfl, rfl, rfl, rfl⟩
      · repeat (first | refine Goes.reg ?_ | refine Goes.ctl2 rfl ?_ | ((first | refine qv1 rfl rfl rfl fun K hK => ?_ | refine qv3 rfl rfl rfl fun K hK => ?_ | refine qv2 rfl rfl rfl rfl rfl rfl fun K hK => ?_ | refine qv4 rfl rfl rfl rfl rfl rfl fun K hK => ?_ | refine qn1 rfl rfl rfl fun K hK => ?_ | refine qn3 rfl rfl rfl fun K hK => ?_ | refine qt1 rfl rfl rfl fun K hK => ?_ | refine qt3 rfl rfl rfl fun K hK => ?_); simp (disch := (first | omega | (simp only [sz] <;> omega) | fail)) only [go_sem, g1, q8, Nat.mul_one, beq_self_eq_true]; with_reducible refine hK _ _ ?_; clear hK K) | refine At.nil rfl ?_ | refine RG.nil rfl ?_ | ((first | refine AtL.skipg rfl rfl rfl rfl rfl ?_ | refine RGL.skipg rfl rfl rfl rfl rfl ?_ | refine AtL.skipu rfl rfl rfl rfl ?_ | refine RGL.skipu rfl rfl rfl rfl ?_); simp only [putL, List.set_cons_zero, List.set_cons_succ]) | refine Goes.yes rfl ?_ | refine Goes.no rfl ?_ | refine Goes.drawR [] (by kernel_rfl) ?_)
        ((first | refine qc1 rfl rfl fun K hK => ?_ | refine qc3 rfl rfl fun K hK => ?_); simp (disch := (first | omega | (simp only [sz] <;> omega) | fail)) only [go_sem]; refine ⟨_, _, write_free [.mem ws (byt W), .port 0 0 st, .port 0 0 (sp + 1)] 2 0 0 (sp + 1) ws (byt W) 4 1 o y 9 rfl rfl (by omega) (by decide) (by decide) (by decide) (by decide) g6 g11 (D.free 9 (by decide) (by decide)), ?_⟩; (try simp only [go_sem]); with_reducible refine hK _ _ ?_; clear hK K)
        simp only [accS, List.set_cons_zero, List.set_cons_succ]
        refine via ?_
        refine Goes.forget ?_ (by simp only [List.length_cons, List.length_nil]; omega)
        exact ih _ _ _ _ (by omega) ⟨i + 1, q + 1, sp + 2, W, rfl, by omega, by omega, by omega, by omega, hWl, rfl, rfl, rfl, rfl, rfl, rfl, rfl, rfl, rfl, rfl, rfl⟩
  have hz1' : (zz : Int) + 1 = ((zz + 1 : Nat) : Int) := by push_cast; rfl
  obtain ⟨o, ho⟩ : ∃ o, o = x.tmod ((zz + 1 : Nat) : Int) := ⟨_, rfl⟩
  have ho1 := Int.tmod_lt_of_pos x (b := ((zz + 1 : Nat) : Int)) (by omega)
  have ho2 := Int.lt_tmod_of_pos x (b := ((zz + 1 : Nat) : Int)) (by omega)
  rw [← ho] at ho1 ho2
  have htm : IntKind.i64.wrap o = o := by rw [wrap_i64 (by omega) (by omega)]
  repeat (first | refine Goes.reg ?_ | refine Goes.ctl2 rfl ?_ | ((first | refine qv1 rfl rfl rfl fun K hK => ?_ | refine qv3 rfl rfl rfl fun K hK => ?_ | refine qv2 rfl rfl rfl rfl rfl rfl fun K hK => ?_ | refine qv4 rfl rfl rfl rfl rfl rfl fun K hK => ?_ | refine qn1 rfl rfl rfl fun K hK => ?_ | refine qn3 rfl rfl rfl fun K hK => ?_ | refine qt1 rfl rfl rfl fun K hK => ?_ | refine qt3 rfl rfl rfl fun K hK => ?_); simp (disch := (first | omega | (simp only [sz] <;> omega) | fail)) only [go_sem, g0, g1, hwx, hm3, Nat.mul_one, hz1', ← ho, htm]; with_reducible refine hK _ _ ?_; clear hK K) | refine At.nil rfl ?_ | refine RG.nil rfl ?_ | ((first | refine AtL.skipg rfl rfl rfl rfl rfl ?_ | refine RGL.skipg rfl rfl rfl rfl rfl ?_ | refine AtL.skipu rfl rfl rfl rfl ?_ | refine RGL.skipu rfl rfl rfl rfl ?_); simp only [putL, List.set_cons_zero, List.set_cons_succ]) | refine Goes.yes rfl ?_ | refine Goes.no rfl ?_ | refine Goes.drawR [] (by kernel_rfl) ?_)
  have q8 : IntKind.i64.wrap (64 + 8) = 72 := by rfl
  by_cases hin : 0 ≤ o ∧ o < (zz : Int)
  · obtain ⟨n, rfl⟩ := Int.eq_ofNat_of_zero_le hin.1
    have hn : n < W.length := by omega
    ((first | refine qc1 rfl rfl fun K hK => ?_ | refine qc3 rfl rfl fun K hK => ?_); simp (disch := (first | omega | (simp only [sz] <;> omega) | fail)) only [go_sem]; refine ⟨_, _, write_in [.mem ws (byt W), .port 0 0 st, .port 0 0 sp] 2 0 0 sp ws (byt W) 4 1 n y kd ln cl zz 64 rfl rfl (by omega) (by decide) (by decide) (by decide) g6 (by omega) (by decide) D (by omega) (by omega), ?_⟩; (try simp only [go_sem]); with_reducible refine hK _ _ ?_; clear hK K)
    rw [byt_set y hn]
    simp only [accS, List.set_cons_zero, List.set_cons_succ]
    unfold rsV
    have hWs : (rowC u8C W).length = zz := by omega
    repeat (first | refine Goes.reg ?_ | refine Goes.ctl2 rfl ?_ | ((first | refine qv1 rfl rfl rfl fun K hK => ?_ | refine qv3 rfl rfl rfl fun K hK => ?_ | refine qv2 rfl rfl rfl rfl rfl rfl fun K hK => ?_ | refine qv4 rfl rfl rfl rfl rfl rfl fun K hK => ?_ | refine qn1 rfl rfl rfl fun K hK => ?_ | refine qn3 rfl rfl rfl fun K hK => ?_ | refine qt1 rfl rfl rfl fun K hK => ?_ | refine qt3 rfl rfl rfl fun K hK => ?_); simp (disch := (first | omega | (simp only [sz] <;> omega) | fail)) only [go_sem, g1, q8, Nat.mul_one, beq_self_eq_true, u8C_set]; with_reducible refine hK _ _ ?_; clear hK K) | refine At.nil rfl ?_ | refine RG.nil rfl ?_ | ((first | refine AtL.skipg rfl rfl rfl rfl rfl ?_ | refine RGL.skipg rfl rfl rfl rfl rfl ?_ | refine AtL.skipu rfl rfl rfl rfl ?_ | refine RGL.skipu rfl rfl rfl rfl ?_); simp only [putL, List.set_cons_zero, List.set_cons_succ]) | refine Goes.yes rfl ?_ | refine Goes.no rfl ?_ | refine Goes.drawR [] (by kernel_rfl) ?_)
    ((first | refine qc1 rfl rfl fun K hK => ?_ | refine qc3 rfl rfl fun K hK => ?_); simp (disch := (first | omega | (simp only [sz] <;> omega) | fail)) only [go_sem]; refine ⟨_, _, write_free [.mem ws (byt (W.set n y)), .port 0 0 st, .port 0 0 (sp + 2)] 2 0 0 (sp + 2) ws (byt (W.set n y)) 4 1 n y 9 rfl rfl (by omega) (by decide) (by decide) (by decide) (by decide) g6 g11 (D.free 9 (by decide) (by decide)), ?_⟩; (try simp only [go_sem]); with_reducible refine hK _ _ ?_; clear hK K)
    simp only [accS, List.set_cons_zero, List.set_cons_succ]
    refine via ?_
    refine Goes.forget ?_ (by simp only [List.length_cons, List.length_nil]; omega)
    exact ih _ _ _ _ (by omega) ⟨i + 1, q + 1, sp + 3, W.set n y, rfl, by omega, by omega, by omega, by omega, by rw [List.length_set]; exact hWl, rfl, rfl, rfl, rfl, rfl, rfl, rfl, rfl, rfl, rfl, rfl⟩
  · ((first | refine qc1 rfl rfl fun K hK => ?_ | refine qc3 rfl rfl fun K hK => ?_); simp (disch := (first | omega | (simp only [sz] <;> omega) | fail)) only [go_sem]; refine ⟨_, _, write_out [.mem ws (byt W), .port 0 0 st, .port 0 0 sp] 2 0 0 sp ws (byt W) 4 1 o y kd ln cl zz 64 rfl rfl (by omega) (by decide) (by decide) (by decide) g6 (by omega) (by decide) D (by omega), ?_⟩; (try simp only [go_sem]); with_reducible refine hK _ _ ?_; clear hK K)
    simp only [accS, List.set_cons_zero, List.set_cons_succ]
    unfold rsV
    have hoi : o < 0 ∨ (zz : Int) ≤ o := by omega
    by_cases hneg : o < 0
    · repeat (first | refine Goes.reg ?_ | refine Goes.ctl2 rfl ?_ | ((first | refine qv1 rfl rfl rfl fun K hK => ?_ | refine qv3 rfl rfl rfl fun K hK => ?_ | refine qv2 rfl rfl rfl rfl rfl rfl fun K hK => ?_ | refine qv4 rfl rfl rfl rfl rfl rfl fun K hK => ?_ | refine qn1 rfl rfl rfl fun K hK => ?_ | refine qn3 rfl rfl rfl fun K hK => ?_ | refine qt1 rfl rfl rfl fun K hK => ?_ | refine qt3 rfl rfl rfl fun K hK => ?_); simp (disch := (first | omega | (simp only [sz] <;> omega) | fail)) only [go_sem, g1, q8, Nat.mul_one, beq_self_eq_true]; with_reducible refine hK _ _ ?_; clear hK K) | refine At.nil rfl ?_ | refine RG.nil rfl ?_ | ((first | refine AtL.skipg rfl rfl rfl rfl rfl ?_ | refine RGL.skipg rfl rfl rfl rfl rfl ?_ | refine AtL.skipu rfl rfl rfl rfl ?_ | refine RGL.skipu rfl rfl rfl rfl ?_); simp only [putL, List.set_cons_zero, List.set_cons_succ]) | refine Goes.yes rfl ?_ | refine Goes.no rfl ?_ | refine Goes.drawR [] (by kernel_rfl) ?_)
      ((first | refine qc1 rfl rfl fun K hK => ?_ | refine qc3 rfl rfl fun K hK => ?_); simp (disch := (first | omega | (simp only [sz] <;> omega) | fail)) only [go_sem]; refine ⟨_, _, write_free [.mem ws (byt W), .port 0 0 st, .port 0 0 (sp + 1)] 2 0 0 (sp + 1) ws (byt W) 4 1 o y 9 rfl rfl (by omega) (by decide) (by decide) (by decide) (by decide) g6 g11 (D.free 9 (by decide) (by decide)), ?_⟩; (try simp only [go_sem]); with_reducible refine hK _ _ ?_; clear hK K)
      simp only [accS, List.set_cons_zero, List.set_cons_succ]
      refine via ?_
      refine Goes.forget ?_ (by simp only [List.length_cons, List.length_nil]; omega)
      exact ih _ _ _ _ (by omega) ⟨i + 1, q + 1, sp + 2, W, rfl, by omega, by omega, by omega, by omega, hWl, rfl, rfl, rfl, rfl, rfl, rfl, rfl, rfl, rfl, rfl, rfl⟩
    · repeat (first | refine Goes.reg ?_ | refine Goes.ctl2 rfl ?_ | ((first | refine qv1 rfl rfl rfl fun K hK => ?_ | refine qv3 rfl rfl rfl fun K hK => ?_ | refine qv2 rfl rfl rfl rfl rfl rfl fun K hK => ?_ | refine qv4 rfl rfl rfl rfl rfl rfl fun K hK => ?_ | refine qn1 rfl rfl rfl fun K hK => ?_ | refine qn3 rfl rfl rfl fun K hK => ?_ | refine qt1 rfl rfl rfl fun K hK => ?_ | refine qt3 rfl rfl rfl fun K hK => ?_); simp (disch := (first | omega | (simp only [sz] <;> omega) | fail)) only [go_sem, g1, q8, Nat.mul_one, beq_self_eq_true]; with_reducible refine hK _ _ ?_; clear hK K) | refine At.nil rfl ?_ | refine RG.nil rfl ?_ | ((first | refine AtL.skipg rfl rfl rfl rfl rfl ?_ | refine RGL.skipg rfl rfl rfl rfl rfl ?_ | refine AtL.skipu rfl rfl rfl rfl ?_ | refine RGL.skipu rfl rfl rfl rfl ?_); simp only [putL, List.set_cons_zero, List.set_cons_succ]) | refine Goes.yes rfl ?_ | refine Goes.no rfl ?_ | refine Goes.drawR [] (by kernel_rfl) ?_)
      ((first | refine qc1 rfl rfl fun K hK => ?_ | refine qc3 rfl rfl fun K hK => ?_); simp (disch := (first | omega | (simp only [sz] <;> omega) | fail)) only [go_sem]; refine ⟨_, _, write_free [.mem ws (byt W), .port 0 0 st, .port 0 0 (sp + 1)] 2 0 0 (sp + 1) ws (byt W) 4 1 o y 9 rfl rfl (by omega) (by decide) (by decide) (by decide) (by decide) g6 g11 (D.free 9 (by decide) (by decide)), ?_⟩; (try simp only [go_sem]); with_reducible refine hK _ _ ?_; clear hK K)
      simp only [accS, List.set_cons_zero, List.set_cons_succ]
      refine via ?_
      refine Goes.forget ?_ (by simp only [List.length_cons, List.length_nil]; omega)
      exact ih _ _ _ _ (by omega) ⟨i + 1, q + 1, sp + 2, W, rfl, by omega, by omega, by omega, by omega, hWl, rfl, rfl, rfl, rfl, rfl, rfl, rfl, rfl, rfl, rfl, rfl⟩
theorem i16_rows {len : Nat} {z : Nat → Nat → Int} {w : World} {a : Option Addr} {cap : Nat} (h : RowS [.i16] w a len cap z) :
    len ≤ 9223372036854775807 ∧ (∀ x ∈ (List.range len).map (fun i => z i 0), -32768 ≤ x ∧ x ≤ 32767) ∧ (0 < ((List.range len).map (fun i => z i 0)).length → ∃ x, a = some x ∧ ∀ (i : Nat) (y : Int), ((List.range len).map (fun i => z i 0))[i]? = some y → ∀ (j : Nat) (v : Value), (i16C y)[j]? = some v → w.cell? (x.add (i * 1 + j)) = some v) := by
  rcases h with ⟨rfl, rfl, rfl⟩ | ⟨x, rfl, h1, h2, h3⟩
  · exact ⟨by omega, fun x hx => by simp at hx, fun h => by simp at h⟩
  · have hm : maxLen ≤ 9223372036854775807 := by decide
    refine ⟨by omega, fun y hy => ?_, fun _ => ⟨x, rfl, fun i y hy j v hv => ?_⟩⟩
    · obtain ⟨i, hi, rfl⟩ := List.mem_map.1 hy
      have := (h3 i (List.mem_range.1 hi) 0 .i16 rfl).2
      simpa [Lit.wf, IntKind.min, IntKind.max, IntKind.signed, IntKind.bits] using this
    · have hi : i < len := by have := (List.getElem?_eq_some_iff.1 hy).1; simpa using this
      simp [List.getElem?_range hi] at hy
      subst hy
      match j, hv with
      | 0, hv =>
        simp only [i16C, List.getElem?_cons_zero, Option.some.injEq] at hv
        rw [← hv]; exact (h3 i hi 0 .i16 rfl).1
      | j + 1, hv => simp [i16C] at hv
theorem u8_rows {len : Nat} {z : Nat → Nat → Int} {w : World} {a : Option Addr} {cap : Nat} (h : RowS [.u8] w a len cap z) :
    len ≤ 9223372036854775807 ∧ (0 < ((List.range len).map (fun i => UInt8.ofNat (z i 0).toNat)).length → ∃ x, a = some x ∧ ∀ (i : Nat) (y : UInt8), ((List.range len).map (fun i => UInt8.ofNat (z i 0).toNat))[i]? = some y → ∀ (j : Nat) (v : Value), (u8C y)[j]? = some v → w.cell? (x.add (i * 1 + j)) = some v) := by
  rcases h with ⟨rfl, rfl, rfl⟩ | ⟨x, rfl, h1, h2, h3⟩
  · exact ⟨by omega, fun h => by simp at h⟩
  · have hm : maxLen ≤ 9223372036854775807 := by decide
    refine ⟨by omega, fun _ => ⟨x, rfl, fun i y hy j v hv => ?_⟩⟩
    have hi : i < len := by have := (List.getElem?_eq_some_iff.1 hy).1; simpa using this
    simp [List.getElem?_range hi] at hy
    subst hy
    match j, hv with
    | 0, hv =>
      simp only [u8C, List.getElem?_cons_zero, Option.some.injEq] at hv
      have h4 := h3 i hi 0 .u8 rfl
      have h5 : 0 ≤ z i 0 ∧ z i 0 ≤ 255 := by simpa [Lit.wf, IntKind.min, IntKind.max, IntKind.signed, IntKind.bits] using h4.2
      rw [← hv]
      have e : ((UInt8.ofNat (z i 0).toNat).toNat : Int) = z i 0 := by simp; omega
      rw [e]; exact h4.1
    | j + 1, hv => simp [u8C] at hv
theorem dataWritten_walk (a0 a1 : Int) (a2 : Option Addr) (len2 cap2 : Nat) (z2 : Nat → Nat → Int) (a3 : Option Addr) (len3 cap3 : Nat) (z3 : Nat → Nat → Int) (w : World) (w0 : (Lit.int .u8 a0).wf = true) (w1 : (Lit.int .u16 a1).wf = true) (w2 : RowS [.i16] w a2 len2 cap2 z2) (w3 : RowS [.u8] w a3 len3 cap3 z3) :
    Calls Try.prog 12 #[.int .u8 a0, .int .u16 a1, .slice a2 len2 cap2, .slice a3 len3 cap3] w fun e w' => e = .returned (.bool true) ∧ Below w.heap.size w w' := by
  have h0 : 0 ≤ a0 ∧ a0 ≤ 255 := by simpa [Lit.wf, IntKind.min, IntKind.max, IntKind.signed, IntKind.bits] using w0
  have h1 : 0 ≤ a1 ∧ a1 ≤ 65535 := by simpa [Lit.wf, IntKind.min, IntKind.max, IntKind.signed, IntKind.bits] using w1
  obtain ⟨x, rfl⟩ := Int.eq_ofNat_of_zero_le h0.1
  obtain ⟨y, rfl⟩ := Int.eq_ofNat_of_zero_le h1.1
  obtain ⟨g1, g2, g3⟩ := i16_rows w2
  obtain ⟨k1, k3⟩ := u8_rows w3
  obtain ⟨s0, ob0, bk0, bs0, hren0, hat0, hrow0, hlies0⟩ := law_slice i16C (s := 1) (fun _ => rfl) (by decide) (fun x v hv => by simp [i16C] at hv; subst hv; rfl) _ a2 cap2 w 0 g3
  obtain ⟨s1, ob1, bk1, bs1, hren1, hat1, hrow1, hlies1⟩ := law_slice u8C (s := 1) (fun _ => rfl) (by decide) (fun x v hv => by simp [u8C] at hv; subst hv; rfl) _ a3 cap3 w 1 k3
  have e2 : ((List.range len2).map (fun i => z2 i 0)).length = len2 := by simp
  have e3 : ((List.range len3).map (fun i => UInt8.ofNat (z3 i 0).toNat)).length = len3 := by simp
  have L := (dataWritten_law x y s0 s1 cap2 cap3 _ _ ob0 ob1 hat0 hat1 hrow0 hrow1 (by omega) (by omega) (by rw [e2]; exact g1) (by rw [e3]; exact k1) g2).calls ⟨fun n => if n = 0 then bk0 else bk1, fun n => if n = 0 then bs0 else bs1, fun _ => 0⟩ w (fun n b hb => by
    match n, hb with
    | 0, hb => exact hlies0 b (by simpa using hb)
    | 1, hb => exact hlies1 b (by simpa using hb)
    | n + 2, hb => simp at hb) (by simp)
  simp only [List.map_toArray, List.map_cons, List.map_nil, ren_int] at L
  rw [hren0 _ rfl rfl rfl, hren1 _ rfl rfl rfl, e2, e3] at L
  exact L.mono fun e w' h => ⟨h.1, h.2.below⟩
end Go.Proofs.Ytceddijolfpppaa
