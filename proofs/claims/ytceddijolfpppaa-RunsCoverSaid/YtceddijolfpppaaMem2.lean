/-
  Package mem: New, Word; Do of words as one contract.
  Conditions: sizes that New lets.
-/
import Derived.Test.YtceddijolfpppaaDo
import Derived.Test.YtceddijolfpppaaDoFar
import Derived.BigRegion
namespace Go.Proofs.Ytceddijolfpppaa
open Go Go.RowKit
set_option linter.unusedSimpArgs false
set_option linter.unusedVariables false

/-- A new memory. -/
def MemNew (w : World) (ws : List UInt64) (bs : List UInt8) (e : Ending) (w' : World) : Prop :=
  ∃ M : MemId, e = .returned (.tuple #[.pointer (some ⟨M.m, 0, none⟩), .int .i64 0]) ∧ MemAt w' M ws bs ∧ Ext [] w w' ∧ w.heap.size ≤ M.m ∧ w.heap.size ≤ M.bw ∧ w.heap.size ≤ M.bb

theorem made_w (a : Nat) : madeCells #[.int .u64 0] (a * 1) = wcells (List.replicate a 0) := by
  apply Array.ext_getElem?
  intro j
  by_cases h : j < a
  · simp [madeCells, wcells, h, Nat.mod_one]
  · simp [madeCells, wcells, h]
theorem made_b (a : Nat) : madeCells #[.int .u8 0] (a * 1) = bcells (List.replicate a 0) := by
  apply Array.ext_getElem?
  intro j
  by_cases h : j < a
  · simp [madeCells, bcells, h, Nat.mod_one]
  · simp [madeCells, bcells, h]

theorem Try.infoU64 : (Try.prog.info? 49).map (fun i => (i.zero, i.size, i.bytes)) = some (some (.int .u64 0), 1, 8) := by kernel_rfl
theorem Try.infoU8 : (Try.prog.info? 5).map (fun i => (i.zero, i.size, i.bytes)) = some (some (.int .u8 0), 1, 1) := by kernel_rfl

theorem make_w (a : Nat) (ha : a ≤ 2097152) (v : World) : (Instr.makeSlice 170 (.int .i64 a) (.int .i64 a)).run Try.prog v = .ok (.slice (some ⟨v.heap.size, 0, none⟩) a a) (v.alloc (.cells (wcells (List.replicate a 0)) 49)) := by
  obtain ⟨i, hi, hz, hs, hb⟩ := info_parts Try.infoU64
  have h := run_make (P := Try.prog) v 170 49 i _ Try.underlying170 hi hz .i64 .i64 (a : Int) (a : Int) (by omega) (by omega) (by rw [hb]; omega) (by omega)
  rw [h, hs, ← made_w]; rfl
theorem make_b (a : Nat) (ha : a ≤ 1048576) (v : World) : (Instr.makeSlice 22 (.int .i64 a) (.int .i64 a)).run Try.prog v = .ok (.slice (some ⟨v.heap.size, 0, none⟩) a a) (v.alloc (.cells (bcells (List.replicate a 0)) 5)) := by
  obtain ⟨i, hi, hz, hs, hb⟩ := info_parts Try.infoU8
  have h := run_make (P := Try.prog) v 22 5 i _ Try.underlying22 hi hz .i64 .i64 (a : Int) (a : Int) (by omega) (by omega) (by rw [hb]; omega) (by omega)
  rw [h, hs, ← made_b]; rfl

set_option maxRecDepth 100000 in
set_option maxHeartbeats 1000000 in
theorem mNew_any (a b : Nat) (w : World) (ha : a ≤ 2097152) (hb : b ≤ 1048576) :
    Calls Try.prog 90 #[.int .i64 a, .int .i64 b] w (MemNew w (List.replicate a 0) (List.replicate b 0)) := by
  have hm1 := make_w a ha
  have hm2 := make_b b hb
  go_enter Try.func90, Try.ntmps90
  go_wp2_with fail
  go_region
  · go_wp2
    go_ret2
    refine ⟨⟨w.heap.size + 1 + 1, w.heap.size, w.heap.size + 1, #[], #[]⟩, rfl, ⟨?_, ?_, ?_, by simpa using ha, by simpa using hb⟩, ?_, by simp; omega, by simp, by simp⟩
    · simp [go_sem, memC, List.length_replicate]
    · simp [go_sem]
    · simp [go_sem]
    · exact ((((Ext.refl [] w).alloc _).alloc _).alloc _).drew
  · go_wp2
    go_ret2
    refine ⟨⟨w.heap.size + 1 + 1, w.heap.size + 1, w.heap.size, #[], #[]⟩, rfl, ⟨?_, ?_, ?_, by simpa using ha, by simpa using hb⟩, ?_, by simp; omega, by simp, by simp⟩
    · simp [go_sem, memC, List.length_replicate]
    · simp [go_sem]
    · simp [go_sem]
    · exact ((((Ext.refl [] w).alloc _).alloc _).alloc _).drew

/-! ### Do of words -/

/-- The word of a number, if there is one. -/
def wAt (ws : List UInt64) (n : Int) : Option UInt64 := if n < 0 then none else ws[n.toNat]?
def kNow (k : Nat) (x A B : UInt64) : UInt64 := match k with
  | 1 => x | 2 => A | 3 => if x = A then B else x | _ => x + A
def kTold (k : Nat) (x A : UInt64) : UInt64 := match k with
  | 1 => x | 2 => 0 | 3 => if x = A then 1 else 0 | _ => x
/-- What an access of a word tells, and the words behind it. -/
def wT (k : Nat) (n : Int) (A : UInt64) (ws : List UInt64) : UInt64 := match wAt ws n with
  | none => 0 | some x => kTold k x A
def wS (k : Nat) (n : Int) (A B : UInt64) (ws : List UInt64) : List UInt64 := match wAt ws n with
  | none => ws | some x => ws.set n.toNat (kNow k x A B)

theorem wAt_in {ws : List UInt64} {n : Nat} (h : n < ws.length) : wAt ws n = some ws[n] := by unfold wAt; rw [if_neg (by omega)]; simp [h]
theorem wAt_neg {ws : List UInt64} {n : Int} (h : n < 0) : wAt ws n = none := if_pos h
theorem wAt_far {ws : List UInt64} {n : Int} (h : (ws.length : Int) ≤ n) : wAt ws n = none := by unfold wAt; rw [if_neg (by omega)]; simp; omega
theorem wS_length (k : Nat) (n : Int) (A B : UInt64) (ws : List UInt64) : (wS k n A B ws).length = ws.length := by unfold wS; split <;> simp

theorem set_same {ws : List UInt64} {n : Nat} (h : n < ws.length) : ws.set n ws[n] = ws := by
  apply List.ext_getElem?; intro j
  rw [List.getElem?_set]; split
  · rename_i e; subst e; simp [h]
  · rfl

def DoSaid (M : MemId) (k : Nat) (n : Int) (A B : UInt64) (ws : List UInt64) (bs : List UInt8) (w : World) (e : Ending) (w' : World) : Prop :=
  e = .returned (.tuple #[.int .u64 ((wT k n A ws).toNat : Int), .bool (wAt ws n).isSome]) ∧ MemAt w' M (wS k n A B ws) bs ∧ Ext [M.bw] w w'

theorem do_word (M : MemId) (ws : List UInt64) (bs : List UInt8) (k : Nat) (kv : Int) (n : Int) (A B : UInt64) (w : World) (h : MemAt w M ws bs) (hkv : kv = k) (hk1 : 1 ≤ k) (hk : k ≤ 4) :
    Calls Try.prog 85 #[.pointer (some ⟨M.m, 0, none⟩), accV kv n A B] w (DoSaid M k n A B ws bs w) := by
  subst hkv
  by_cases h0 : n < 0
  · have hn := wAt_neg (ws := ws) h0
    have key : Calls Try.prog 85 #[.pointer (some ⟨M.m, 0, none⟩), accV k n A B] w (Ret (.tuple #[.int .u64 0, .bool false]) (Ext [] w)) := by
      match k, hk1, hk with
      | 1, _, _ => exact do_neg1 M ws bs n A B w h h0
      | 2, _, _ => exact do_neg2 M ws bs n A B w h h0
      | 3, _, _ => exact do_neg3 M ws bs n A B w h h0
      | 4, _, _ => exact do_neg4 M ws bs n A B w h h0
    refine key.mono fun e w' ⟨he, hx⟩ => ⟨?_, ?_, hx.mono (by simp)⟩
    · simp only [wT, hn]; exact he
    · simp only [wS, hn]; exact h.ext0 hx
  by_cases h1 : (ws.length : Int) ≤ n
  · have hn := wAt_far h1
    have key : Calls Try.prog 85 #[.pointer (some ⟨M.m, 0, none⟩), accV k n A B] w (Ret (.tuple #[.int .u64 0, .bool false]) (Ext [] w)) := by
      match k, hk1, hk with
      | 1, _, _ => exact do_far1 M ws bs n A B w h h1
      | 2, _, _ => exact do_far2 M ws bs n A B w h h1
      | 3, _, _ => exact do_far3 M ws bs n A B w h h1
      | 4, _, _ => exact do_far4 M ws bs n A B w h h1
    refine key.mono fun e w' ⟨he, hx⟩ => ⟨?_, ?_, hx.mono (by simp)⟩
    · simp only [wT, hn]; exact he
    · simp only [wS, hn]; exact h.ext0 hx
  · obtain ⟨m, rfl⟩ := Int.eq_ofNat_of_zero_le (show 0 ≤ n by omega)
    have hm : m < ws.length := by omega
    have hn := wAt_in hm
    unfold DoSaid
    simp only [wT, wS, hn, Int.toNat_natCast, Option.isSome_some]
    match k, hk1, hk with
    | 1, _, _ => exact do_load M ws bs m A B w h hm
    | 2, _, _ => exact do_store M ws bs m A B w h hm
    | 3, _, _ =>
      by_cases hx : ws[m] = A
      · subst hx
        simp only [kTold, kNow, if_true]
        exact do_cash M ws bs m B w h hm
      · simp only [kTold, kNow, hx, if_false]
        exact do_casm M ws bs m A B w h hm hx
    | 4, _, _ => exact do_add M ws bs m A B w h hm

set_option maxHeartbeats 1000000 in
theorem mWord_any (M : MemId) (ws : List UInt64) (bs : List UInt8) (n : Int) (w : World) (h : MemAt w M ws bs) :
    Calls Try.prog 30 #[.pointer (some ⟨M.m, 0, none⟩), .int .i64 n] w (fun e w' => e = .returned (.int .u64 ((wT 1 n 0 ws).toNat : Int)) ∧ MemAt w' M ws bs ∧ Ext [M.bw] w w') := by
  have hs : wS 1 n 0 0 ws = ws := by
    unfold wS
    split
    · rfl
    · rename_i x hx
      unfold wAt at hx
      split at hx
      · cases hx
      · obtain ⟨hl, rfl⟩ := List.getElem?_eq_some_iff.1 hx
        exact set_same hl
  have H := hid (do_word M ws bs 1 1 n 0 0 w h rfl (by omega) (by omega))
  have HS := hid hs
  clear h hs
  go_enter Try.func30, Try.ntmps30
  go_wp2_with fail
  refine H.out.mono ?_
  rintro e w1 ⟨rfl, h1, x1⟩
  rw [HS.out] at h1
  have H1 := hid h1
  have X1 := hid x1
  clear h1 x1
  go_wp2
  go_ret
  exact ⟨rfl, H1.out, X1.out⟩

end Go.Proofs.Ytceddijolfpppaa
