/-
  Package mem: Do (DoFar).
  Conditions: the memory is there.
-/
import Derived.Test.YtceddijolfpppaaMem
namespace Go.Proofs.Ytceddijolfpppaa
open Go Go.RowKit
set_option linter.unusedSimpArgs false
set_option linter.unusedVariables false
attribute [local go_sem] kindsAt1 kindsAt2 kindsAt3 kindsAt4

set_option maxRecDepth 100000 in
set_option maxHeartbeats 2000000 in
theorem do_neg1 (M : MemId) (ws : List UInt64) (bs : List UInt8) (n : Int) (A B : UInt64) (w : World) (h : MemAt w M ws bs) (hn : n < 0) :
    Calls Try.prog 85 #[.pointer (some ⟨M.m, 0, none⟩), accV 1 n A B] w (Ret (.tuple #[.int .u64 0, .bool false]) (Ext [] w)) := by
  have hE := Ext.refl []
  have hl := h.wl
  have hl' := h.bl
  have n1 : (decide (n < 0)) = true := by simpa using hn
  unfold accV
  go_enter Try.func85, Try.ntmps85
  go_wp2_with fail
  have L0 := blk_lt h.hm
  refine wp_region_lit_lin [] [0,1,2,3,4,5,6,7,8,9] (Ext [] _) (Ext []) Try.mix (by kernel_rfl) (Ext.refl []) (fun _ _ _ => Ext.trans') (fun _ _ => Ext.trans') ((Ext.refl _ _).drew) (fun X _ f hf => ?_)
  have g3 : ∀ x i, (f x).cell? ⟨w.heap.size, i, none⟩ = (#[.int .u8 1, .int .i64 n, .int .u64 (A.toNat : Int), .int .u64 (B.toNat : Int)] : Array Value)[i]? := fun x i => blk_cell ((hf x).blk (blk_new _ _) (by simp)) i
  have HM : ∀ x, MemAt (f x) M ws bs := fun x => (h.alloc _).ext0 (hf x)
  have HM' := hid HM
  clear HM hf
  repeat (refine lexX_step rfl rfl (fun K hK => ?_); go_simp; (try go_bits); (try (simp only [↓IntWalk.iteOmega]; go_simp)); (refine hK _ ?_; clear hK K))

  clear g3 HM'
  refine lexX_nil (fun w1 hw1 => ?_)
  have HX := hid (((Ext.refl [] w).alloc (.cells #[.int .u8 1, .int .i64 n, .int .u64 (A.toNat : Int), .int .u64 (B.toNat : Int)] 125)).trans' hw1.of_drew)
  clear hw1
  go_wp2
  go_ret2
  exact ⟨rfl, HX.out⟩

set_option maxRecDepth 100000 in
set_option maxHeartbeats 2000000 in
theorem do_far1 (M : MemId) (ws : List UInt64) (bs : List UInt8) (n : Int) (A B : UInt64) (w : World) (h : MemAt w M ws bs) (hn : (ws.length : Int) ≤ n) :
    Calls Try.prog 85 #[.pointer (some ⟨M.m, 0, none⟩), accV 1 n A B] w (Ret (.tuple #[.int .u64 0, .bool false]) (Ext [] w)) := by
  have hE := Ext.refl []
  have hl := h.wl
  have hl' := h.bl
  have n1 : (decide (n < 0)) = false := by simp; omega
  have n2 : (decide ((ws.length : Int) ≤ n)) = true := by simpa using hn
  unfold accV
  go_enter Try.func85, Try.ntmps85
  go_wp2_with fail
  have L0 := blk_lt h.hm
  refine wp_region_lit_lin [] [0,1,2,3,4,5,6,7,8,9] (Ext [] _) (Ext []) Try.mix (by kernel_rfl) (Ext.refl []) (fun _ _ _ => Ext.trans') (fun _ _ => Ext.trans') ((Ext.refl _ _).drew) (fun X _ f hf => ?_)
  have g3 : ∀ x i, (f x).cell? ⟨w.heap.size, i, none⟩ = (#[.int .u8 1, .int .i64 n, .int .u64 (A.toNat : Int), .int .u64 (B.toNat : Int)] : Array Value)[i]? := fun x i => blk_cell ((hf x).blk (blk_new _ _) (by simp)) i
  have HM : ∀ x, MemAt (f x) M ws bs := fun x => (h.alloc _).ext0 (hf x)
  have HM' := hid HM
  clear HM hf
  repeat (refine lexX_step rfl rfl (fun K hK => ?_); go_simp; (try go_bits); (try (simp only [↓IntWalk.iteOmega]; go_simp)); (refine hK _ ?_; clear hK K))
  refine lexX_step rfl rfl (fun K hK => ?_); go_simp; refine ⟨_, fun x => ret_of (mWords_any M ws bs (f x) (HM'.out x)), hK _ ?_⟩; clear hK K
  repeat (refine lexX_step rfl rfl (fun K hK => ?_); go_simp; (try go_bits); (try (simp only [↓IntWalk.iteOmega]; go_simp)); (refine hK _ ?_; clear hK K))
  clear g3 HM'
  refine lexX_nil (fun w1 hw1 => ?_)
  have HX := hid (((Ext.refl [] w).alloc (.cells #[.int .u8 1, .int .i64 n, .int .u64 (A.toNat : Int), .int .u64 (B.toNat : Int)] 125)).trans' hw1.of_drew)
  clear hw1
  go_wp2
  go_ret2
  exact ⟨rfl, HX.out⟩

set_option maxRecDepth 100000 in
set_option maxHeartbeats 2000000 in
theorem do_neg2 (M : MemId) (ws : List UInt64) (bs : List UInt8) (n : Int) (A B : UInt64) (w : World) (h : MemAt w M ws bs) (hn : n < 0) :
    Calls Try.prog 85 #[.pointer (some ⟨M.m, 0, none⟩), accV 2 n A B] w (Ret (.tuple #[.int .u64 0, .bool false]) (Ext [] w)) := by
  have hE := Ext.refl []
  have hl := h.wl
  have hl' := h.bl
  have n1 : (decide (n < 0)) = true := by simpa using hn
  unfold accV
  go_enter Try.func85, Try.ntmps85
  go_wp2_with fail
  have L0 := blk_lt h.hm
  refine wp_region_lit_lin [] [0,1,2,3,4,5,6,7,8,9] (Ext [] _) (Ext []) Try.mix (by kernel_rfl) (Ext.refl []) (fun _ _ _ => Ext.trans') (fun _ _ => Ext.trans') ((Ext.refl _ _).drew) (fun X _ f hf => ?_)
  have g3 : ∀ x i, (f x).cell? ⟨w.heap.size, i, none⟩ = (#[.int .u8 2, .int .i64 n, .int .u64 (A.toNat : Int), .int .u64 (B.toNat : Int)] : Array Value)[i]? := fun x i => blk_cell ((hf x).blk (blk_new _ _) (by simp)) i
  have HM : ∀ x, MemAt (f x) M ws bs := fun x => (h.alloc _).ext0 (hf x)
  have HM' := hid HM
  clear HM hf
  repeat (refine lexX_step rfl rfl (fun K hK => ?_); go_simp; (try go_bits); (try (simp only [↓IntWalk.iteOmega]; go_simp)); (refine hK _ ?_; clear hK K))

  clear g3 HM'
  refine lexX_nil (fun w1 hw1 => ?_)
  have HX := hid (((Ext.refl [] w).alloc (.cells #[.int .u8 2, .int .i64 n, .int .u64 (A.toNat : Int), .int .u64 (B.toNat : Int)] 125)).trans' hw1.of_drew)
  clear hw1
  go_wp2
  go_ret2
  exact ⟨rfl, HX.out⟩

set_option maxRecDepth 100000 in
set_option maxHeartbeats 2000000 in
theorem do_far2 (M : MemId) (ws : List UInt64) (bs : List UInt8) (n : Int) (A B : UInt64) (w : World) (h : MemAt w M ws bs) (hn : (ws.length : Int) ≤ n) :
    Calls Try.prog 85 #[.pointer (some ⟨M.m, 0, none⟩), accV 2 n A B] w (Ret (.tuple #[.int .u64 0, .bool false]) (Ext [] w)) := by
  have hE := Ext.refl []
  have hl := h.wl
  have hl' := h.bl
  have n1 : (decide (n < 0)) = false := by simp; omega
  have n2 : (decide ((ws.length : Int) ≤ n)) = true := by simpa using hn
  unfold accV
  go_enter Try.func85, Try.ntmps85
  go_wp2_with fail
  have L0 := blk_lt h.hm
  refine wp_region_lit_lin [] [0,1,2,3,4,5,6,7,8,9] (Ext [] _) (Ext []) Try.mix (by kernel_rfl) (Ext.refl []) (fun _ _ _ => Ext.trans') (fun _ _ => Ext.trans') ((Ext.refl _ _).drew) (fun X _ f hf => ?_)
  have g3 : ∀ x i, (f x).cell? ⟨w.heap.size, i, none⟩ = (#[.int .u8 2, .int .i64 n, .int .u64 (A.toNat : Int), .int .u64 (B.toNat : Int)] : Array Value)[i]? := fun x i => blk_cell ((hf x).blk (blk_new _ _) (by simp)) i
  have HM : ∀ x, MemAt (f x) M ws bs := fun x => (h.alloc _).ext0 (hf x)
  have HM' := hid HM
  clear HM hf
  repeat (refine lexX_step rfl rfl (fun K hK => ?_); go_simp; (try go_bits); (try (simp only [↓IntWalk.iteOmega]; go_simp)); (refine hK _ ?_; clear hK K))
  refine lexX_step rfl rfl (fun K hK => ?_); go_simp; refine ⟨_, fun x => ret_of (mWords_any M ws bs (f x) (HM'.out x)), hK _ ?_⟩; clear hK K
  repeat (refine lexX_step rfl rfl (fun K hK => ?_); go_simp; (try go_bits); (try (simp only [↓IntWalk.iteOmega]; go_simp)); (refine hK _ ?_; clear hK K))
  clear g3 HM'
  refine lexX_nil (fun w1 hw1 => ?_)
  have HX := hid (((Ext.refl [] w).alloc (.cells #[.int .u8 2, .int .i64 n, .int .u64 (A.toNat : Int), .int .u64 (B.toNat : Int)] 125)).trans' hw1.of_drew)
  clear hw1
  go_wp2
  go_ret2
  exact ⟨rfl, HX.out⟩

set_option maxRecDepth 100000 in
set_option maxHeartbeats 2000000 in
theorem do_neg3 (M : MemId) (ws : List UInt64) (bs : List UInt8) (n : Int) (A B : UInt64) (w : World) (h : MemAt w M ws bs) (hn : n < 0) :
    Calls Try.prog 85 #[.pointer (some ⟨M.m, 0, none⟩), accV 3 n A B] w (Ret (.tuple #[.int .u64 0, .bool false]) (Ext [] w)) := by
  have hE := Ext.refl []
  have hl := h.wl
  have hl' := h.bl
  have n1 : (decide (n < 0)) = true := by simpa using hn
  unfold accV
  go_enter Try.func85, Try.ntmps85
  go_wp2_with fail
  have L0 := blk_lt h.hm
  refine wp_region_lit_lin [] [0,1,2,3,4,5,6,7,8,9] (Ext [] _) (Ext []) Try.mix (by kernel_rfl) (Ext.refl []) (fun _ _ _ => Ext.trans') (fun _ _ => Ext.trans') ((Ext.refl _ _).drew) (fun X _ f hf => ?_)
  have g3 : ∀ x i, (f x).cell? ⟨w.heap.size, i, none⟩ = (#[.int .u8 3, .int .i64 n, .int .u64 (A.toNat : Int), .int .u64 (B.toNat : Int)] : Array Value)[i]? := fun x i => blk_cell ((hf x).blk (blk_new _ _) (by simp)) i
  have HM : ∀ x, MemAt (f x) M ws bs := fun x => (h.alloc _).ext0 (hf x)
  have HM' := hid HM
  clear HM hf
  repeat (refine lexX_step rfl rfl (fun K hK => ?_); go_simp; (try go_bits); (try (simp only [↓IntWalk.iteOmega]; go_simp)); (refine hK _ ?_; clear hK K))

  clear g3 HM'
  refine lexX_nil (fun w1 hw1 => ?_)
  have HX := hid (((Ext.refl [] w).alloc (.cells #[.int .u8 3, .int .i64 n, .int .u64 (A.toNat : Int), .int .u64 (B.toNat : Int)] 125)).trans' hw1.of_drew)
  clear hw1
  go_wp2
  go_ret2
  exact ⟨rfl, HX.out⟩

set_option maxRecDepth 100000 in
set_option maxHeartbeats 2000000 in
theorem do_far3 (M : MemId) (ws : List UInt64) (bs : List UInt8) (n : Int) (A B : UInt64) (w : World) (h : MemAt w M ws bs) (hn : (ws.length : Int) ≤ n) :
    Calls Try.prog 85 #[.pointer (some ⟨M.m, 0, none⟩), accV 3 n A B] w (Ret (.tuple #[.int .u64 0, .bool false]) (Ext [] w)) := by
  have hE := Ext.refl []
  have hl := h.wl
  have hl' := h.bl
  have n1 : (decide (n < 0)) = false := by simp; omega
  have n2 : (decide ((ws.length : Int) ≤ n)) = true := by simpa using hn
  unfold accV
  go_enter Try.func85, Try.ntmps85
  go_wp2_with fail
  have L0 := blk_lt h.hm
  refine wp_region_lit_lin [] [0,1,2,3,4,5,6,7,8,9] (Ext [] _) (Ext []) Try.mix (by kernel_rfl) (Ext.refl []) (fun _ _ _ => Ext.trans') (fun _ _ => Ext.trans') ((Ext.refl _ _).drew) (fun X _ f hf => ?_)
  have g3 : ∀ x i, (f x).cell? ⟨w.heap.size, i, none⟩ = (#[.int .u8 3, .int .i64 n, .int .u64 (A.toNat : Int), .int .u64 (B.toNat : Int)] : Array Value)[i]? := fun x i => blk_cell ((hf x).blk (blk_new _ _) (by simp)) i
  have HM : ∀ x, MemAt (f x) M ws bs := fun x => (h.alloc _).ext0 (hf x)
  have HM' := hid HM
  clear HM hf
  repeat (refine lexX_step rfl rfl (fun K hK => ?_); go_simp; (try go_bits); (try (simp only [↓IntWalk.iteOmega]; go_simp)); (refine hK _ ?_; clear hK K))
  refine lexX_step rfl rfl (fun K hK => ?_); go_simp; refine ⟨_, fun x => ret_of (mWords_any M ws bs (f x) (HM'.out x)), hK _ ?_⟩; clear hK K
  repeat (refine lexX_step rfl rfl (fun K hK => ?_); go_simp; (try go_bits); (try (simp only [↓IntWalk.iteOmega]; go_simp)); (refine hK _ ?_; clear hK K))
  clear g3 HM'
  refine lexX_nil (fun w1 hw1 => ?_)
  have HX := hid (((Ext.refl [] w).alloc (.cells #[.int .u8 3, .int .i64 n, .int .u64 (A.toNat : Int), .int .u64 (B.toNat : Int)] 125)).trans' hw1.of_drew)
  clear hw1
  go_wp2
  go_ret2
  exact ⟨rfl, HX.out⟩

set_option maxRecDepth 100000 in
set_option maxHeartbeats 2000000 in
theorem do_neg4 (M : MemId) (ws : List UInt64) (bs : List UInt8) (n : Int) (A B : UInt64) (w : World) (h : MemAt w M ws bs) (hn : n < 0) :
    Calls Try.prog 85 #[.pointer (some ⟨M.m, 0, none⟩), accV 4 n A B] w (Ret (.tuple #[.int .u64 0, .bool false]) (Ext [] w)) := by
  have hE := Ext.refl []
  have hl := h.wl
  have hl' := h.bl
  have n1 : (decide (n < 0)) = true := by simpa using hn
  unfold accV
  go_enter Try.func85, Try.ntmps85
  go_wp2_with fail
  have L0 := blk_lt h.hm
  refine wp_region_lit_lin [] [0,1,2,3,4,5,6,7,8,9] (Ext [] _) (Ext []) Try.mix (by kernel_rfl) (Ext.refl []) (fun _ _ _ => Ext.trans') (fun _ _ => Ext.trans') ((Ext.refl _ _).drew) (fun X _ f hf => ?_)
  have g3 : ∀ x i, (f x).cell? ⟨w.heap.size, i, none⟩ = (#[.int .u8 4, .int .i64 n, .int .u64 (A.toNat : Int), .int .u64 (B.toNat : Int)] : Array Value)[i]? := fun x i => blk_cell ((hf x).blk (blk_new _ _) (by simp)) i
  have HM : ∀ x, MemAt (f x) M ws bs := fun x => (h.alloc _).ext0 (hf x)
  have HM' := hid HM
  clear HM hf
  repeat (refine lexX_step rfl rfl (fun K hK => ?_); go_simp; (try go_bits); (try (simp only [↓IntWalk.iteOmega]; go_simp)); (refine hK _ ?_; clear hK K))

  clear g3 HM'
  refine lexX_nil (fun w1 hw1 => ?_)
  have HX := hid (((Ext.refl [] w).alloc (.cells #[.int .u8 4, .int .i64 n, .int .u64 (A.toNat : Int), .int .u64 (B.toNat : Int)] 125)).trans' hw1.of_drew)
  clear hw1
  go_wp2
  go_ret2
  exact ⟨rfl, HX.out⟩

set_option maxRecDepth 100000 in
set_option maxHeartbeats 2000000 in
theorem do_far4 (M : MemId) (ws : List UInt64) (bs : List UInt8) (n : Int) (A B : UInt64) (w : World) (h : MemAt w M ws bs) (hn : (ws.length : Int) ≤ n) :
    Calls Try.prog 85 #[.pointer (some ⟨M.m, 0, none⟩), accV 4 n A B] w (Ret (.tuple #[.int .u64 0, .bool false]) (Ext [] w)) := by
  have hE := Ext.refl []
  have hl := h.wl
  have hl' := h.bl
  have n1 : (decide (n < 0)) = false := by simp; omega
  have n2 : (decide ((ws.length : Int) ≤ n)) = true := by simpa using hn
  unfold accV
  go_enter Try.func85, Try.ntmps85
  go_wp2_with fail
  have L0 := blk_lt h.hm
  refine wp_region_lit_lin [] [0,1,2,3,4,5,6,7,8,9] (Ext [] _) (Ext []) Try.mix (by kernel_rfl) (Ext.refl []) (fun _ _ _ => Ext.trans') (fun _ _ => Ext.trans') ((Ext.refl _ _).drew) (fun X _ f hf => ?_)
  have g3 : ∀ x i, (f x).cell? ⟨w.heap.size, i, none⟩ = (#[.int .u8 4, .int .i64 n, .int .u64 (A.toNat : Int), .int .u64 (B.toNat : Int)] : Array Value)[i]? := fun x i => blk_cell ((hf x).blk (blk_new _ _) (by simp)) i
  have HM : ∀ x, MemAt (f x) M ws bs := fun x => (h.alloc _).ext0 (hf x)
  have HM' := hid HM
  clear HM hf
  repeat (refine lexX_step rfl rfl (fun K hK => ?_); go_simp; (try go_bits); (try (simp only [↓IntWalk.iteOmega]; go_simp)); (refine hK _ ?_; clear hK K))
  refine lexX_step rfl rfl (fun K hK => ?_); go_simp; refine ⟨_, fun x => ret_of (mWords_any M ws bs (f x) (HM'.out x)), hK _ ?_⟩; clear hK K
  repeat (refine lexX_step rfl rfl (fun K hK => ?_); go_simp; (try go_bits); (try (simp only [↓IntWalk.iteOmega]; go_simp)); (refine hK _ ?_; clear hK K))
  clear g3 HM'
  refine lexX_nil (fun w1 hw1 => ?_)
  have HX := hid (((Ext.refl [] w).alloc (.cells #[.int .u8 4, .int .i64 n, .int .u64 (A.toNat : Int), .int .u64 (B.toNat : Int)] 125)).trans' hw1.of_drew)
  clear hw1
  go_wp2
  go_ret2
  exact ⟨rfl, HX.out⟩

set_option maxRecDepth 100000 in
set_option maxHeartbeats 2000000 in
theorem do_neg5 (M : MemId) (ws : List UInt64) (bs : List UInt8) (n : Int) (A B : UInt64) (w : World) (h : MemAt w M ws bs) (hn : n < 0) :
    Calls Try.prog 85 #[.pointer (some ⟨M.m, 0, none⟩), accV 5 n A B] w (Ret (.tuple #[.int .u64 0, .bool false]) (Ext [] w)) := by
  have hE := Ext.refl []
  have hl := h.wl
  have hl' := h.bl
  have n1 : (decide (n < 0)) = true := by simpa using hn
  unfold accV
  go_enter Try.func85, Try.ntmps85
  go_wp2_with fail
  have L0 := blk_lt h.hm
  refine wp_region_lit_lin [] [0,1,2,3,4,5,6,7,8,9] (Ext [] _) (Ext []) Try.mix (by kernel_rfl) (Ext.refl []) (fun _ _ _ => Ext.trans') (fun _ _ => Ext.trans') ((Ext.refl _ _).drew) (fun X _ f hf => ?_)
  have g3 : ∀ x i, (f x).cell? ⟨w.heap.size, i, none⟩ = (#[.int .u8 5, .int .i64 n, .int .u64 (A.toNat : Int), .int .u64 (B.toNat : Int)] : Array Value)[i]? := fun x i => blk_cell ((hf x).blk (blk_new _ _) (by simp)) i
  have HM : ∀ x, MemAt (f x) M ws bs := fun x => (h.alloc _).ext0 (hf x)
  have HM' := hid HM
  clear HM hf
  repeat (refine lexX_step rfl rfl (fun K hK => ?_); go_simp; (try go_bits); (try (simp only [↓IntWalk.iteOmega]; go_simp)); (refine hK _ ?_; clear hK K))

  clear g3 HM'
  refine lexX_nil (fun w1 hw1 => ?_)
  have HX := hid (((Ext.refl [] w).alloc (.cells #[.int .u8 5, .int .i64 n, .int .u64 (A.toNat : Int), .int .u64 (B.toNat : Int)] 125)).trans' hw1.of_drew)
  clear hw1
  go_wp2
  go_ret2
  exact ⟨rfl, HX.out⟩

set_option maxRecDepth 100000 in
set_option maxHeartbeats 2000000 in
theorem do_far5 (M : MemId) (ws : List UInt64) (bs : List UInt8) (n : Int) (A B : UInt64) (w : World) (h : MemAt w M ws bs) (hn : (bs.length : Int) ≤ n) :
    Calls Try.prog 85 #[.pointer (some ⟨M.m, 0, none⟩), accV 5 n A B] w (Ret (.tuple #[.int .u64 0, .bool false]) (Ext [] w)) := by
  have hE := Ext.refl []
  have hl := h.wl
  have hl' := h.bl
  have n1 : (decide (n < 0)) = false := by simp; omega
  have n2 : (decide ((bs.length : Int) ≤ n)) = true := by simpa using hn
  unfold accV
  go_enter Try.func85, Try.ntmps85
  go_wp2_with fail
  have L0 := blk_lt h.hm
  refine wp_region_lit_lin [] [0,1,2,3,4,5,6,7,8,9] (Ext [] _) (Ext []) Try.mix (by kernel_rfl) (Ext.refl []) (fun _ _ _ => Ext.trans') (fun _ _ => Ext.trans') ((Ext.refl _ _).drew) (fun X _ f hf => ?_)
  have g3 : ∀ x i, (f x).cell? ⟨w.heap.size, i, none⟩ = (#[.int .u8 5, .int .i64 n, .int .u64 (A.toNat : Int), .int .u64 (B.toNat : Int)] : Array Value)[i]? := fun x i => blk_cell ((hf x).blk (blk_new _ _) (by simp)) i
  have HM : ∀ x, MemAt (f x) M ws bs := fun x => (h.alloc _).ext0 (hf x)
  have HM' := hid HM
  clear HM hf
  repeat (refine lexX_step rfl rfl (fun K hK => ?_); go_simp; (try go_bits); (try (simp only [↓IntWalk.iteOmega]; go_simp)); (refine hK _ ?_; clear hK K))
  refine lexX_step rfl rfl (fun K hK => ?_); go_simp; refine ⟨_, fun x => ret_of (mBytes_any M ws bs (f x) (HM'.out x)), hK _ ?_⟩; clear hK K
  repeat (refine lexX_step rfl rfl (fun K hK => ?_); go_simp; (try go_bits); (try (simp only [↓IntWalk.iteOmega]; go_simp)); (refine hK _ ?_; clear hK K))
  clear g3 HM'
  refine lexX_nil (fun w1 hw1 => ?_)
  have HX := hid (((Ext.refl [] w).alloc (.cells #[.int .u8 5, .int .i64 n, .int .u64 (A.toNat : Int), .int .u64 (B.toNat : Int)] 125)).trans' hw1.of_drew)
  clear hw1
  go_wp2
  go_ret2
  exact ⟨rfl, HX.out⟩

set_option maxRecDepth 100000 in
set_option maxHeartbeats 2000000 in
theorem do_neg6 (M : MemId) (ws : List UInt64) (bs : List UInt8) (n : Int) (A B : UInt64) (w : World) (h : MemAt w M ws bs) (hn : n < 0) :
    Calls Try.prog 85 #[.pointer (some ⟨M.m, 0, none⟩), accV 6 n A B] w (Ret (.tuple #[.int .u64 0, .bool false]) (Ext [] w)) := by
  have hE := Ext.refl []
  have hl := h.wl
  have hl' := h.bl
  have n1 : (decide (n < 0)) = true := by simpa using hn
  unfold accV
  go_enter Try.func85, Try.ntmps85
  go_wp2_with fail
  have L0 := blk_lt h.hm
  refine wp_region_lit_lin [] [0,1,2,3,4,5,6,7,8,9] (Ext [] _) (Ext []) Try.mix (by kernel_rfl) (Ext.refl []) (fun _ _ _ => Ext.trans') (fun _ _ => Ext.trans') ((Ext.refl _ _).drew) (fun X _ f hf => ?_)
  have g3 : ∀ x i, (f x).cell? ⟨w.heap.size, i, none⟩ = (#[.int .u8 6, .int .i64 n, .int .u64 (A.toNat : Int), .int .u64 (B.toNat : Int)] : Array Value)[i]? := fun x i => blk_cell ((hf x).blk (blk_new _ _) (by simp)) i
  have HM : ∀ x, MemAt (f x) M ws bs := fun x => (h.alloc _).ext0 (hf x)
  have HM' := hid HM
  clear HM hf
  repeat (refine lexX_step rfl rfl (fun K hK => ?_); go_simp; (try go_bits); (try (simp only [↓IntWalk.iteOmega]; go_simp)); (refine hK _ ?_; clear hK K))

  clear g3 HM'
  refine lexX_nil (fun w1 hw1 => ?_)
  have HX := hid (((Ext.refl [] w).alloc (.cells #[.int .u8 6, .int .i64 n, .int .u64 (A.toNat : Int), .int .u64 (B.toNat : Int)] 125)).trans' hw1.of_drew)
  clear hw1
  go_wp2
  go_ret2
  exact ⟨rfl, HX.out⟩

set_option maxRecDepth 100000 in
set_option maxHeartbeats 2000000 in
theorem do_far6 (M : MemId) (ws : List UInt64) (bs : List UInt8) (n : Int) (A B : UInt64) (w : World) (h : MemAt w M ws bs) (hn : (bs.length : Int) ≤ n) :
    Calls Try.prog 85 #[.pointer (some ⟨M.m, 0, none⟩), accV 6 n A B] w (Ret (.tuple #[.int .u64 0, .bool false]) (Ext [] w)) := by
  have hE := Ext.refl []
  have hl := h.wl
  have hl' := h.bl
  have n1 : (decide (n < 0)) = false := by simp; omega
  have n2 : (decide ((bs.length : Int) ≤ n)) = true := by simpa using hn
  unfold accV
  go_enter Try.func85, Try.ntmps85
  go_wp2_with fail
  have L0 := blk_lt h.hm
  refine wp_region_lit_lin [] [0,1,2,3,4,5,6,7,8,9] (Ext [] _) (Ext []) Try.mix (by kernel_rfl) (Ext.refl []) (fun _ _ _ => Ext.trans') (fun _ _ => Ext.trans') ((Ext.refl _ _).drew) (fun X _ f hf => ?_)
  have g3 : ∀ x i, (f x).cell? ⟨w.heap.size, i, none⟩ = (#[.int .u8 6, .int .i64 n, .int .u64 (A.toNat : Int), .int .u64 (B.toNat : Int)] : Array Value)[i]? := fun x i => blk_cell ((hf x).blk (blk_new _ _) (by simp)) i
  have HM : ∀ x, MemAt (f x) M ws bs := fun x => (h.alloc _).ext0 (hf x)
  have HM' := hid HM
  clear HM hf
  repeat (refine lexX_step rfl rfl (fun K hK => ?_); go_simp; (try go_bits); (try (simp only [↓IntWalk.iteOmega]; go_simp)); (refine hK _ ?_; clear hK K))
  refine lexX_step rfl rfl (fun K hK => ?_); go_simp; refine ⟨_, fun x => ret_of (mBytes_any M ws bs (f x) (HM'.out x)), hK _ ?_⟩; clear hK K
  repeat (refine lexX_step rfl rfl (fun K hK => ?_); go_simp; (try go_bits); (try (simp only [↓IntWalk.iteOmega]; go_simp)); (refine hK _ ?_; clear hK K))
  clear g3 HM'
  refine lexX_nil (fun w1 hw1 => ?_)
  have HX := hid (((Ext.refl [] w).alloc (.cells #[.int .u8 6, .int .i64 n, .int .u64 (A.toNat : Int), .int .u64 (B.toNat : Int)] 125)).trans' hw1.of_drew)
  clear hw1
  go_wp2
  go_ret2
  exact ⟨rfl, HX.out⟩

end Go.Proofs.Ytceddijolfpppaa
