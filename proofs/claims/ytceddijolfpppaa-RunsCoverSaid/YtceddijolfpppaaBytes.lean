/-
  Package mem: Do with Get and Put; Byte; a direct port's Get and Put.
  Conditions: the memory is there.
-/
import Derived.Test.YtceddijolfpppaaPort
namespace Go.Proofs.Ytceddijolfpppaa
open Go Go.RowKit
set_option linter.unusedSimpArgs false
set_option linter.unusedVariables false

/-- The byte of a number, if there is one. -/
def bAt (bs : List UInt8) (n : Int) : Option UInt8 := if n < 0 then none else bs[n.toNat]?
def bT (n : Int) (bs : List UInt8) : UInt8 := match bAt bs n with | none => 0 | some x => x
def bS (n : Int) (b : UInt8) (bs : List UInt8) : List UInt8 := match bAt bs n with | none => bs | some _ => bs.set n.toNat b
theorem bAt_in {bs : List UInt8} {n : Nat} (h : n < bs.length) : bAt bs n = some bs[n] := by unfold bAt; rw [if_neg (by omega)]; simp [h]
theorem bAt_neg {bs : List UInt8} {n : Int} (h : n < 0) : bAt bs n = none := if_pos h
theorem bAt_far {bs : List UInt8} {n : Int} (h : (bs.length : Int) ≤ n) : bAt bs n = none := by unfold bAt; rw [if_neg (by omega)]; simp; omega
theorem bS_length (n : Int) (b : UInt8) (bs : List UInt8) : (bS n b bs).length = bs.length := by unfold bS; split <;> simp
theorem u8_wrap (A : UInt64) : IntKind.u8.wrap (A.toNat : Int) = (A.toUInt8.toNat : Int) := by
  rw [IntKind.wrap_u8]; simp
theorem u64_u8 (b : UInt8) : IntKind.u64.wrap (b.toNat : Int) = ((b.toUInt64).toNat : Int) := by
  have := b.toNat_lt
  rw [IntKind.wrap_u64]; simp; omega
theorem u8_u8 (b : UInt8) : IntKind.u8.wrap (b.toNat : Int) = (b.toNat : Int) := by
  have := b.toNat_lt
  rw [IntKind.wrap_u8]; omega

set_option maxRecDepth 100000 in
set_option maxHeartbeats 2000000 in
theorem do_bneg5 (M : MemId) (ws : List UInt64) (bs : List UInt8) (n : Int) (A B : UInt64) (w : World) (h : MemAt w M ws bs) (hn : n < 0) :
    Calls Try.prog 85 #[.pointer (some ⟨M.m, 0, none⟩), accV 5 n A B] w (Ret (.tuple #[.int .u64 0, .bool false]) (Ext [] w)) := by
  have hE := Ext.refl []
  have hl := h.wl
  have hl' := h.bl
  have n1 : (decide (n < 0)) = true := by simpa using hn
  unfold accV
  go_enter Try.func85, Try.ntmps85
  go_wp2_with fail
  have L0 := blk_lt h.hm
  refine wp_region_lit_lin [] [0,1,2,3,4,5,6,7,8,9] (Ext [] _) (Ext []) Try.mix (by kernel_rfl) (Ext.refl []) (fun _ _ _ => Ext.trans') (fun _ _ => Ext.trans') ((Ext.refl _ _).drew) (fun X _ f hf => ?_)
  have g3 : ∀ x i, (f x).cell? ⟨w.heap.size, i, none⟩ = (#[.int .u8 5, .int .i64 n, .int .u64 (A.toNat : Int), .int .u64 (B.toNat : Int)] : Array Value)[i]? := fun x i => blk_cell ((hf x).blk (blk_new _ _) (by simp)) i
  have HM : ∀ x, MemAt (f x) M ws bs := fun x => (h.alloc _).ext0 (hf x)
  have HM' := hid HM
  clear HM hf
  repeat (refine lexX_step rfl rfl (fun K hK => ?_); go_simp; (try go_bits); (try (simp only [↓IntWalk.iteOmega]; go_simp)); (refine hK _ ?_; clear hK K))
  clear g3 HM'
  refine lexX_nil (fun w1 hw1 => ?_)
  have HX := hid (((Ext.refl [] w).alloc (.cells #[.int .u8 5, .int .i64 n, .int .u64 (A.toNat : Int), .int .u64 (B.toNat : Int)] 125)).trans' hw1.of_drew)
  clear hw1
  go_wp2
  go_ret2
  exact ⟨rfl, HX.out⟩

set_option maxRecDepth 100000 in
set_option maxHeartbeats 2000000 in
theorem do_bfar5 (M : MemId) (ws : List UInt64) (bs : List UInt8) (n : Int) (A B : UInt64) (w : World) (h : MemAt w M ws bs) (hn : (bs.length : Int) ≤ n) :
    Calls Try.prog 85 #[.pointer (some ⟨M.m, 0, none⟩), accV 5 n A B] w (Ret (.tuple #[.int .u64 0, .bool false]) (Ext [] w)) := by
  have hE := Ext.refl []
  have hl := h.wl
  have hl' := h.bl
  have n1 : (decide (n < 0)) = false := by simp; omega
  have n2 : (decide ((bs.length : Int) ≤ n)) = true := by simpa using hn
  unfold accV
  go_enter Try.func85, Try.ntmps85
  go_wp2_with fail
  have L0 := blk_lt h.hm
  refine wp_region_lit_lin [] [0,1,2,3,4,5,6,7,8,9] (Ext [] _) (Ext []) Try.mix (by kernel_rfl) (Ext.refl []) (fun _ _ _ => Ext.trans') (fun _ _ => Ext.trans') ((Ext.refl _ _).drew) (fun X _ f hf => ?_)
  have g3 : ∀ x i, (f x).cell? ⟨w.heap.size, i, none⟩ = (#[.int .u8 5, .int .i64 n, .int .u64 (A.toNat : Int), .int .u64 (B.toNat : Int)] : Array Value)[i]? := fun x i => blk_cell ((hf x).blk (blk_new _ _) (by simp)) i
  have HM : ∀ x, MemAt (f x) M ws bs := fun x => (h.alloc _).ext0 (hf x)
  have HM' := hid HM
  clear HM hf
  repeat (refine lexX_step rfl rfl (fun K hK => ?_); go_simp; (try go_bits); (try (simp only [↓IntWalk.iteOmega]; go_simp)); (refine hK _ ?_; clear hK K))
  refine lexX_step rfl rfl (fun K hK => ?_); go_simp; refine ⟨_, fun x => ret_of (mBytes_any M ws bs (f x) (HM'.out x)), hK _ ?_⟩; clear hK K
  repeat (refine lexX_step rfl rfl (fun K hK => ?_); go_simp; (try go_bits); (try (simp only [↓IntWalk.iteOmega]; go_simp)); (refine hK _ ?_; clear hK K))
  clear g3 HM'
  refine lexX_nil (fun w1 hw1 => ?_)
  have HX := hid (((Ext.refl [] w).alloc (.cells #[.int .u8 5, .int .i64 n, .int .u64 (A.toNat : Int), .int .u64 (B.toNat : Int)] 125)).trans' hw1.of_drew)
  clear hw1
  go_wp2
  go_ret2
  exact ⟨rfl, HX.out⟩

set_option maxRecDepth 100000 in
set_option maxHeartbeats 2000000 in
theorem do_get (M : MemId) (ws : List UInt64) (bs : List UInt8) (n : Nat) (A B : UInt64) (w : World) (h : MemAt w M ws bs) (hn : n < bs.length) :
    Calls Try.prog 85 #[.pointer (some ⟨M.m, 0, none⟩), accV 5 n A B] w (fun e w' => e = .returned (.tuple #[.int .u64 (bs[n].toUInt64.toNat : Int), .bool true]) ∧ MemAt w' M ws (bs) ∧ Ext [] w w') := by
  have hE := Ext.refl []
  have hl := h.wl
  have hl' := h.bl
  have n1 : (decide ((n : Int) < 0)) = false := by simp
  have n2 : (decide ((bs.length : Int) ≤ (n : Int))) = false := by simp; omega
  unfold accV
  go_enter Try.func85, Try.ntmps85
  go_wp2_with fail
  have L0 := blk_lt h.hm
  have L1 := blk_lt h.hb
  refine wp_region_lit_lin [] [0,1,2,3,4,5,6,7,8,9] (Ext [] _) (Ext []) Try.mix (by kernel_rfl) (Ext.refl []) (fun _ _ _ => Ext.trans') (fun _ _ => Ext.trans') ((Ext.refl _ _).drew) (fun X _ f hf => ?_)
  have g3 : ∀ x i, (f x).cell? ⟨w.heap.size, i, none⟩ = (#[.int .u8 5, .int .i64 n, .int .u64 (A.toNat : Int), .int .u64 (B.toNat : Int)] : Array Value)[i]? := fun x i => blk_cell ((hf x).blk (blk_new _ _) (by simp)) i
  have HM : ∀ x, MemAt (f x) M ws bs := fun x => (h.alloc _).ext0 (hf x)
  have HM' := hid HM
  clear HM hf
  repeat (refine lexX_step rfl rfl (fun K hK => ?_); go_simp; (try go_bits); (try (simp only [↓IntWalk.iteOmega]; go_simp)); (refine hK _ ?_; clear hK K))
  refine lexX_step rfl rfl (fun K hK => ?_); go_simp; refine ⟨_, fun x => ret_of (mBytes_any M ws bs (f x) (HM'.out x)), hK _ ?_⟩; clear hK K
  repeat (refine lexX_step rfl rfl (fun K hK => ?_); go_simp; (try go_bits); (try (simp only [↓IntWalk.iteOmega]; go_simp)); (refine hK _ ?_; clear hK K))
  clear g3 HM'
  refine lexX_nil (fun w1 hw1 => ?_)
  have hx := ((Ext.refl [] w).alloc (.cells #[.int .u8 5, .int .i64 n, .int .u64 (A.toNat : Int), .int .u64 (B.toNat : Int)] 125)).trans' hw1.of_drew
  have g1 : blk w1 w.heap.size = some (.cells #[.int .u8 5, .int .i64 n, .int .u64 (A.toNat : Int), .int .u64 (B.toNat : Int)] 125 (0, 0)) := hw1.of_drew.blk (blk_new _ _) (by simp)
  have h1 := h.ext0 hx
  have hc1 := h1.c1
  have hcb := h1.cb hn
  have hfr := blk_free h1.hb n
  have L2 : M.bb ≠ w.heap.size := by omega
  have hk0 : w1.cell? ⟨w.heap.size, 0, none⟩ = some (.int .u8 5) := blk_cell g1 0
  have G1 := hid g1
  have HX := hid hx
  have H1 := hid h1
  have hu := u8_wrap A
  clear hx hw1 g1 h1
  go_wp2_with fail
  refine wp_region_lit_lin [] [0,1,2,3,4,5,6,7,8,9,10] (Ext [] _) (Ext []) Try.mix (by kernel_rfl) (Ext.refl []) (fun _ _ _ => Ext.trans') (fun _ _ h k => h.trans0 k) ((Ext.refl _ _).drew) (fun X _ f hf => ?_)
  have g3 : ∀ x i, (f x).cell? ⟨w.heap.size, i, none⟩ = (#[.int .u8 5, .int .i64 n, .int .u64 (A.toNat : Int), .int .u64 (B.toNat : Int)] : Array Value)[i]? := fun x i => blk_cell ((hf x).blk G1.out (by simp)) i
  have g0 : ∀ x, (f x).cell? ⟨M.m, 1, none⟩ = some (.slice (some ⟨M.bb, 0, none⟩) bs.length (bs.length + M.pb.size)) := fun x => (hf x).cell' hc1 (by simp)
  have gw : ∀ x, (f x).cell? ⟨M.bb, n, none⟩ = some (.int .u8 (bs[n].toNat : Int)) := fun x => (hf x).cell' hcb (by simp)
  have hu2 := u64_u8 bs[n]
  clear hf hu
  repeat (refine lexX_step rfl rfl (fun K hK => ?_); go_simp; (try go_bits); (try (simp only [↓IntWalk.iteOmega]; go_simp)); (refine hK _ ?_; clear hK K))
  refine lexX_nil (fun w2 hw2 => ?_)
  have x2 := HX.out.trans' hw2.of_drew
  have h2 := H1.out.ext0 hw2.of_drew
  clear hw2 g3 g0 gw H1 HX hc1 hcb hfr G1 hu2
  have HX := hid x2
  have H2 := hid h2
  clear x2 h2
  go_wp2
  go_ret2
  exact ⟨rfl, H2.out, HX.out⟩

set_option maxRecDepth 100000 in
set_option maxHeartbeats 2000000 in
theorem do_bneg6 (M : MemId) (ws : List UInt64) (bs : List UInt8) (n : Int) (A B : UInt64) (w : World) (h : MemAt w M ws bs) (hn : n < 0) :
    Calls Try.prog 85 #[.pointer (some ⟨M.m, 0, none⟩), accV 6 n A B] w (Ret (.tuple #[.int .u64 0, .bool false]) (Ext [] w)) := by
  have hE := Ext.refl []
  have hl := h.wl
  have hl' := h.bl
  have n1 : (decide (n < 0)) = true := by simpa using hn
  unfold accV
  go_enter Try.func85, Try.ntmps85
  go_wp2_with fail
  have L0 := blk_lt h.hm
  refine wp_region_lit_lin [] [0,1,2,3,4,5,6,7,8,9] (Ext [] _) (Ext []) Try.mix (by kernel_rfl) (Ext.refl []) (fun _ _ _ => Ext.trans') (fun _ _ => Ext.trans') ((Ext.refl _ _).drew) (fun X _ f hf => ?_)
  have g3 : ∀ x i, (f x).cell? ⟨w.heap.size, i, none⟩ = (#[.int .u8 6, .int .i64 n, .int .u64 (A.toNat : Int), .int .u64 (B.toNat : Int)] : Array Value)[i]? := fun x i => blk_cell ((hf x).blk (blk_new _ _) (by simp)) i
  have HM : ∀ x, MemAt (f x) M ws bs := fun x => (h.alloc _).ext0 (hf x)
  have HM' := hid HM
  clear HM hf
  repeat (refine lexX_step rfl rfl (fun K hK => ?_); go_simp; (try go_bits); (try (simp only [↓IntWalk.iteOmega]; go_simp)); (refine hK _ ?_; clear hK K))
  clear g3 HM'
  refine lexX_nil (fun w1 hw1 => ?_)
  have HX := hid (((Ext.refl [] w).alloc (.cells #[.int .u8 6, .int .i64 n, .int .u64 (A.toNat : Int), .int .u64 (B.toNat : Int)] 125)).trans' hw1.of_drew)
  clear hw1
  go_wp2
  go_ret2
  exact ⟨rfl, HX.out⟩

set_option maxRecDepth 100000 in
set_option maxHeartbeats 2000000 in
theorem do_bfar6 (M : MemId) (ws : List UInt64) (bs : List UInt8) (n : Int) (A B : UInt64) (w : World) (h : MemAt w M ws bs) (hn : (bs.length : Int) ≤ n) :
    Calls Try.prog 85 #[.pointer (some ⟨M.m, 0, none⟩), accV 6 n A B] w (Ret (.tuple #[.int .u64 0, .bool false]) (Ext [] w)) := by
  have hE := Ext.refl []
  have hl := h.wl
  have hl' := h.bl
  have n1 : (decide (n < 0)) = false := by simp; omega
  have n2 : (decide ((bs.length : Int) ≤ n)) = true := by simpa using hn
  unfold accV
  go_enter Try.func85, Try.ntmps85
  go_wp2_with fail
  have L0 := blk_lt h.hm
  refine wp_region_lit_lin [] [0,1,2,3,4,5,6,7,8,9] (Ext [] _) (Ext []) Try.mix (by kernel_rfl) (Ext.refl []) (fun _ _ _ => Ext.trans') (fun _ _ => Ext.trans') ((Ext.refl _ _).drew) (fun X _ f hf => ?_)
  have g3 : ∀ x i, (f x).cell? ⟨w.heap.size, i, none⟩ = (#[.int .u8 6, .int .i64 n, .int .u64 (A.toNat : Int), .int .u64 (B.toNat : Int)] : Array Value)[i]? := fun x i => blk_cell ((hf x).blk (blk_new _ _) (by simp)) i
  have HM : ∀ x, MemAt (f x) M ws bs := fun x => (h.alloc _).ext0 (hf x)
  have HM' := hid HM
  clear HM hf
  repeat (refine lexX_step rfl rfl (fun K hK => ?_); go_simp; (try go_bits); (try (simp only [↓IntWalk.iteOmega]; go_simp)); (refine hK _ ?_; clear hK K))
  refine lexX_step rfl rfl (fun K hK => ?_); go_simp; refine ⟨_, fun x => ret_of (mBytes_any M ws bs (f x) (HM'.out x)), hK _ ?_⟩; clear hK K
  repeat (refine lexX_step rfl rfl (fun K hK => ?_); go_simp; (try go_bits); (try (simp only [↓IntWalk.iteOmega]; go_simp)); (refine hK _ ?_; clear hK K))
  clear g3 HM'
  refine lexX_nil (fun w1 hw1 => ?_)
  have HX := hid (((Ext.refl [] w).alloc (.cells #[.int .u8 6, .int .i64 n, .int .u64 (A.toNat : Int), .int .u64 (B.toNat : Int)] 125)).trans' hw1.of_drew)
  clear hw1
  go_wp2
  go_ret2
  exact ⟨rfl, HX.out⟩

set_option maxRecDepth 100000 in
set_option maxHeartbeats 2000000 in
theorem do_put (M : MemId) (ws : List UInt64) (bs : List UInt8) (n : Nat) (A B : UInt64) (w : World) (h : MemAt w M ws bs) (hn : n < bs.length) :
    Calls Try.prog 85 #[.pointer (some ⟨M.m, 0, none⟩), accV 6 n A B] w (fun e w' => e = .returned (.tuple #[.int .u64 0, .bool true]) ∧ MemAt w' M ws (bs.set n A.toUInt8) ∧ Ext [M.bb] w w') := by
  have hE := Ext.refl []
  have hl := h.wl
  have hl' := h.bl
  have n1 : (decide ((n : Int) < 0)) = false := by simp
  have n2 : (decide ((bs.length : Int) ≤ (n : Int))) = false := by simp; omega
  unfold accV
  go_enter Try.func85, Try.ntmps85
  go_wp2_with fail
  have L0 := blk_lt h.hm
  have L1 := blk_lt h.hb
  refine wp_region_lit_lin [] [0,1,2,3,4,5,6,7,8,9] (Ext [] _) (Ext []) Try.mix (by kernel_rfl) (Ext.refl []) (fun _ _ _ => Ext.trans') (fun _ _ => Ext.trans') ((Ext.refl _ _).drew) (fun X _ f hf => ?_)
  have g3 : ∀ x i, (f x).cell? ⟨w.heap.size, i, none⟩ = (#[.int .u8 6, .int .i64 n, .int .u64 (A.toNat : Int), .int .u64 (B.toNat : Int)] : Array Value)[i]? := fun x i => blk_cell ((hf x).blk (blk_new _ _) (by simp)) i
  have HM : ∀ x, MemAt (f x) M ws bs := fun x => (h.alloc _).ext0 (hf x)
  have HM' := hid HM
  clear HM hf
  repeat (refine lexX_step rfl rfl (fun K hK => ?_); go_simp; (try go_bits); (try (simp only [↓IntWalk.iteOmega]; go_simp)); (refine hK _ ?_; clear hK K))
  refine lexX_step rfl rfl (fun K hK => ?_); go_simp; refine ⟨_, fun x => ret_of (mBytes_any M ws bs (f x) (HM'.out x)), hK _ ?_⟩; clear hK K
  repeat (refine lexX_step rfl rfl (fun K hK => ?_); go_simp; (try go_bits); (try (simp only [↓IntWalk.iteOmega]; go_simp)); (refine hK _ ?_; clear hK K))
  clear g3 HM'
  refine lexX_nil (fun w1 hw1 => ?_)
  have hx := ((Ext.refl [] w).alloc (.cells #[.int .u8 6, .int .i64 n, .int .u64 (A.toNat : Int), .int .u64 (B.toNat : Int)] 125)).trans' hw1.of_drew
  have g1 : blk w1 w.heap.size = some (.cells #[.int .u8 6, .int .i64 n, .int .u64 (A.toNat : Int), .int .u64 (B.toNat : Int)] 125 (0, 0)) := hw1.of_drew.blk (blk_new _ _) (by simp)
  have h1 := h.ext0 hx
  have hc1 := h1.c1
  have hcb := h1.cb hn
  have hfr := blk_free h1.hb n
  have L2 : M.bb ≠ w.heap.size := by omega
  have hk0 : w1.cell? ⟨w.heap.size, 0, none⟩ = some (.int .u8 6) := blk_cell g1 0
  have G1 := hid g1
  have HX := hid hx
  have H1 := hid h1
  have hu := u8_wrap A
  clear hx hw1 g1 h1
  go_wp2_with fail
  refine wp_region_lit_lin [10] [0,1,2,3,4,5,6,7,8,9,10] (Ext [M.bb] _) (Ext []) Try.mix (by kernel_rfl) (Ext.refl []) (fun _ _ _ => Ext.trans') (fun _ _ h k => h.trans0 k) ((Ext.refl _ _).drew) (fun X _ f hf => ?_)
  have g3 : ∀ x i, (f x).cell? ⟨w.heap.size, i, none⟩ = (#[.int .u8 6, .int .i64 n, .int .u64 (A.toNat : Int), .int .u64 (B.toNat : Int)] : Array Value)[i]? := fun x i => blk_cell ((hf x).blk G1.out (by simpa using L2.symm)) i
  have g0 : ∀ x, (f x).cell? ⟨M.m, 1, none⟩ = some (.slice (some ⟨M.bb, 0, none⟩) bs.length (bs.length + M.pb.size)) := fun x => (hf x).cell' hc1 (by simpa using H1.out.ne_mb)
  clear hf
  repeat (refine lexX_step rfl rfl (fun K hK => ?_); go_simp; (try go_bits); (try (simp only [↓IntWalk.iteOmega]; go_simp)); (refine hK _ ?_; clear hK K))
  refine lexX_effp rfl rfl rfl (fun w3 hw3 K hK => ?_)
  have h3 := H1.out.ext0 hw3.of_drew
  have q1 := h3.cb hn
  have q2 := blk_free h3.hb n
  go_simp
  refine ⟨(hw3.of_drew.mono (Y := [M.bb]) (by simp)).setCell (.inl (by simp)) _, hK _ _ ?_⟩
  clear hK K
  refine lexX_nil (fun w4 hw4 => ?_)
  have h4 := (h3.setB n A.toUInt8 hn).ext0 hw4
  have x4 := (((HX.out.mono (Y := [M.bb]) (by simp)).trans0 hw3.of_drew).setCell (p := ⟨M.bb, n, none⟩) (.inl (by simp)) (.int .u8 (A.toUInt8.toNat : Int))).trans0 hw4
  clear hw4 h3 q1 q2 hw3 g3 g0 HX H1 hc1 hcb hfr G1 hu
  have HX := hid x4
  have H4 := hid h4
  clear x4 h4
  go_wp2
  go_ret2
  exact ⟨rfl, H4.out, HX.out⟩

theorem do_get5 (M : MemId) (ws : List UInt64) (bs : List UInt8) (n : Int) (A B : UInt64) (w : World) (h : MemAt w M ws bs) :
    Calls Try.prog 85 #[.pointer (some ⟨M.m, 0, none⟩), accV 5 n A B] w (fun e w' => e = .returned (.tuple #[.int .u64 ((bT n bs).toNat : Int), .bool (bAt bs n).isSome]) ∧ MemAt w' M ws bs ∧ Ext [] w w') := by
  by_cases h0 : n < 0
  · refine (do_bneg5 M ws bs n A B w h h0).mono fun e w' ⟨he, hx⟩ => ⟨?_, h.ext0 hx, hx⟩
    simp only [bT, bAt_neg h0]; exact he
  by_cases h1 : (bs.length : Int) ≤ n
  · refine (do_bfar5 M ws bs n A B w h h1).mono fun e w' ⟨he, hx⟩ => ⟨?_, h.ext0 hx, hx⟩
    simp only [bT, bAt_far h1]; exact he
  · obtain ⟨m, rfl⟩ := Int.eq_ofNat_of_zero_le (show 0 ≤ n by omega)
    have hm : m < bs.length := by omega
    refine (do_get M ws bs m A B w h hm).mono fun e w' ⟨he, h2, hx⟩ => ⟨?_, h2, hx⟩
    have e1 := bAt_in hm
    simp only [bT, e1]
    rw [he]; simp
theorem do_put6 (M : MemId) (ws : List UInt64) (bs : List UInt8) (n : Int) (A B : UInt64) (w : World) (h : MemAt w M ws bs) :
    Calls Try.prog 85 #[.pointer (some ⟨M.m, 0, none⟩), accV 6 n A B] w (fun e w' => e = .returned (.tuple #[.int .u64 0, .bool (bAt bs n).isSome]) ∧ MemAt w' M ws (bS n A.toUInt8 bs) ∧ Ext [M.bb] w w') := by
  by_cases h0 : n < 0
  · refine (do_bneg6 M ws bs n A B w h h0).mono fun e w' ⟨he, hx⟩ => ⟨?_, ?_, hx.mono (by simp)⟩
    · simp only [bAt_neg h0]; exact he
    · simp only [bS, bAt_neg h0]; exact h.ext0 hx
  by_cases h1 : (bs.length : Int) ≤ n
  · refine (do_bfar6 M ws bs n A B w h h1).mono fun e w' ⟨he, hx⟩ => ⟨?_, ?_, hx.mono (by simp)⟩
    · simp only [bAt_far h1]; exact he
    · simp only [bS, bAt_far h1]; exact h.ext0 hx
  · obtain ⟨m, rfl⟩ := Int.eq_ofNat_of_zero_le (show 0 ≤ n by omega)
    have hm : m < bs.length := by omega
    have e1 := bAt_in hm
    refine (do_put M ws bs m A B w h hm).mono fun e w' ⟨he, h2, hx⟩ => ⟨?_, ?_, hx⟩
    · rw [e1]; exact he
    · simp only [bS, e1, Int.toNat_natCast]; exact h2

theorem mByte_any (M : MemId) (ws : List UInt64) (bs : List UInt8) (n : Int) (w : World) (h : MemAt w M ws bs) :
    Calls Try.prog 79 #[.pointer (some ⟨M.m, 0, none⟩), .int .i64 n] w (Ret (.int .u8 ((bT n bs).toNat : Int)) (Ext [] w)) := by
  have hu := u8_u8 (bT n bs)
  have H := hid (do_get5 M ws bs n 0 0 w h)
  clear h
  go_enter Try.func79, Try.ntmps79
  go_wp2_with fail
  refine H.out.mono ?_
  rintro e w1 ⟨rfl, h1, x1⟩
  have X1 := hid x1
  clear h1 x1 H
  go_wp2
  go_ret
  exact ⟨rfl, X1.out⟩

/-- Behind calls by a port that have begun in world w: its steps, the bytes. -/
def PB (D : DirId) (M : MemId) (me : Int) (told : Value) (steps : Nat) (ws : List UInt64) (bs : List UInt8) (w : World) (w' : World) : Prop :=
  DirAt w' D M.m me told steps ∧ MemAt w' M ws bs ∧ Ext [D.v, M.bb] w w'
def bKT (k : Nat) (n : Int) (bs : List UInt8) : UInt64 := if k = 5 then (bT n bs).toUInt64 else 0
def bKS (k : Nat) (n : Int) (A : UInt64) (bs : List UInt8) : List UInt8 := if k = 5 then bs else bS n A.toUInt8 bs
theorem do_byte (M : MemId) (ws : List UInt64) (bs : List UInt8) (k : Nat) (kv : Int) (n : Int) (A B : UInt64) (w : World) (h : MemAt w M ws bs) (hkv : kv = k) (hk1 : 5 ≤ k) (hk : k ≤ 6) :
    Calls Try.prog 85 #[.pointer (some ⟨M.m, 0, none⟩), accV kv n A B] w (fun e w' => e = .returned (.tuple #[.int .u64 ((bKT k n bs).toNat : Int), .bool (bAt bs n).isSome]) ∧ MemAt w' M ws (bKS k n A bs) ∧ Ext [M.bb] w w') := by
  subst hkv
  match k, hk1, hk with
  | 5, _, _ => exact (do_get5 M ws bs n A B w h).mono fun e w' ⟨he, h2, hx⟩ => ⟨by simpa [bKT] using he, h2, hx.mono (by simp)⟩
  | 6, _, _ => exact (do_put6 M ws bs n A B w h).mono fun e w' ⟨he, h2, hx⟩ => ⟨by simpa [bKT] using he, by simpa [bKS] using h2, hx⟩

set_option maxHeartbeats 2000000 in
theorem wdo_byte (D : DirId) (M : MemId) (me : Int) (told : Value) (steps : Nat) (ws : List UInt64) (bs : List UInt8) (k : Nat) (kv : Int) (n : Int) (A B : UInt64) (w : World)
    (hD : DirAt w D M.m me told steps) (hM : MemAt w M ws bs) (hkv : kv = k) (hk1 : 5 ≤ k) (hk : k ≤ 6) (hs : steps ≤ 1000000000000) :
    Calls Try.prog 108 #[.pointer (some ⟨D.v, 0, none⟩), .int .u8 kv, .int .i64 n, .int .u64 (A.toNat : Int), .int .u64 (B.toNat : Int)] w
      (Ret (.int .u64 ((bKT k n bs).toNat : Int)) (PB D M me told (steps + 1) ws (bKS k n A bs) w)) := by
  have c0 := hD.v0
  have c1 := hD.v1
  have f1 := blk_free hD.hv 1
  have n1 := hD.ne_vm hM
  have n2 := hD.ne_vw hM
  have n3 := hD.ne_vb hM
  have n4 : D.d ≠ M.bb := cells_type hD.hd hM.hb (by decide)
  have HD := hid hD
  have HM := hid hM
  have HK := hid (And.intro hkv (And.intro hk1 hk))
  clear hD hM hkv hk1 hk
  go_enter Try.func108, Try.ntmps108
  go_wp2_with fail
  have h1 := HD.out.step (steps + 1)
  have h2 : MemAt (w.setCell ⟨D.v, 1, none⟩ (.int .i64 ((steps + 1 : Nat) : Int))) M ws bs := HM.out.ext ((Ext.refl [D.v] w).setCell (.inl (by simp)) _) (by simpa using fun e => n1 e.symm) (by simpa using fun e => n2 e.symm) (by simpa using fun e => n3 e.symm)
  have e1 : ((steps + 1 : Nat) : Int) = (steps : Int) + 1 := by omega
  rw [e1] at h1 h2
  refine (do_byte M ws bs k kv n A B _ h2 HK.out.1 HK.out.2.1 HK.out.2.2).mono ?_
  rintro e w1 ⟨rfl, h3, x3⟩
  have h4 := h1.ext x3 (by simpa using n4) (by simpa using n3)
  have x4 : Ext [D.v, M.bb] w w1 := ((Ext.refl [D.v, M.bb] w).setCell (p := ⟨D.v, 1, none⟩) (.inl (by simp)) (.int .i64 ((steps : Int) + 1))).trans' (x3.mono (by simp))
  have P := hid (And.intro h4 (And.intro h3 x4))
  clear h1 h2 h3 h4 x3 x4 e1 c0 c1 f1 n1 n2 n3 n4
  go_wp2
  go_ret
  exact ⟨rfl, P.out⟩
set_option maxHeartbeats 1000000 in
theorem pGet_any (D : DirId) (M : MemId) (me : Int) (told : Value) (steps : Nat) (ws : List UInt64) (bs : List UInt8) (n : Int) (w : World)
    (hD : DirAt w D M.m me told steps) (hM : MemAt w M ws bs) (hs : steps ≤ 1000000000000) :
    Calls Try.prog 175 #[.pointer (some ⟨D.d, 0, none⟩), .int .i64 n] w
      (Ret (.int .u8 ((bT n bs).toNat : Int)) (PB D M me told (steps + 1) ws bs w)) := by
  have hu := u8_u8 (bT n bs)
  have hk : ((bKT 5 n bs).toNat : Int) = ((bT n bs).toNat : Int) := by simp [bKT]
  have HD := hid hD
  have HM := hid hM
  clear hD hM
  go_enter Try.func175, Try.ntmps175
  go_wp2_with fail
  refine (way_any D M.m me told steps _ HD.out).mono ?_
  rintro e w1 ⟨rfl, x1⟩
  have hD1 := HD.out.ext0 x1
  have hM1 := HM.out.ext0 x1
  have X1 := hid x1
  clear x1
  have HD1 := hid hD1
  have HM1 := hid hM1
  clear hD1 hM1
  go_wp2_with fail
  refine (wdo_byte D M me told steps ws bs 5 5 n 0 0 w1 HD1.out HM1.out rfl (by omega) (by omega) hs).mono ?_
  rw [hk]
  rintro e w2 ⟨rfl, hD2, hM2, x2⟩
  have P := hid (And.intro hD2 (And.intro hM2 (Ext.of0 X1.out x2)))
  clear hD2 hM2 x2 hk
  go_wp2
  go_ret
  exact ⟨rfl, P.out⟩
set_option maxHeartbeats 1000000 in
theorem pPut_any (D : DirId) (M : MemId) (me : Int) (told : Value) (steps : Nat) (ws : List UInt64) (bs : List UInt8) (n : Int) (b : UInt8) (w : World)
    (hD : DirAt w D M.m me told steps) (hM : MemAt w M ws bs) (hs : steps ≤ 1000000000000) :
    Calls Try.prog 176 #[.pointer (some ⟨D.d, 0, none⟩), .int .i64 n, .int .u8 (b.toNat : Int)] w
      (Ret (.tuple #[]) (PB D M me told (steps + 1) ws (bS n b bs) w)) := by
  have hu := u64_u8 b
  have HD := hid hD
  have HM := hid hM
  clear hD hM
  go_enter Try.func176, Try.ntmps176
  go_wp2_with fail
  refine (way_any D M.m me told steps _ HD.out).mono ?_
  rintro e w1 ⟨rfl, x1⟩
  have hD1 := HD.out.ext0 x1
  have hM1 := HM.out.ext0 x1
  have X1 := hid x1
  clear x1
  have HD1 := hid hD1
  have HM1 := hid hM1
  clear hD1 hM1
  go_wp2_with fail
  refine (wdo_byte D M me told steps ws bs 6 6 n b.toUInt64 0 w1 HD1.out HM1.out rfl (by omega) (by omega) hs).mono ?_
  rw [show bKS 6 n b.toUInt64 bs = bS n b bs by simp [bKS]]
  rintro e w2 ⟨rfl, hD2, hM2, x2⟩
  have P := hid (And.intro hD2 (And.intro hM2 (Ext.of0 X1.out x2)))
  clear hD2 hM2 x2
  go_wp2
  go_end0
  exact ⟨rfl, P.out⟩
end Go.Proofs.Ytceddijolfpppaa
