/-
  Package lock: Try, Holder. Contracts.
  Conditions: the port and its memory are there.
-/
import Derived.Test.YtjigpdihgaenhaaLock
namespace Go.Proofs.Ytjigpdihgaenhaa
open Go Go.RowKit

set_option maxRecDepth 100000 in
set_option maxHeartbeats 2000000 in
theorem lTry_hit (D : DirId) (M : MemId) (me N T : Nat) (told : Value) (steps : Nat) (ws : List UInt64) (bs : List UInt8) (w : World)
    (hD : DirAt w D M.m (me : Int) told steps) (hM : MemAt w M ws bs) (hs : steps ≤ 100000000000) (hme : me ≤ 1000) (hN : N ≤ 256) (hT : T ≤ 64) (hh : wAt ws (gat N T 0 0) = some 0) :
    Calls Try.prog 20 #[portV D, .agg (geoC N T)] w (Ret (.bool true) (PS D M me told (steps + 1) (ws.set (gat N T 0 0).toNat (mineW me)) bs w)) := by
  have HH := hid (cas_hit hh (mineW me))
  clear hh
  have hE := Ext.refl []
  have HD := hid hD
  have HM := hid hM
  clear hD hM
  unfold portV
  go_enter Try.func20, Try.ntmps20
  go_wp2
  go_loopw [5] (fun i wr => ∃ k : Nat, k ≤ 3 ∧ k = 0 ∧ i = .int .i64 k ∧ PS D M me told (steps + k) ws bs w wr ∧ blk wr w.heap.size = some (.cells (geoC N T) 26 (0, 0))) (fun i _ => 3 - (intOf i).toNat)
  case atStart => exact ⟨0, by omega, rfl, rfl, (PS.refl HD.out HM.out).ext0 ((Ext.refl [] w).alloc _), by simp [go_sem]⟩
  case round =>
    obtain ⟨k, _, rfl, rfl, hr, hbb⟩ := hrel
    have HR := hid hr
    have HB := hid hbb
    clear hr hbb
    go_wp2_with fail
    refine wp_region_lit_lin [8] [0,1,2,3,4,5,6,7,8] (Ext [D.v, M.bw] _) (Ext []) Try.mix (by kernel_rfl) (Ext.refl []) (fun _ _ _ => Ext.trans') (fun _ _ h k => h.trans0 k) ((Ext.refl _ _).drew) (fun X _ f hf => ?_)
    have hb : ∀ x, blk (f x) w.heap.size = some (.cells (geoC N T) 26) := fun x => (hf x).blk HB.out (by have := blk_lt HD.out.hv; have := blk_lt HM.out.hw; simp; omega)
    have hc : ∀ x, (f x).cell? ⟨D.d, 1, none⟩ = some (.int .i64 (me : Int)) := fun x => (hf x).cell' HR.out.1.c1 (by have := HD.out.ne_dv; have := HD.out.ne_dw HM.out; simp; omega)
    have HC := hid hc
    clear hf hc
    repeat (refine lexX_step rfl rfl (fun K hK => ?_); go_simp; (try go_bits); (try (simp only [↓IntWalk.iteOmega]; go_simp)); (refine hK _ ?_; clear hK K))
    refine lexX_step rfl rfl (fun K hK => ?_); go_simp; refine ⟨_, fun x => ret_of (gLock_any N T (f x) hN hT), hK _ ?_⟩; clear hK K
    repeat (refine lexX_step rfl rfl (fun K hK => ?_); go_simp; (try go_bits); (try (simp only [↓IntWalk.iteOmega]; go_simp)); (refine hK _ ?_; clear hK K))
    refine lexX_step rfl rfl (fun K hK => ?_); go_simp; refine ⟨_, fun x => ret_of (mine_any D me (f x) (HC.out x) hme), hK _ ?_⟩; clear hK K
    repeat (refine lexX_step rfl rfl (fun K hK => ?_); go_simp; (try go_bits); (try (simp only [↓IntWalk.iteOmega]; go_simp)); (refine hK _ ?_; clear hK K))
    refine lexX_effp rfl rfl rfl (fun w1 hw1 K hK => ?_)
    have HQ := hid (HR.out.ext0 hw1.of_drew)
    have HW := hid hw1
    have HBW := hid (hw1.of_drew.blk HB.out (by simp))
    clear hw1
    go_simp
    refine (pCAS_any D M me told _ ws bs (gat N T 0 0) 0 (mineW me) w1 HQ.out.1 HQ.out.2.1 (by omega)).mono ?_
    rintro e w2 ⟨rfl, h2⟩
    refine ⟨_, rfl, (HW.out.of_drew.mono (Y := [D.v, M.bw]) (by simp)).trans' h2.2.2, hK _ _ ?_⟩
    clear hK K
    have H2 := hid (HQ.out.trans h2)
    have HB2 := hid (h2.2.2.blk HBW.out (by have := blk_lt HD.out.hv; have := blk_lt HM.out.hw; simp; omega))
    clear h2 HW HQ HBW
    refine lexX_nil (fun w3 hw3 => ?_)
    have H3 := hid (H2.out.ext0 hw3)
    have HB3 := hid (hw3.blk HB2.out (by simp))
    clear hw3 HC hb
    rw [HH.out.1]
    go_wp2
    go_ret
    refine ⟨rfl, ?_⟩
    rw [← HH.out.2]
    exact H3.out

set_option maxRecDepth 100000 in
set_option maxHeartbeats 2000000 in
theorem lTry_miss (D : DirId) (M : MemId) (me N T : Nat) (told : Value) (steps : Nat) (ws : List UInt64) (bs : List UInt8) (w : World)
    (hD : DirAt w D M.m (me : Int) told steps) (hM : MemAt w M ws bs) (hs : steps ≤ 100000000000) (hme : me ≤ 1000) (hN : N ≤ 256) (hT : T ≤ 64) (hh : wAt ws (gat N T 0 0) ≠ some 0) :
    Calls Try.prog 20 #[portV D, .agg (geoC N T)] w (Ret (.bool false) (PS D M me told (steps + 3) ws bs w)) := by
  have HH := hid (cas_miss hh (mineW me))
  clear hh
  have hE := Ext.refl []
  have HD := hid hD
  have HM := hid hM
  clear hD hM
  unfold portV
  go_enter Try.func20, Try.ntmps20
  go_wp2
  go_loopw [5] (fun i wr => ∃ k : Nat, k ≤ 3 ∧ i = .int .i64 k ∧ PS D M me told (steps + k) ws bs w wr ∧ blk wr w.heap.size = some (.cells (geoC N T) 26 (0, 0))) (fun i _ => 3 - (intOf i).toNat)
  case atStart => exact ⟨0, by omega, rfl, (PS.refl HD.out HM.out).ext0 ((Ext.refl [] w).alloc _), by simp [go_sem]⟩
  case round =>
    obtain ⟨k, hk, rfl, hr, hbb⟩ := hrel
    have HR := hid hr
    have HB := hid hbb
    clear hr hbb
    by_cases hlt : k < 3
    · go_wp2_with fail
      refine wp_region_lit_lin [8] [0,1,2,3,4,5,6,7,8] (Ext [D.v, M.bw] _) (Ext []) Try.mix (by kernel_rfl) (Ext.refl []) (fun _ _ _ => Ext.trans') (fun _ _ h k => h.trans0 k) ((Ext.refl _ _).drew) (fun X _ f hf => ?_)
      have hb : ∀ x, blk (f x) w.heap.size = some (.cells (geoC N T) 26) := fun x => (hf x).blk HB.out (by have := blk_lt HD.out.hv; have := blk_lt HM.out.hw; simp; omega)
      have hc : ∀ x, (f x).cell? ⟨D.d, 1, none⟩ = some (.int .i64 (me : Int)) := fun x => (hf x).cell' HR.out.1.c1 (by have := HD.out.ne_dv; have := HD.out.ne_dw HM.out; simp; omega)
      have HC := hid hc
      clear hf hc
      repeat (refine lexX_step rfl rfl (fun K hK => ?_); go_simp; (try go_bits); (try (simp only [↓IntWalk.iteOmega]; go_simp)); (refine hK _ ?_; clear hK K))
      refine lexX_step rfl rfl (fun K hK => ?_); go_simp; refine ⟨_, fun x => ret_of (gLock_any N T (f x) hN hT), hK _ ?_⟩; clear hK K
      repeat (refine lexX_step rfl rfl (fun K hK => ?_); go_simp; (try go_bits); (try (simp only [↓IntWalk.iteOmega]; go_simp)); (refine hK _ ?_; clear hK K))
      refine lexX_step rfl rfl (fun K hK => ?_); go_simp; refine ⟨_, fun x => ret_of (mine_any D me (f x) (HC.out x) hme), hK _ ?_⟩; clear hK K
      repeat (refine lexX_step rfl rfl (fun K hK => ?_); go_simp; (try go_bits); (try (simp only [↓IntWalk.iteOmega]; go_simp)); (refine hK _ ?_; clear hK K))
      refine lexX_effp rfl rfl rfl (fun w1 hw1 K hK => ?_)
      have HQ := hid (HR.out.ext0 hw1.of_drew)
      have HW := hid hw1
      have HBW := hid (hw1.of_drew.blk HB.out (by simp))
      clear hw1
      go_simp
      refine (pCAS_any D M me told _ ws bs (gat N T 0 0) 0 (mineW me) w1 HQ.out.1 HQ.out.2.1 (by omega)).mono ?_
      rintro e w2 ⟨rfl, h2⟩
      refine ⟨_, rfl, (HW.out.of_drew.mono (Y := [D.v, M.bw]) (by simp)).trans' h2.2.2, hK _ _ ?_⟩
      clear hK K
      have H2 := hid (HQ.out.trans h2)
      have HB2 := hid (h2.2.2.blk HBW.out (by have := blk_lt HD.out.hv; have := blk_lt HM.out.hw; simp; omega))
      clear h2 HW HQ HBW
      refine lexX_nil (fun w3 hw3 => ?_)
      have H3 := hid (H2.out.ext0 hw3)
      have HB3 := hid (hw3.blk HB2.out (by simp))
      clear hw3 HC hb
      rw [HH.out.1]
      go_wp2
      refine ⟨⟨k + 1, by omega, by go_num, ?_, HB3.out⟩, by simp [intOf]; omega⟩
      have := H3.out
      rw [HH.out.2] at this
      exact this
    · have hk3 : k = 3 := by omega
      subst hk3
      go_wp2
      go_ret
      exact ⟨rfl, HR.out⟩

/-- Who holds a lock. -/
def holderF (x : UInt64) : Int := if 64 < x.toNat then -1 else (x.toNat : Int) - 1
set_option maxHeartbeats 1000000 in
theorem lHolder_any (x : UInt64) (w : World) : Calls Try.prog 26 #[.int .u64 (x.toNat : Int)] w (Ret (.int .i64 (holderF x)) (Ext [] w)) := by
  by_cases h : 64 < x.toNat
  · rw [show holderF x = -1 from if_pos h]
    have h1 : (64 : Int) < (x.toNat : Int) := by omega
    go_enter Try.func26, Try.ntmps26
    go_wp2
    go_ret
    exact ⟨rfl, Ext.refl _ _⟩
  · rw [show holderF x = (x.toNat : Int) - 1 from if_neg h]
    have h1 : ¬ (64 : Int) < (x.toNat : Int) := by omega
    have h2 : (x.toNat : Int) ≤ 64 := by omega
    have h3 : (0 : Int) ≤ (x.toNat : Int) := by omega
    go_enter Try.func26, Try.ntmps26
    go_wp2
    go_ret
    exact ⟨rfl, Ext.refl _ _⟩

end Go.Proofs.Ytjigpdihgaenhaa
