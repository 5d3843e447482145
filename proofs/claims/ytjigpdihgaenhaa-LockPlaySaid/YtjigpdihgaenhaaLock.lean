/-
  Package lock: Try, Drop, Holder. Contracts.
  Conditions: the port and its memory are there.
-/
import Derived.Test.YtjigpdihgaenhaaPort
namespace Go.Proofs.Ytjigpdihgaenhaa
open Go Go.RowKit

/-- What the lock is, when a thread holds it. -/
def mineW (me : Nat) : UInt64 := UInt64.ofNat (me + 1)
theorem mineW_nat (me : Nat) (h : me ≤ 1000) : (((mineW me).toNat : Nat) : Int) = (me : Int) + 1 := by unfold mineW; simp; omega

set_option maxHeartbeats 1000000 in
theorem mine_any (D : DirId) (me : Nat) (w : World) (hc : w.cell? ⟨D.d, 1, none⟩ = some (.int .i64 (me : Int))) (hme : me ≤ 1000) :
    Calls Try.prog 49 #[portV D] w (Ret (.int .u64 ((mineW me).toNat : Int)) (Ext [] w)) := by
  rw [mineW_nat me hme]
  have HC := hid hc
  clear hc
  unfold portV
  go_enter Try.func49, Try.ntmps49
  go_wp2_with fail
  refine (pSelf_any D me _ HC.out).mono ?_
  rintro e w1 ⟨rfl, x1⟩
  have X1 := hid x1
  clear x1
  go_wp2
  go_ret
  exact ⟨rfl, X1.out⟩

set_option maxRecDepth 100000 in
set_option maxHeartbeats 2000000 in
theorem lDrop_any (D : DirId) (M : MemId) (me N T : Nat) (told : Value) (steps : Nat) (ws : List UInt64) (bs : List UInt8) (w : World)
    (hD : DirAt w D M.m (me : Int) told steps) (hM : MemAt w M ws bs) (hs : steps ≤ 1000000000000) (hme : me ≤ 1000) (hN : N ≤ 256) (hT : T ≤ 64) :
    Calls Try.prog 22 #[portV D, .agg (geoC N T)] w
      (Ret (.bool (wT 3 (gat N T 0 0) (mineW me) ws == 1)) (PS D M me told (steps + 1) (wS 3 (gat N T 0 0) (mineW me) 0 ws) bs w)) := by
  have hE := Ext.refl []
  have HD := hid hD
  have HM := hid hM
  clear hD hM
  unfold portV
  go_enter Try.func22, Try.ntmps22
  go_wp2_with fail
  refine wp_region_lit_lin [8] [0,1,2,3,4,5,6,7,8,9] (Ext [D.v, M.bw] _) (Ext []) Try.mix (by kernel_rfl) (Ext.refl []) (fun _ _ _ => Ext.trans') (fun _ _ h k => h.trans0 k) ((Ext.refl _ _).drew) (fun X _ f hf => ?_)
  have hb : ∀ x, blk (f x) w.heap.size = some (.cells (geoC N T) 26) := fun x => (hf x).blk (blk_new _ _) (by have := blk_lt HD.out.hv; have := blk_lt HM.out.hw; simp; omega)
  have hx0 := (Ext.refl [D.v, M.bw] w).alloc (.cells (geoC N T) 26)
  have hc : ∀ x, (f x).cell? ⟨D.d, 1, none⟩ = some (.int .i64 (me : Int)) := fun x => (hf x).cell' (hx0.cell' HD.out.c1 (by have := HD.out.ne_dv; have := HD.out.ne_dw HM.out; simp; omega)) (by have := HD.out.ne_dv; have := HD.out.ne_dw HM.out; simp; omega)
  have HC := hid hc
  clear hf hc hx0
  repeat (refine lexX_step rfl rfl (fun K hK => ?_); go_simp; (try go_bits); (try (simp only [↓IntWalk.iteOmega]; go_simp)); (refine hK _ ?_; clear hK K))
  refine lexX_step rfl rfl (fun K hK => ?_); go_simp; refine ⟨_, fun x => ret_of (gLock_any N T (f x) hN hT), hK _ ?_⟩; clear hK K
  repeat (refine lexX_step rfl rfl (fun K hK => ?_); go_simp; (try go_bits); (try (simp only [↓IntWalk.iteOmega]; go_simp)); (refine hK _ ?_; clear hK K))
  refine lexX_step rfl rfl (fun K hK => ?_); go_simp; refine ⟨_, fun x => ret_of (mine_any D me (f x) (HC.out x) hme), hK _ ?_⟩; clear hK K
  repeat (refine lexX_step rfl rfl (fun K hK => ?_); go_simp; (try go_bits); (try (simp only [↓IntWalk.iteOmega]; go_simp)); (refine hK _ ?_; clear hK K))
  refine lexX_effp rfl rfl rfl (fun w1 hw1 K hK => ?_)
  have hx := ((Ext.refl [] w).alloc (.cells (geoC N T) 26)).trans' hw1.of_drew
  have hD1 := HD.out.ext0 hx
  have hM1 := HM.out.ext0 hx
  have HX := hid hx
  have HW := hid hw1
  have HD1 := hid hD1
  have HM1 := hid hM1
  clear hx hD1 hM1 hw1
  go_simp
  refine (pCAS_any D M me told steps ws bs (gat N T 0 0) (mineW me) 0 w1 HD1.out HM1.out hs).mono ?_
  rintro e w2 ⟨rfl, h2⟩
  refine ⟨_, rfl, (HW.out.of_drew.mono (Y := [D.v, M.bw]) (by simp)).trans' h2.2.2, hK _ _ ?_⟩
  clear hK K
  have H2 := hid (PS.of0 HX.out h2)
  clear h2 HX HW HD1 HM1
  repeat (refine lexX_step rfl rfl (fun K hK => ?_); go_simp; (try go_bits); (try (simp only [↓IntWalk.iteOmega]; go_simp)); (refine hK _ ?_; clear hK K))
  refine lexX_nil (fun w3 hw3 => ?_)
  have H3 := hid (H2.out.ext0 hw3)
  clear hw3 HC hb
  go_wp2
  go_ret
  exact ⟨rfl, H3.out⟩

end Go.Proofs.Ytjigpdihgaenhaa
