/-
  quilletlaw07.Begun: a geometry, and a memory of it. Contract.
  Conditions: 1 to 256 pages, 1 to 64 threads.
-/
import Derived.Test.YtjigpdihgaenhaaPort
namespace Go.Proofs.Ytjigpdihgaenhaa
open Go Go.RowKit

theorem gsum19 (N T : Nat) (hN : N ≤ 256) (hT : T ≤ 64) : gsum N T 19 ≤ 2097152 := by
  have h1 : T * 4 * (N + 1) ≤ 64 * 4 * 257 := Nat.mul_le_mul (by omega) (by omega)
  have h2 : T * (2 * T + 3) ≤ 64 * 131 := Nat.mul_le_mul hT (by omega)
  have h3 : T * (2 * T + 2) ≤ 64 * 130 := Nat.mul_le_mul hT (by omega)
  have h4 : gM N T ≤ 74176 := by unfold gM; omega
  simp only [gsum, gsz]
  omega
theorem gb19 (N T : Nat) (hN : N ≤ 256) (hT : T ≤ 64) : gb N T 19 ≤ 2097152 := by
  unfold gb; split
  · omega
  · exact gsum19 N T hN hT

/-- A geometry, and a new memory of it, all 0. -/
def BegunSaid (w : World) (N T : Nat) (e : Ending) (w' : World) : Prop :=
  ∃ M : MemId, e = .returned (.tuple #[.agg (geoC N T), .pointer (some ⟨M.m, 0, none⟩)]) ∧ MemAt w' M (List.replicate (gb N T 19) 0) (List.replicate (64 * N) 0) ∧ Ext [] w w' ∧ w.heap.size ≤ M.m ∧ w.heap.size ≤ M.bw ∧ w.heap.size ≤ M.bb

set_option maxRecDepth 100000 in
set_option maxHeartbeats 2000000 in
theorem begun_any (N T : Nat) (w : World) (hN1 : 1 ≤ N) (hN : N ≤ 256) (hT1 : 1 ≤ T) (hT : T ≤ 64) :
    Calls Try.prog 12 #[.int .i64 N, .int .i64 T] w (BegunSaid w N T) := by
  have hE := Ext.refl []
  have hw19 := gb19 N T hN hT
  go_enter Try.func12, Try.ntmps12
  go_wp2_with fail
  refine (gNew_any N T _ hN1 hN hT1 hT).mono ?_
  rintro e w1 ⟨rfl, x1⟩
  have hl := x1.size
  simp only [World.size_alloc] at hl
  have hz := x1.blk (blk_new w _) (by simp)
  have X1 := hid x1
  have HZ := hid hz
  clear x1 hz
  go_wp2_with fail
  refine wp_region_lit_lin [5] [0,1,2,3,4,5,6,7,8,9,10] (Ext [] _) (Ext []) Try.mix (by kernel_rfl) (Ext.refl []) (fun _ _ _ => Ext.trans') (fun _ _ h k => h.trans0 k) ((Ext.refl _ _).drew) (fun X _ f hf => ?_)
  have hb : ∀ x, blk (f x) w1.heap.size = some (.cells (geoC N T) 26) := fun x => (hf x).blk (blk_new _ _) (by simp)
  clear hf
  repeat (refine lexX_step rfl rfl (fun K hK => ?_); go_simp; (try go_bits); (try (simp only [↓IntWalk.iteOmega]; go_simp)); (refine hK _ ?_; clear hK K))
  refine lexX_step rfl rfl (fun K hK => ?_); go_simp; refine ⟨_, fun x => ret_of (gWords_any N T (f x)), hK _ ?_⟩; clear hK K
  repeat (refine lexX_step rfl rfl (fun K hK => ?_); go_simp; (try go_bits); (try (simp only [↓IntWalk.iteOmega]; go_simp)); (refine hK _ ?_; clear hK K))
  refine lexX_step rfl rfl (fun K hK => ?_); go_simp; refine ⟨_, fun x => ret_of (gPages_any N T (f x)), hK _ ?_⟩; clear hK K
  repeat (refine lexX_step rfl rfl (fun K hK => ?_); go_simp; (try go_bits); (try (simp only [↓IntWalk.iteOmega]; go_simp)); (refine hK _ ?_; clear hK K))
  refine lexX_effp rfl rfl rfl (fun w2 hw2 K hK => ?_)
  have X2 := hid (((Ext.refl [] w1).alloc (.cells (geoC N T) 26)).trans' hw2.of_drew)
  have HW := hid hw2
  have e64 : (64 : Int) * (N : Int) = ((64 * N : Nat) : Int) := by push_cast; rfl
  have E64 := hid e64
  have HB2 := hid (hw2.of_drew.blk (blk_new _ _) (by simp))
  clear hw2 e64
  go_simp
  rw [E64.out]
  refine (mNew_any (gb N T 19) (64 * N) w2 hw19 (by omega)).mono ?_
  rintro e w3 ⟨M, rfl, hM, x3, l1, l2, l3⟩
  refine ⟨_, rfl, HW.out.of_drew.trans' x3, hK _ _ ?_⟩
  clear hK K
  have HM := hid hM
  have X3 := hid x3
  have HB3 := hid (x3.blk HB2.out (by simp))
  clear hM x3 hb
  repeat (refine lexX_step rfl rfl (fun K hK => ?_); go_simp; (try go_bits); (try (simp only [↓IntWalk.iteOmega]; go_simp)); (refine hK _ ?_; clear hK K))
  refine lexX_nil (fun w4 hw4 => ?_)
  have hM4 := hid (HM.out.ext0 hw4)
  have hb4 := hw4.blk HB3.out (by simp)
  have xx := ((((Ext.refl [] w).alloc _).trans' X1.out).trans' X2.out).trans' (X3.out.trans' hw4)
  have XX := hid xx
  have hz4 := (X2.out.trans' (X3.out.trans' hw4)).blk HZ.out (by simp)
  have hs2 := X2.out.size
  have hs3 := X3.out.size
  clear hw4 xx
  go_wp2
  refine bodyPost_ret (v := .tuple #[.agg (geoC N T), .pointer (some ⟨M.m, 0, none⟩)]) ?_ rfl ⟨M, rfl, ?_, ?_, by omega, by omega, by omega⟩
  · rw [results_cell_tmp rfl]
    simp only [Array.getD_eq_getD_getElem?, List.getElem?_toArray, List.getElem?_cons_succ, List.getElem?_cons_zero, Option.getD_some, asAddr]
    rw [Sem.run_pure, Result.andThen_ok, load_geo (blk_setRow hz4 _)]
    rfl
  · refine hM4.out.ext ((Ext.refl [w.heap.size] w4).setRow (.inl (by simp)) _) ?_ ?_ ?_ <;> (simp; omega)
  · exact XX.out.setRow (.inr (Nat.le_refl _)) _

end Go.Proofs.Ytjigpdihgaenhaa
