/-
  LockKnown: the chapter's examples answer as they should: the closed law returns true.
  No condition.
-/
import Derived.Test.YtjigpdihgaenhaaLaw07
import Derived.Test.YtjigpdihgaenhaaPost
import Derived.Test.YtjigpdihgaenhaaRows
import Derived.WalkKit
import Derived.ProofKit
import Derived.OpenShut
namespace Go.Proofs.Ytjigpdihgaenhaa
open Go Go.RowKit Go.ChangeShapes Go.WideShapes Go.ChangeAt

theorem lHolder_lit (v r : Int) (x : UInt64) (w : World) (hv : v = (x.toNat : Int)) (hr : holderF x = r) : Calls Try.prog 26 #[.int .u64 v] w (Ret (.int .i64 r) (Ext [] w)) := by
  subst hv; subst hr; exact lHolder_any x w

set_option maxRecDepth 100000 in
set_option maxHeartbeats 8000000 in
theorem lockKnown_any (w : World) : Calls Try.prog 5 #[] w (Ret (.bool true) (Ext [] w)) := by
  have gl := gat_lock 2 64 (by omega)
  have hp := gb19_pos 2 64 (by omega)
  have GL := hid gl
  have HL := hid (show 0 < gb 2 64 19 from hp)
  clear gl hp
  go_enter Try.func5, Try.ntmps5
  go_wp2_with fail
  refine (begun_any 2 64 _ (by omega) (by omega) (by omega) (by omega)).mono ?_
  rintro e w1 ⟨M, rfl, hM, x1, l1, l2, l3⟩
  have HM := hid hM
  have X1 := hid x1
  clear hM x1
  go_wp2_with fail
  refine (pNew_any M.m 63 _).mono ?_
  rintro e w2 ⟨A, rfl, hA, x2, a1, a2⟩
  have HA := hid hA
  have X2 := hid x2
  have s2 := blk_lt hA.hv
  clear hA x2
  go_wp2_with fail
  refine (pNew_any M.m 0 _).mono ?_
  rintro e w3 ⟨B, rfl, hB, x3, b1, b2⟩
  have HX := hid ((((X1.out.alloc _).trans' X2.out).trans' x3))
  have H4 := hid (show Two w3 A B M 2 64 63 0 w1.heap.size 0 0 (List.replicate (gb 2 64 19) 0) (List.replicate (64 * 2) 0) from
    ⟨HA.out.ext0 x3, hB, ((HM.out.alloc _).ext0 X2.out).ext0 x3, (X2.out.blk (blk_new _ _) (by simp) |> fun h => x3.blk h (by simp)), by omega⟩)
  have HL2 := hid (And.intro (show w.heap.size ≤ A.v by simp at a2; have := X1.out.size; omega) (show w.heap.size ≤ B.v by have := X1.out.size; have := X2.out.size; simp at *; omega))
  have HX4 := hid (HX.out.mono (Y := [A.v, B.v, M.bw]) (by simp))
  clear hB x3 HA X2 HM X1 HX
  have hg := H4.out.hg
  go_wp2_with fail
  refine (tryHit A M 63 2 64 _ 0 (List.replicate (gb 2 64 19) 0) _ _ H4.out.hA H4.out.hM (by omega) (by omega) (by omega) (by omega) (by omega) (wAt_rep HL.out)).mono ?_
  rintro e w5 ⟨rfl, p⟩
  have H5 := hid (H4.out.stepA p)
  have HX5 := hid (HX4.out.trans' (p.2.2.mono (by simp)))
  clear p
  clear hg
  clear H4 HX4
  have hg := H5.out.hg
  go_wp2_with fail
  refine (pSteps_any A M.m 63 _ 1 _ H5.out.hA).mono ?_
  rintro e w6 ⟨rfl, x⟩
  have H6 := hid (H5.out.ext0 x)
  have HX6 := hid (HX5.out.trans0 x)
  clear x
  clear hg
  clear H5 HX5
  have hg := H6.out.hg
  go_wp2_with fail
  refine (gLock_any 2 64 _ (by omega) (by omega)).mono ?_
  rintro e w7 ⟨rfl, x⟩
  have H7 := hid (H6.out.ext0 x)
  have HX7 := hid (HX6.out.trans0 x)
  clear x
  clear hg
  clear H6 HX6
  rw [GL.out]
  have hg := H7.out.hg
  go_wp2_with fail
  refine (mWord_any M ((List.replicate (gb 2 64 19) 0).set 0 (mineW 63)) _ 0 _ H7.out.hM).mono ?_
  rintro e w8 ⟨rfl, hm, x⟩
  have H8 := hid (H7.out.stepM hm x)
  have HX8 := hid (HX7.out.trans' (x.mono (by simp)))
  clear hm x
  clear hg
  clear H7 HX7
  rw [show wT 1 0 0 ((List.replicate (gb 2 64 19) 0).set 0 (mineW 63)) = mineW 63 from by rw [wT, wAt_set0 _ (by simpa using HL.out)]; rfl]
  have hg := H8.out.hg
  go_wp2_with fail
  refine (tryMiss B M 0 2 64 _ 0 ((List.replicate (gb 2 64 19) 0).set 0 (mineW 63)) _ _ H8.out.hB H8.out.hM (by omega) (by omega) (by omega) (by omega) (by omega) (by rw [wAt_set0 _ (by simpa using HL.out)]; decide)).mono ?_
  rintro e w9 ⟨rfl, p⟩
  have H9 := hid (H8.out.stepB p)
  have HX9 := hid (HX8.out.trans' (p.2.2.mono (by simp)))
  clear p
  clear hg
  clear H8 HX8
  have hg := H9.out.hg
  go_wp2_with fail
  refine (pSteps_any B M.m 0 _ 3 _ H9.out.hB).mono ?_
  rintro e w10 ⟨rfl, x⟩
  have H10 := hid (H9.out.ext0 x)
  have HX10 := hid (HX9.out.trans0 x)
  clear x
  clear hg
  clear H9 HX9
  have hg := H10.out.hg
  go_wp2_with fail
  refine (dropMiss B M 0 2 64 _ 3 ((List.replicate (gb 2 64 19) 0).set 0 (mineW 63)) _ _ H10.out.hB H10.out.hM (by omega) (by omega) (by omega) (by omega) (by omega) (by rw [wAt_set0 _ (by simpa using HL.out)]; decide)).mono ?_
  rintro e w11 ⟨rfl, p⟩
  have H11 := hid (H10.out.stepB p)
  have HX11 := hid (HX10.out.trans' (p.2.2.mono (by simp)))
  clear p
  clear hg
  clear H10 HX10
  have hg := H11.out.hg
  go_wp2_with fail
  refine (pSteps_any B M.m 0 _ 4 _ H11.out.hB).mono ?_
  rintro e w12 ⟨rfl, x⟩
  have H12 := hid (H11.out.ext0 x)
  have HX12 := hid (HX11.out.trans0 x)
  clear x
  clear hg
  clear H11 HX11
  have hg := H12.out.hg
  go_wp2_with fail
  refine (dropHit A M 63 2 64 _ 1 ((List.replicate (gb 2 64 19) 0).set 0 (mineW 63)) _ _ H12.out.hA H12.out.hM (by omega) (by omega) (by omega) (by omega) (by omega) (wAt_set0 _ (by simpa using HL.out))).mono ?_
  rintro e w13 ⟨rfl, p⟩
  have H13 := hid (H12.out.stepA p)
  have HX13 := hid (HX12.out.trans' (p.2.2.mono (by simp)))
  clear p
  clear hg
  clear H12 HX12
  have hg := H13.out.hg
  go_wp2_with fail
  refine (gLock_any 2 64 _ (by omega) (by omega)).mono ?_
  rintro e w14 ⟨rfl, x⟩
  have H14 := hid (H13.out.ext0 x)
  have HX14 := hid (HX13.out.trans0 x)
  clear x
  clear hg
  clear H13 HX13
  rw [GL.out]
  have hg := H14.out.hg
  go_wp2_with fail
  refine (mWord_any M (((List.replicate (gb 2 64 19) 0).set 0 (mineW 63)).set 0 0) _ 0 _ H14.out.hM).mono ?_
  rintro e w15 ⟨rfl, hm, x⟩
  have H15 := hid (H14.out.stepM hm x)
  have HX15 := hid (HX14.out.trans' (x.mono (by simp)))
  clear hm x
  clear hg
  clear H14 HX14
  rw [show wT 1 0 0 (((List.replicate (gb 2 64 19) 0).set 0 (mineW 63)).set 0 0) = 0 from by rw [wT, wAt_set0 _ (by simpa using HL.out)]; rfl]
  have hg := H15.out.hg
  go_wp2_with fail
  refine (dropMiss A M 63 2 64 _ 2 (((List.replicate (gb 2 64 19) 0).set 0 (mineW 63)).set 0 0) _ _ H15.out.hA H15.out.hM (by omega) (by omega) (by omega) (by omega) (by omega) (by rw [wAt_set0 _ (by simpa using HL.out)]; decide)).mono ?_
  rintro e w16 ⟨rfl, p⟩
  have H16 := hid (H15.out.stepA p)
  have HX16 := hid (HX15.out.trans' (p.2.2.mono (by simp)))
  clear p
  clear hg
  clear H15 HX15
  have hg := H16.out.hg
  go_wp2_with fail
  refine (lHolder_lit 0 (-1) 0 _ (by decide) (by decide)).mono ?_
  rintro e w17 ⟨rfl, x⟩
  have H17 := hid (H16.out.ext0 x)
  have HX17 := hid (HX16.out.trans0 x)
  clear x
  clear hg
  clear H16 HX16
  have hg := H17.out.hg
  go_wp2_with fail
  refine (lHolder_lit 1 0 1 _ (by decide) (by decide)).mono ?_
  rintro e w18 ⟨rfl, x⟩
  have H18 := hid (H17.out.ext0 x)
  have HX18 := hid (HX17.out.trans0 x)
  clear x
  clear hg
  clear H17 HX17
  have hg := H18.out.hg
  go_wp2_with fail
  refine (lHolder_lit 64 63 64 _ (by decide) (by decide)).mono ?_
  rintro e w19 ⟨rfl, x⟩
  have H19 := hid (H18.out.ext0 x)
  have HX19 := hid (HX18.out.trans0 x)
  clear x
  clear hg
  clear H18 HX18
  have hg := H19.out.hg
  go_wp2_with fail
  refine (lHolder_lit 65 (-1) 65 _ (by decide) (by decide)).mono ?_
  rintro e w20 ⟨rfl, x⟩
  have H20 := hid (H19.out.ext0 x)
  have HX20 := hid (HX19.out.trans0 x)
  clear x
  clear hg
  clear H19 HX19
  have hg := H20.out.hg
  go_wp2_with fail
  refine (lHolder_lit 18446744073709551615 (-1) 18446744073709551615 _ (by decide) (by decide)).mono ?_
  rintro e w21 ⟨rfl, x⟩
  have H21 := hid (H20.out.ext0 x)
  have HX21 := hid (HX20.out.trans0 x)
  clear x
  clear hg
  clear H20 HX20
  have hg := H21.out.hg
  go_wp2_with fail
  refine (awake07 _).mono ?_
  rintro e w22 ⟨rfl, x⟩
  have H22 := hid (H21.out.ext0 x)
  have HX22 := hid (HX21.out.trans0 x)
  clear x
  clear hg
  clear H21 HX21
  go_wp2
  go_ret
  exact ⟨rfl, HX22.out.drop (by simp; exact ⟨HL2.out.1, HL2.out.2, l2⟩)⟩

theorem Try.own : ownKnob Try.prog.godebug = none := by kernel_rfl

set_option linter.unusedVariables false in
set_option maxRecDepth 100000 in
theorem lockKnown_lifted (os : Os) (started : os.Started) (H : Type) (enc : TypeId × Value → H) :
    ReturnsInHanded {} Try.checked os 5 .any (Rows.lockKnownSpec.pre6 enc Try.prog Try.f5 Rows.lockKnownRow.domain false) (Rows.lockKnownSpec.post enc Try.prog Try.f5 false true false false) := by
  refine returnsInHanded_of_change (C := Try.checked) Try.own started (by kernel_rfl) Try.func5
    (ChangeSpec.witness6 (enc := enc) (C := Try.checked) false ⟨#[], #[], []⟩ 8 (by kernel_rfl) (by kernel_rfl) (by kernel_rfl) (by kernel_rfl)) ?_
  intro W base args ds gs before hval0 hW hcnd _
  have hval : ∀ (j : Nat) t v, Try.f5.params[j]? = some t → args[j]? = some v → Value.okWide Try.prog W .any base t v := hval0
  have hW' := hW
  obtain ⟨p, q, hA0, hV, rfl, hfz, hnd⟩ := hW
  have hA : DataW.TrodAll enc Try.prog W 0 (fun _ => true) true Try.f5.params.toList args.toList ds p := hA0
  rw [Try.params5] at hA hval
  obtain ⟨rfl, rfl, rfl⟩ := trodAll_none hA
  obtain ⟨rfl, rfl⟩ := trodVars_none hV
  clear hA0 hval0
  simp only [List.append_nil] at hW'
  refine (lockKnown_any W).mono fun e W' ⟨he, hg⟩ => ?_
  subst he
  exact ⟨_, rfl, post_ext (pa := []) (pv := []) hg hW' (fun _ _ _ => (trodAll_cons_mk (shut_bool Try.underlying4 _) trodAll_mk0)) (fun sp _ => rfl) (fun _ _ => rfl) rfl
    (ok_one (by kernel_rfl) rfl (okWide_bool_mk Try.underlying4 _))⟩

theorem lockKnown_over : Rows.lockKnownRow.holds Try.pinned (OpenSpec.ofChange Rows.lockKnownSpec) :=
  OpenClaim.holds_of_wide 5 Try.f5 rfl rfl rfl rfl rfl rfl rfl ⟨rfl, rfl, rfl, rfl, rfl⟩ rfl rfl rfl rfl rfl (by kernel_rfl) Try.func5 (by kernel_rfl)
    (of_decide_eq_true (by kernel_rfl)) (by unfold Func.isWrapper; first | (rw [if_pos (by decide +kernel)]; kernel_rfl) | (rw [if_neg (by decide +kernel)]; exact ⟨rfl, rfl⟩))
    (fun os started H enc _ => lockKnown_lifted os started H enc)

theorem lockKnown.proved : Rows.LockKnownSaid :=
  lockKnown_over
#print axioms lockKnown.proved
end Go.Proofs.Ytjigpdihgaenhaa
