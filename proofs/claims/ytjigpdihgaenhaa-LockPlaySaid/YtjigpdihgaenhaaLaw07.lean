/-
  quilletref07, and what the laws of layer 7 have in common: the references' contracts, two ports to one memory, awake.
  Conditions: none beyond what is there.
-/
import Derived.Test.YtjigpdihgaenhaaLock2
import Derived.Test.YtjigpdihgaenhaaBegun
namespace Go.Proofs.Ytjigpdihgaenhaa
open Go Go.RowKit

set_option maxHeartbeats 1000000 in
theorem rTry_any (x : UInt64) (me : Nat) (w : World) (hme : me ≤ 1000) : Calls Try.prog 21 #[.int .u64 (x.toNat : Int), .int .i64 me] w
    (Ret (if x = 0 then .tuple #[.int .u64 ((mineW me).toNat : Int), .bool true, .int .i64 1] else .tuple #[.int .u64 (x.toNat : Int), .bool false, .int .i64 3]) (Ext [] w)) := by
  by_cases h : x = 0
  · subst h
    rw [if_pos rfl, mineW_nat me hme]
    have h0 : ((((0 : UInt64).toNat : Nat) : Int) == 0) = true := rfl
    go_enter Try.func21, Try.ntmps21
    go_wp2
    go_ret3
    exact ⟨rfl, Ext.refl _ _⟩
  · rw [if_neg h]
    have h0 : (((x.toNat : Nat) : Int) == 0) = false := by
      have := u64_eq x 0
      have e : (((0 : UInt64).toNat : Nat) : Int) = 0 := rfl
      rw [e] at this
      rw [this]; simpa using h
    clear h
    go_enter Try.func21, Try.ntmps21
    go_wp2
    go_ret3
    exact ⟨rfl, Ext.refl _ _⟩

set_option maxHeartbeats 1000000 in
theorem rDrop_any (x : UInt64) (me : Nat) (w : World) (hme : me ≤ 1000) : Calls Try.prog 23 #[.int .u64 (x.toNat : Int), .int .i64 me] w
    (Ret (if x = mineW me then .tuple #[.int .u64 0, .bool true] else .tuple #[.int .u64 (x.toNat : Int), .bool false]) (Ext [] w)) := by
  have e := mineW_nat me hme
  by_cases h : x = mineW me
  · rw [if_pos h]
    have h0 : (((x.toNat : Nat) : Int) == (me : Int) + 1) = true := by rw [h, e]; simp
    clear h e
    go_enter Try.func23, Try.ntmps23
    go_wp2
    go_ret2
    exact ⟨rfl, Ext.refl _ _⟩
  · rw [if_neg h]
    have h0 : (((x.toNat : Nat) : Int) == (me : Int) + 1) = false := by rw [← e, u64_eq]; simpa using h
    clear h e
    go_enter Try.func23, Try.ntmps23
    go_wp2
    go_ret2
    exact ⟨rfl, Ext.refl _ _⟩

set_option maxHeartbeats 1000000 in
theorem rHolder_any (x : UInt64) (w : World) : Calls Try.prog 27 #[.int .u64 (x.toNat : Int)] w (Ret (.int .i64 (holderF x)) (Ext [] w)) := by
  go_enter Try.func27, Try.ntmps27
  go_wp2
  go_loop [3] (fun i => ∃ k : Nat, k ≤ 64 ∧ i = .int .i64 k ∧ ∀ j, j < k → x.toNat ≠ j + 1) (fun i => 64 - (intOf i).toNat)
  case atStart => exact ⟨0, by omega, rfl, fun j hj => by omega⟩
  case round =>
    obtain ⟨k, hk, rfl, hne⟩ := hrel
    have HN := hid hne
    clear hne
    by_cases hlt : k < 64
    · by_cases hx : x.toNat = k + 1
      · have h0 : (((x.toNat : Nat) : Int) == (k : Int) + 1) = true := by simp; omega
        have hf : holderF x = k := by unfold holderF; rw [if_neg (by omega)]; omega
        rw [hf]
        clear hx hf
        go_wp2
        go_ret
        exact ⟨rfl, Ext.refl _ _⟩
      · have h0 : (((x.toNat : Nat) : Int) == (k : Int) + 1) = false := by simp; omega
        have HX := hid hx
        clear hx
        go_wp2
        refine ⟨⟨k + 1, by omega, by go_num, fun j hj => ?_⟩, by simp [intOf]; omega⟩
        by_cases hjk : j = k
        · subst hjk; exact HX.out
        · exact HN.out j (by omega)
    · have hf : holderF x = -1 := by
        have : k = 64 := by omega
        subst this
        unfold holderF
        split
        · rfl
        · by_cases h0 : x.toNat = 0
          · omega
          · have := HN.out (x.toNat - 1) (by omega); omega
      have HF := hid hf
      clear hf
      go_wp2
      go_ret
      exact ⟨by rw [HF.out]; rfl, Ext.refl _ _⟩

/-! ### two ports to one memory, and a box that holds the geometry -/

structure Two (w : World) (A B : DirId) (M : MemId) (N T a b bg : Nat) (sa sb : Nat) (ws : List UInt64) (bs : List UInt8) : Prop where
  hA : DirAt w A M.m (a : Int) (.pointer none) sa
  hB : DirAt w B M.m (b : Int) (.pointer none) sb
  hM : MemAt w M ws bs
  hg : blk w bg = some (.cells (geoC N T) 26 (0, 0))
  ne : A.v ≠ B.v

section
variable {w w' : World} {A B : DirId} {M : MemId} {N T a b bg sa sb s : Nat} {ws ws' : List UInt64} {bs : List UInt8}
theorem Two.ext0 (h : Two w A B M N T a b bg sa sb ws bs) (k : Ext [] w w') : Two w' A B M N T a b bg sa sb ws bs :=
  ⟨h.hA.ext0 k, h.hB.ext0 k, h.hM.ext0 k, k.blk h.hg (by simp), h.ne⟩
theorem Two.stepA (h : Two w A B M N T a b bg sa sb ws bs) (k : PS A M (a : Int) (.pointer none) s ws' bs w w') : Two w' A B M N T a b bg s sb ws' bs :=
  ⟨k.1, h.hB.ext k.2.2 (by have := cells_type h.hB.hd h.hA.hv (by decide); have := h.hB.ne_dw h.hM; simp; omega) (by have := h.ne; have := h.hB.ne_vw h.hM; simp; omega), k.2.1,
    k.2.2.blk h.hg (by have := cells_type h.hg h.hA.hv (by decide); have := cells_type h.hg h.hM.hw (by decide); simp; omega), h.ne⟩
theorem Two.stepB (h : Two w A B M N T a b bg sa sb ws bs) (k : PS B M (b : Int) (.pointer none) s ws' bs w w') : Two w' A B M N T a b bg sa s ws' bs :=
  ⟨h.hA.ext k.2.2 (by have := cells_type h.hA.hd h.hB.hv (by decide); have := h.hA.ne_dw h.hM; simp; omega) (by have := h.ne; have := h.hA.ne_vw h.hM; simp; omega), k.1, k.2.1,
    k.2.2.blk h.hg (by have := cells_type h.hg h.hB.hv (by decide); have := cells_type h.hg h.hM.hw (by decide); simp; omega), h.ne⟩
end

theorem gat_lock (N T : Nat) (h : 1 ≤ N) : gat N T 0 0 = 0 := by
  have e0 : gb N T 0 = 0 := by unfold gb; split <;> rfl
  have e1 : gb N T 1 = 1 := by rw [gb_succ, e0, if_neg (by omega)]; rfl
  rw [gat_in N T 0 (by omega) (by rw [e0, e1]; omega), e0]; rfl
theorem gb19_pos (N T : Nat) (h : 1 ≤ N) : 1 ≤ gb N T 19 := by
  unfold gb; rw [if_neg (by omega)]; simp only [gsum, gsz]; omega
theorem wAt_set0 {ws : List UInt64} (x : UInt64) (h : 0 < ws.length) : wAt (ws.set 0 x) 0 = some x := by
  unfold wAt; simp [h]
theorem wAt_rep {n : Nat} (h : 0 < n) : wAt (List.replicate n 0) 0 = some 0 := by unfold wAt; simp [h]

theorem Two.stepM {w w' : World} {A B : DirId} {M : MemId} {N T a b bg sa sb : Nat} {ws : List UInt64} {bs : List UInt8} (h : Two w A B M N T a b bg sa sb ws bs) (k : MemAt w' M ws bs) (x : Ext [M.bw] w w') : Two w' A B M N T a b bg sa sb ws bs :=
  ⟨h.hA.ext x (by have := h.hA.ne_dw h.hM; simpa using this) (by have := h.hA.ne_vw h.hM; simpa using this), h.hB.ext x (by have := h.hB.ne_dw h.hM; simpa using this) (by have := h.hB.ne_vw h.hM; simpa using this), k,
    x.blk h.hg (by have := cells_type h.hg h.hM.hw (by decide); simpa using this), h.ne⟩

section
variable (D : DirId) (M : MemId) (me N T : Nat) (told : Value) (steps : Nat) (ws : List UInt64) (bs : List UInt8) (w : World)
    (hD : DirAt w D M.m (me : Int) told steps) (hM : MemAt w M ws bs) (hs : steps ≤ 100000000000) (hme : me ≤ 1000) (hN1 : 1 ≤ N) (hN : N ≤ 256) (hT : T ≤ 64)
include hD hM hs hme hN1 hN hT
theorem tryHit (hh : wAt ws 0 = some 0) : Calls Try.prog 20 #[portV D, .agg (geoC N T)] w (Ret (.bool true) (PS D M me told (steps + 1) (ws.set 0 (mineW me)) bs w)) := by
  have h := lTry_hit D M me N T told steps ws bs w hD hM hs hme hN hT (by rw [gat_lock N T hN1]; exact hh)
  rw [gat_lock N T hN1] at h; exact h
theorem tryMiss (hh : wAt ws 0 ≠ some 0) : Calls Try.prog 20 #[portV D, .agg (geoC N T)] w (Ret (.bool false) (PS D M me told (steps + 3) ws bs w)) :=
  lTry_miss D M me N T told steps ws bs w hD hM hs hme hN hT (by rw [gat_lock N T hN1]; exact hh)
theorem dropHit (hh : wAt ws 0 = some (mineW me)) : Calls Try.prog 22 #[portV D, .agg (geoC N T)] w (Ret (.bool true) (PS D M me told (steps + 1) (ws.set 0 0) bs w)) := by
  have h := lDrop_any D M me N T told steps ws bs w hD hM (by omega) hme hN hT
  rw [gat_lock N T hN1, (cas_hit hh 0).1, (cas_hit hh 0).2] at h; exact h
theorem dropMiss (hh : wAt ws 0 ≠ some (mineW me)) : Calls Try.prog 22 #[portV D, .agg (geoC N T)] w (Ret (.bool false) (PS D M me told (steps + 1) ws bs w)) := by
  have h := lDrop_any D M me N T told steps ws bs w hD hM (by omega) hme hN hT
  rw [gat_lock N T hN1, (cas_miss hh 0).1, (cas_miss hh 0).2] at h; exact h
end

theorem set0 (ws : List UInt64) (x y : UInt64) : (ws.set 0 x).set 0 y = ws.set 0 y := by simp
theorem len_set (ws : List UInt64) (n : Nat) (x : UInt64) : (ws.set n x).length = ws.length := by simp

set_option maxRecDepth 100000 in
set_option maxHeartbeats 4000000 in
theorem awake07 (w : World) : Calls Try.prog 19 #[] w (Ret (.bool true) (Ext [] w)) := by
  have gl := gat_lock 1 2 (by omega)
  have hp := gb19_pos 1 2 (by omega)
  have GL := hid gl
  have HL := hid (show 0 < gb 1 2 19 from hp)
  clear gl hp
  go_enter Try.func19, Try.ntmps19
  go_wp2_with fail
  refine (begun_any 1 2 _ (by omega) (by omega) (by omega) (by omega)).mono ?_
  rintro e w1 ⟨M, rfl, hM, x1, l1, l2, l3⟩
  have HM := hid hM
  have X1 := hid x1
  clear hM x1
  go_wp2_with fail
  refine (pNew_any M.m 0 _).mono ?_
  rintro e w2 ⟨A, rfl, hA, x2, a1, a2⟩
  have HA := hid hA
  have X2 := hid x2
  have s2 := blk_lt hA.hv
  clear hA x2
  go_wp2_with fail
  refine (pNew_any M.m 1 _).mono ?_
  rintro e w3 ⟨B, rfl, hB, x3, b1, b2⟩
  have HX := hid ((((X1.out.alloc _).trans' X2.out).trans' x3))
  have H := hid (show Two w3 A B M 1 2 0 1 w1.heap.size 0 0 (List.replicate (gb 1 2 19) 0) (List.replicate (64 * 1) 0) from
    ⟨HA.out.ext0 x3, hB, ((HM.out.alloc _).ext0 X2.out).ext0 x3, (X2.out.blk (blk_new _ _) (by simp) |> fun h => x3.blk h (by simp)), by omega⟩)
  have HL2 := hid (And.intro (show w.heap.size ≤ A.v by simp at a2; have := X1.out.size; omega) (show w.heap.size ≤ B.v by have := X1.out.size; have := X2.out.size; simp at *; omega))
  clear hB x3 HA X2 HM X1
  have hg := H.out.hg
  go_wp2_with fail
  refine (gPages_any 1 2 _).mono ?_
  rintro e w4 ⟨rfl, x4⟩
  have H4 := hid (H.out.ext0 x4)
  have HX4 := hid ((HX.out.mono (Y := [A.v, B.v, M.bw]) (by simp)).trans0 x4)
  clear hg x4 H HX
  have hg := H4.out.hg
  go_wp2_with fail
  refine (tryHit A M 0 1 2 _ 0 (List.replicate (gb 1 2 19) 0) _ _ H4.out.hA H4.out.hM (by omega) (by omega) (by omega) (by omega) (by omega) (wAt_rep HL.out)).mono ?_
  rintro e w5 ⟨rfl, p⟩
  have H5 := hid (H4.out.stepA p)
  have HX5 := hid (HX4.out.trans' (p.2.2.mono (by simp)))
  clear p
  clear hg
  clear H4 HX4
  have hg := H5.out.hg
  go_wp2_with fail
  refine (tryMiss B M 1 1 2 _ 0 ((List.replicate (gb 1 2 19) 0).set 0 (mineW 0)) _ _ H5.out.hB H5.out.hM (by omega) (by omega) (by omega) (by omega) (by omega) (by rw [wAt_set0 _ (by simpa using HL.out)]; decide)).mono ?_
  rintro e w6 ⟨rfl, p⟩
  have H6 := hid (H5.out.stepB p)
  have HX6 := hid (HX5.out.trans' (p.2.2.mono (by simp)))
  clear p
  clear hg
  clear H5 HX5
  have hg := H6.out.hg
  go_wp2_with fail
  refine (tryMiss A M 0 1 2 _ 1 ((List.replicate (gb 1 2 19) 0).set 0 (mineW 0)) _ _ H6.out.hA H6.out.hM (by omega) (by omega) (by omega) (by omega) (by omega) (by rw [wAt_set0 _ (by simpa using HL.out)]; decide)).mono ?_
  rintro e w7 ⟨rfl, p⟩
  have H7 := hid (H6.out.stepA p)
  have HX7 := hid (HX6.out.trans' (p.2.2.mono (by simp)))
  clear p
  clear hg
  clear H6 HX6
  have hg := H7.out.hg
  go_wp2_with fail
  refine (dropMiss B M 1 1 2 _ 3 ((List.replicate (gb 1 2 19) 0).set 0 (mineW 0)) _ _ H7.out.hB H7.out.hM (by omega) (by omega) (by omega) (by omega) (by omega) (by rw [wAt_set0 _ (by simpa using HL.out)]; decide)).mono ?_
  rintro e w8 ⟨rfl, p⟩
  have H8 := hid (H7.out.stepB p)
  have HX8 := hid (HX7.out.trans' (p.2.2.mono (by simp)))
  clear p
  clear hg
  clear H7 HX7
  have hg := H8.out.hg
  go_wp2_with fail
  refine (dropHit A M 0 1 2 _ 4 ((List.replicate (gb 1 2 19) 0).set 0 (mineW 0)) _ _ H8.out.hA H8.out.hM (by omega) (by omega) (by omega) (by omega) (by omega) (wAt_set0 _ (by simpa using HL.out))).mono ?_
  rintro e w9 ⟨rfl, p⟩
  have H9 := hid (H8.out.stepA p)
  have HX9 := hid (HX8.out.trans' (p.2.2.mono (by simp)))
  clear p
  clear hg
  clear H8 HX8
  have hg := H9.out.hg
  go_wp2_with fail
  refine (tryHit B M 1 1 2 _ 4 (((List.replicate (gb 1 2 19) 0).set 0 (mineW 0)).set 0 0) _ _ H9.out.hB H9.out.hM (by omega) (by omega) (by omega) (by omega) (by omega) (wAt_set0 _ (by simpa using HL.out))).mono ?_
  rintro e w10 ⟨rfl, p⟩
  have H10 := hid (H9.out.stepB p)
  have HX10 := hid (HX9.out.trans' (p.2.2.mono (by simp)))
  clear p
  clear hg
  clear H9 HX9
  have hg := H10.out.hg
  go_wp2_with fail
  refine (gLock_any 1 2 _ (by omega) (by omega)).mono ?_
  rintro e w11 ⟨rfl, x⟩
  have H11 := hid (H10.out.ext0 x)
  have HX11 := hid (HX10.out.trans0 x)
  clear x
  clear hg
  clear H10 HX10
  rw [GL.out]
  have hg := H11.out.hg
  go_wp2_with fail
  refine (mWord_any M ((((List.replicate (gb 1 2 19) 0).set 0 (mineW 0)).set 0 0).set 0 (mineW 1)) _ 0 _ H11.out.hM).mono ?_
  rintro e w12 ⟨rfl, hm, x⟩
  have H12 := hid (H11.out.stepM hm x)
  have HX12 := hid (HX11.out.trans' (x.mono (by simp)))
  clear hm x
  clear hg
  clear H11 HX11
  rw [show wT 1 0 0 ((((List.replicate (gb 1 2 19) 0).set 0 (mineW 0)).set 0 0).set 0 (mineW 1)) = mineW 1 from by rw [wT, wAt_set0 _ (by simpa using HL.out)]; rfl]
  have hg := H12.out.hg
  go_wp2_with fail
  refine (lHolder_any (mineW 1) _).mono ?_
  rintro e w13 ⟨rfl, x⟩
  have H13 := hid (H12.out.ext0 x)
  have HX13 := hid (HX12.out.trans0 x)
  clear x
  clear hg
  clear H12 HX12
  go_wp2
  go_ret
  exact ⟨rfl, HX13.out.drop (by simp; exact ⟨HL2.out.1, HL2.out.2, l2⟩)⟩

end Go.Proofs.Ytjigpdihgaenhaa
