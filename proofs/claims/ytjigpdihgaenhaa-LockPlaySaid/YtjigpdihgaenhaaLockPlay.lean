/-
  LockPlay: whatever threads try and drop, call by call, the law returns true.
  Conditions: the first argument fits its kind, the row's cells are there.
-/
import Derived.Test.YtjigpdihgaenhaaLaw07
import Derived.ProofKit
namespace Go.Proofs.Ytjigpdihgaenhaa
open Go Go.RowKit Go.ChangeShapes Go.WideShapes Go.ChangeAt

/-- A row of bytes that came in: each of its numbers is there, and fits. -/
def RowIn (w : World) (a : Option Addr) (len : Nat) (z : List Nat) : Prop :=
  z.length = len ∧ ∀ i, i < len → ∃ b o, a = some ⟨b, o, none⟩ ∧ w.cell? ⟨b, o + i, none⟩ = some (.int .u8 ((z.getD i 0 : Nat) : Int)) ∧ z.getD i 0 < 256

set_option maxRecDepth 100000 in
set_option maxHeartbeats 8000000 in
theorem lockPlay_any (a0 : Nat) (a : Option Addr) (len cap : Nat) (z : List Nat) (w : World) (h0 : a0 < 256) (hz : RowIn w a len z) :
    Calls Try.prog 4 #[.int .u8 (a0 : Int), .slice a len cap] w (Ret (.bool true) (Ext [] w)) := by
  by_cases hl : 60 < len
  · have hl' : (60 : Int) < (len : Int) := by omega
    go_enter Try.func4, Try.ntmps4
    go_wp2_with fail
    refine (awake07 _).mono ?_
    rintro e w1 ⟨rfl, x1⟩
    go_wp2
    go_ret
    exact ⟨rfl, x1⟩
  · have hl' : ¬ (60 : Int) < (len : Int) := by omega
    have hT : a0 % 64 + 1 ≤ 64 := by omega
    have e1 : (a0 : Int) % 64 + 1 = ((a0 % 64 + 1 : Nat) : Int) := by push_cast; rfl
    have b1 : 0 ≤ (a0 : Int) % 64 := by omega
    have b2 : (a0 : Int) % 64 < 64 := by omega
    have E1 := hid e1
    have HZ := hid hz
    clear hz e1
    go_enter Try.func4, Try.ntmps4
    go_wp2_with fail
    rw [E1.out]
    clear b1 b2
    generalize hTT : a0 % 64 + 1 = T at *
    have hT1 : 1 ≤ T := by omega
    have GL := hid (gat_lock 1 T (by omega))
    have HL := hid (show 0 < gb 1 T 19 from gb19_pos 1 T (by omega))
    refine (begun_any 1 T _ (by omega) (by omega) (by omega) (by omega)).mono ?_
    rintro e w1 ⟨M, rfl, hM, x1, l1, l2, l3⟩
    have HM := hid hM
    have X1 := hid x1
    clear hM x1
    go_wp2_with fail
    have HB := hid (blk_new w1 (.cells (geoC 1 T) 26 (0, 0)))
    have hl8 : len ≤ 60 := by omega
    go_loopw [8, 9] (fun x i wr => ∃ (k : Nat) (v : UInt64) (ws : List UInt64), k ≤ len ∧ i = .int .i64 k ∧ x = .int .u64 ((v.toNat : Nat) : Int) ∧ MemAt wr M ws (List.replicate (64 * 1) 0) ∧ 0 < ws.length ∧ wAt ws 0 = some v ∧ Ext [M.bw] w wr ∧ blk wr w1.heap.size = some (.cells (geoC 1 T) 26 (0, 0))) (fun _ i _ => len - (intOf i).toNat)
    case atStart => exact ⟨0, 0, _, by omega, rfl, rfl, HM.out.ext0 ((Ext.refl [] _).alloc _), by simpa using HL.out, wAt_rep HL.out, (X1.out.alloc _).mono (by simp), HB.out⟩
    case round =>
      obtain ⟨k, v, ws, hk, rfl, rfl, hM, hlen, hv, hx, hgb⟩ := hrel
      by_cases hlt : k < len
      · obtain ⟨b, o, rfl, hc, hy⟩ := HZ.out.2 k hlt
        have hcell := hx.cell' hc (by have := World.block_lt_of_cell? _ _ hc; simp at *; omega)
        have HY := hid hy
        have HM2 := hid hM
        have HV := hid hv
        have HX := hid hx
        have HG := hid hgb
        clear hc hy hM hv hx hgb
        have HN := hid hlen
        have LB := hid (show w1.heap.size ≠ M.bw by have := blk_lt HM.out.hw; omega)
        clear hlen
        generalize z.getD k 0 = y at *
        have hk' : (k : Int) < (len : Int) := by omega
        obtain ⟨me, hme⟩ : ∃ me, y % 128 % T = me := ⟨_, rfl⟩
        have hme2 : me < T := hme ▸ Nat.mod_lt _ (by omega)
        have EM := hid (show (y : Int) % 128 % (T : Int) = (me : Int) by rw [← hme]; push_cast; rfl)
        -- ROUND
        go_wp2_with fail
        rw [EM.out]
        refine (pNew_any M.m (me : Int) _).mono ?_
        rintro e w2 ⟨A, rfl, hA, x2, a1, a2⟩
        have H3 := hid (show DirAt w2 A M.m (me : Int) (.pointer none) 0 ∧ MemAt w2 M ws (List.replicate (64 * 1) 0) ∧ Ext [M.bw] w w2 ∧ (w.heap.size ≤ A.v ∧ w1.heap.size ≠ A.v) ∧ blk w2 w1.heap.size = some (.cells (geoC 1 T) 26 (0, 0)) from
          ⟨hA, HM2.out.ext0 x2, HX.out.trans0 x2, (by have := HX.out.size; have := blk_lt HG.out; simp at *; omega), x2.blk HG.out (by simp)⟩)
        have hcell2 := x2.cell' hcell (by simp)
        clear hA x2 a1 a2 HM2 HX HG hcell
        by_cases hy8 : y < 128
        · have hy8' : (y : Int) < 128 := by omega
          by_cases hh : v = 0
          · have HH := hid hh
            clear hh
            have hg := H3.out.2.2.2.2
            go_wp2_with fail
            refine (tryHit A M me 1 T _ 0 ws _ _ H3.out.1 H3.out.2.1 (by omega) (by omega) (by omega) (by omega) (by omega) (by rw [HV.out, HH.out])).mono ?_
            rintro e w3 ⟨rfl, p⟩
            have H33 := hid (show MemAt w3 M (ws.set 0 (mineW me)) (List.replicate (64 * 1) 0) ∧ Ext [M.bw] w w3 ∧ blk w3 w1.heap.size = some (.cells (geoC 1 T) 26 (0, 0)) from
              ⟨p.2.1, (H3.out.2.2.1.trans p.2.2 (fun _ h => h) (by have := H3.out.2.2.2.1; simp; omega)), p.2.2.blk H3.out.2.2.2.2 (by have := LB.out; have := H3.out.2.2.2.1; simp; omega)⟩)
            clear p hg H3
            go_wp2_with fail
            refine (rTry_any v me _ (by omega)).mono ?_
            rintro e w4 ⟨rfl, x4⟩
            have H4 := hid (And.intro True.intro (show MemAt w4 M (ws.set 0 (mineW me)) (List.replicate (64 * 1) 0) ∧ Ext [M.bw] w w4 ∧ blk w4 w1.heap.size = some (.cells (geoC 1 T) 26 (0, 0)) from
              ⟨H33.out.1.ext0 x4, H33.out.2.1.trans0 x4, x4.blk H33.out.2.2 (by simp)⟩))
            clear x4 H33
            rw [if_pos HH.out]
            have hg := H4.out.2.2.2
            go_wp2_with fail
            refine (gLock_any 1 T _ (by omega) (by omega)).mono ?_
            rintro e w5 ⟨rfl, x5⟩
            have H5 := hid (show MemAt w5 M (ws.set 0 (mineW me)) (List.replicate (64 * 1) 0) ∧ Ext [M.bw] w w5 ∧ blk w5 w1.heap.size = some (.cells (geoC 1 T) 26 (0, 0)) from ⟨H4.out.2.1.ext0 x5, H4.out.2.2.1.trans0 x5, x5.blk H4.out.2.2.2 (by simp)⟩)
            clear x5 H4 hg
            go_wp2_with fail
            rw [GL.out]
            refine (mWord_any M (ws.set 0 (mineW me)) _ 0 _ H5.out.1).mono ?_
            rintro e w6 ⟨rfl, hm, x6⟩
            have H6 := hid (show MemAt w6 M (ws.set 0 (mineW me)) (List.replicate (64 * 1) 0) ∧ Ext [M.bw] w w6 ∧ blk w6 w1.heap.size = some (.cells (geoC 1 T) 26 (0, 0)) from ⟨hm, H5.out.2.1.trans' x6, x6.blk H5.out.2.2 (by simpa using LB.out)⟩)
            clear hm x6 H5
            rw [show wT 1 0 0 (ws.set 0 (mineW me)) = (mineW me) from by rw [wT, (wAt_set0 _ HN.out)]; rfl]
            go_wp2_with fail
            refine (lHolder_any (mineW me) _).mono ?_
            rintro e w7 ⟨rfl, x7⟩
            go_wp2_with fail
            refine (rHolder_any (mineW me) _).mono ?_
            rintro e w8 ⟨rfl, x8⟩
            have H8 := hid (show MemAt w8 M (ws.set 0 (mineW me)) (List.replicate (64 * 1) 0) ∧ Ext [M.bw] w w8 ∧ blk w8 w1.heap.size = some (.cells (geoC 1 T) 26 (0, 0)) from ⟨(H6.out.1.ext0 x7).ext0 x8, (H6.out.2.1.trans0 x7).trans0 x8, x8.blk (x7.blk H6.out.2.2 (by simp)) (by simp)⟩)
            clear x7 x8 H6
            go_wp2
            exact ⟨⟨k + 1, (mineW me), (ws.set 0 (mineW me)), by omega, by go_num, rfl, H8.out.1, by simpa using HN.out, (wAt_set0 _ HN.out), H8.out.2.1, H8.out.2.2⟩, by simp [intOf]; omega⟩
          · have HH := hid hh
            clear hh
            have hg := H3.out.2.2.2.2
            go_wp2_with fail
            refine (tryMiss A M me 1 T _ 0 ws _ _ H3.out.1 H3.out.2.1 (by omega) (by omega) (by omega) (by omega) (by omega) (by rw [HV.out]; simpa using HH.out)).mono ?_
            rintro e w3 ⟨rfl, p⟩
            have H33 := hid (show MemAt w3 M ws (List.replicate (64 * 1) 0) ∧ Ext [M.bw] w w3 ∧ blk w3 w1.heap.size = some (.cells (geoC 1 T) 26 (0, 0)) from
              ⟨p.2.1, (H3.out.2.2.1.trans p.2.2 (fun _ h => h) (by have := H3.out.2.2.2.1; simp; omega)), p.2.2.blk H3.out.2.2.2.2 (by have := LB.out; have := H3.out.2.2.2.1; simp; omega)⟩)
            clear p hg H3
            go_wp2_with fail
            refine (rTry_any v me _ (by omega)).mono ?_
            rintro e w4 ⟨rfl, x4⟩
            have H4 := hid (And.intro True.intro (show MemAt w4 M ws (List.replicate (64 * 1) 0) ∧ Ext [M.bw] w w4 ∧ blk w4 w1.heap.size = some (.cells (geoC 1 T) 26 (0, 0)) from
              ⟨H33.out.1.ext0 x4, H33.out.2.1.trans0 x4, x4.blk H33.out.2.2 (by simp)⟩))
            clear x4 H33
            rw [if_neg HH.out]
            have hg := H4.out.2.2.2
            go_wp2_with fail
            refine (gLock_any 1 T _ (by omega) (by omega)).mono ?_
            rintro e w5 ⟨rfl, x5⟩
            have H5 := hid (show MemAt w5 M ws (List.replicate (64 * 1) 0) ∧ Ext [M.bw] w w5 ∧ blk w5 w1.heap.size = some (.cells (geoC 1 T) 26 (0, 0)) from ⟨H4.out.2.1.ext0 x5, H4.out.2.2.1.trans0 x5, x5.blk H4.out.2.2.2 (by simp)⟩)
            clear x5 H4 hg
            go_wp2_with fail
            rw [GL.out]
            refine (mWord_any M ws _ 0 _ H5.out.1).mono ?_
            rintro e w6 ⟨rfl, hm, x6⟩
            have H6 := hid (show MemAt w6 M ws (List.replicate (64 * 1) 0) ∧ Ext [M.bw] w w6 ∧ blk w6 w1.heap.size = some (.cells (geoC 1 T) 26 (0, 0)) from ⟨hm, H5.out.2.1.trans' x6, x6.blk H5.out.2.2 (by simpa using LB.out)⟩)
            clear hm x6 H5
            rw [show wT 1 0 0 ws = v from by rw [wT, HV.out]; rfl]
            go_wp2_with fail
            refine (lHolder_any v _).mono ?_
            rintro e w7 ⟨rfl, x7⟩
            go_wp2_with fail
            refine (rHolder_any v _).mono ?_
            rintro e w8 ⟨rfl, x8⟩
            have H8 := hid (show MemAt w8 M ws (List.replicate (64 * 1) 0) ∧ Ext [M.bw] w w8 ∧ blk w8 w1.heap.size = some (.cells (geoC 1 T) 26 (0, 0)) from ⟨(H6.out.1.ext0 x7).ext0 x8, (H6.out.2.1.trans0 x7).trans0 x8, x8.blk (x7.blk H6.out.2.2 (by simp)) (by simp)⟩)
            clear x7 x8 H6
            go_wp2
            exact ⟨⟨k + 1, v, ws, by omega, by go_num, rfl, H8.out.1, by simpa using HN.out, HV.out, H8.out.2.1, H8.out.2.2⟩, by simp [intOf]; omega⟩
        · have hy8' : ¬ (y : Int) < 128 := by omega
          by_cases hh : v = mineW me
          · have HH := hid hh
            clear hh
            have hg := H3.out.2.2.2.2
            go_wp2_with fail
            refine (dropHit A M me 1 T _ 0 ws _ _ H3.out.1 H3.out.2.1 (by omega) (by omega) (by omega) (by omega) (by omega) (by rw [HV.out, HH.out])).mono ?_
            rintro e w3 ⟨rfl, p⟩
            have H33 := hid (show MemAt w3 M (ws.set 0 0) (List.replicate (64 * 1) 0) ∧ Ext [M.bw] w w3 ∧ blk w3 w1.heap.size = some (.cells (geoC 1 T) 26 (0, 0)) from
              ⟨p.2.1, (H3.out.2.2.1.trans p.2.2 (fun _ h => h) (by have := H3.out.2.2.2.1; simp; omega)), p.2.2.blk H3.out.2.2.2.2 (by have := LB.out; have := H3.out.2.2.2.1; simp; omega)⟩)
            clear p hg H3
            go_wp2_with fail
            refine (rDrop_any v me _ (by omega)).mono ?_
            rintro e w4 ⟨rfl, x4⟩
            have H4 := hid (And.intro True.intro (show MemAt w4 M (ws.set 0 0) (List.replicate (64 * 1) 0) ∧ Ext [M.bw] w w4 ∧ blk w4 w1.heap.size = some (.cells (geoC 1 T) 26 (0, 0)) from
              ⟨H33.out.1.ext0 x4, H33.out.2.1.trans0 x4, x4.blk H33.out.2.2 (by simp)⟩))
            clear x4 H33
            rw [if_pos HH.out]
            have hg := H4.out.2.2.2
            go_wp2_with fail
            refine (gLock_any 1 T _ (by omega) (by omega)).mono ?_
            rintro e w5 ⟨rfl, x5⟩
            have H5 := hid (show MemAt w5 M (ws.set 0 0) (List.replicate (64 * 1) 0) ∧ Ext [M.bw] w w5 ∧ blk w5 w1.heap.size = some (.cells (geoC 1 T) 26 (0, 0)) from ⟨H4.out.2.1.ext0 x5, H4.out.2.2.1.trans0 x5, x5.blk H4.out.2.2.2 (by simp)⟩)
            clear x5 H4 hg
            go_wp2_with fail
            rw [GL.out]
            refine (mWord_any M (ws.set 0 0) _ 0 _ H5.out.1).mono ?_
            rintro e w6 ⟨rfl, hm, x6⟩
            have H6 := hid (show MemAt w6 M (ws.set 0 0) (List.replicate (64 * 1) 0) ∧ Ext [M.bw] w w6 ∧ blk w6 w1.heap.size = some (.cells (geoC 1 T) 26 (0, 0)) from ⟨hm, H5.out.2.1.trans' x6, x6.blk H5.out.2.2 (by simpa using LB.out)⟩)
            clear hm x6 H5
            rw [show wT 1 0 0 (ws.set 0 0) = (0 : UInt64) from by rw [wT, (wAt_set0 _ HN.out)]; rfl]
            go_wp2_with fail
            refine (lHolder_any (0 : UInt64) _).mono ?_
            rintro e w7 ⟨rfl, x7⟩
            go_wp2_with fail
            refine (rHolder_any (0 : UInt64) _).mono ?_
            rintro e w8 ⟨rfl, x8⟩
            have H8 := hid (show MemAt w8 M (ws.set 0 0) (List.replicate (64 * 1) 0) ∧ Ext [M.bw] w w8 ∧ blk w8 w1.heap.size = some (.cells (geoC 1 T) 26 (0, 0)) from ⟨(H6.out.1.ext0 x7).ext0 x8, (H6.out.2.1.trans0 x7).trans0 x8, x8.blk (x7.blk H6.out.2.2 (by simp)) (by simp)⟩)
            clear x7 x8 H6
            go_wp2
            exact ⟨⟨k + 1, (0 : UInt64), (ws.set 0 0), by omega, by go_num, rfl, H8.out.1, by simpa using HN.out, (wAt_set0 _ HN.out), H8.out.2.1, H8.out.2.2⟩, by simp [intOf]; omega⟩
          · have HH := hid hh
            clear hh
            have hg := H3.out.2.2.2.2
            go_wp2_with fail
            refine (dropMiss A M me 1 T _ 0 ws _ _ H3.out.1 H3.out.2.1 (by omega) (by omega) (by omega) (by omega) (by omega) (by rw [HV.out]; simpa using HH.out)).mono ?_
            rintro e w3 ⟨rfl, p⟩
            have H33 := hid (show MemAt w3 M ws (List.replicate (64 * 1) 0) ∧ Ext [M.bw] w w3 ∧ blk w3 w1.heap.size = some (.cells (geoC 1 T) 26 (0, 0)) from
              ⟨p.2.1, (H3.out.2.2.1.trans p.2.2 (fun _ h => h) (by have := H3.out.2.2.2.1; simp; omega)), p.2.2.blk H3.out.2.2.2.2 (by have := LB.out; have := H3.out.2.2.2.1; simp; omega)⟩)
            clear p hg H3
            go_wp2_with fail
            refine (rDrop_any v me _ (by omega)).mono ?_
            rintro e w4 ⟨rfl, x4⟩
            have H4 := hid (And.intro True.intro (show MemAt w4 M ws (List.replicate (64 * 1) 0) ∧ Ext [M.bw] w w4 ∧ blk w4 w1.heap.size = some (.cells (geoC 1 T) 26 (0, 0)) from
              ⟨H33.out.1.ext0 x4, H33.out.2.1.trans0 x4, x4.blk H33.out.2.2 (by simp)⟩))
            clear x4 H33
            rw [if_neg HH.out]
            have hg := H4.out.2.2.2
            go_wp2_with fail
            refine (gLock_any 1 T _ (by omega) (by omega)).mono ?_
            rintro e w5 ⟨rfl, x5⟩
            have H5 := hid (show MemAt w5 M ws (List.replicate (64 * 1) 0) ∧ Ext [M.bw] w w5 ∧ blk w5 w1.heap.size = some (.cells (geoC 1 T) 26 (0, 0)) from ⟨H4.out.2.1.ext0 x5, H4.out.2.2.1.trans0 x5, x5.blk H4.out.2.2.2 (by simp)⟩)
            clear x5 H4 hg
            go_wp2_with fail
            rw [GL.out]
            refine (mWord_any M ws _ 0 _ H5.out.1).mono ?_
            rintro e w6 ⟨rfl, hm, x6⟩
            have H6 := hid (show MemAt w6 M ws (List.replicate (64 * 1) 0) ∧ Ext [M.bw] w w6 ∧ blk w6 w1.heap.size = some (.cells (geoC 1 T) 26 (0, 0)) from ⟨hm, H5.out.2.1.trans' x6, x6.blk H5.out.2.2 (by simpa using LB.out)⟩)
            clear hm x6 H5
            rw [show wT 1 0 0 ws = v from by rw [wT, HV.out]; rfl]
            go_wp2_with fail
            refine (lHolder_any v _).mono ?_
            rintro e w7 ⟨rfl, x7⟩
            go_wp2_with fail
            refine (rHolder_any v _).mono ?_
            rintro e w8 ⟨rfl, x8⟩
            have H8 := hid (show MemAt w8 M ws (List.replicate (64 * 1) 0) ∧ Ext [M.bw] w w8 ∧ blk w8 w1.heap.size = some (.cells (geoC 1 T) 26 (0, 0)) from ⟨(H6.out.1.ext0 x7).ext0 x8, (H6.out.2.1.trans0 x7).trans0 x8, x8.blk (x7.blk H6.out.2.2 (by simp)) (by simp)⟩)
            clear x7 x8 H6
            go_wp2
            exact ⟨⟨k + 1, v, ws, by omega, by go_num, rfl, H8.out.1, by simpa using HN.out, HV.out, H8.out.2.1, H8.out.2.2⟩, by simp [intOf]; omega⟩
      · have hlt' : ¬ (k : Int) < (len : Int) := by omega
        go_wp2_with fail
        refine (awake07 _).mono ?_
        rintro e w2 ⟨rfl, x2⟩
        have X2 := hid ((hx.trans0 x2).drop (Y := []) (by simpa using l2))
        clear x2 hx hM hgb
        go_wp2
        go_ret
        exact ⟨rfl, X2.out⟩
end Go.Proofs.Ytjigpdihgaenhaa
