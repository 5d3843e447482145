/-
  Copies of a memory, and whether two are the same: contracts of slices.Clone, slices.Equal, Copy, Same.
  Conditions: the memories are there.
-/
import Derived.Test.YtceddijolfpppaaMem2
import Derived.Lib.SliceRun
import Derived.OwnWalk
namespace Go.Proofs.Ytceddijolfpppaa
open Go Go.RowKit
set_option linter.unusedSimpArgs false
set_option linter.unusedVariables false

theorem oneCells {xs : List Value} (h : ∀ x ∈ xs, ∃ k n, x = Value.int k n) : ∀ u ∈ xs, u.oneCell' = true := by
  intro u hu; obtain ⟨k, n, rfl⟩ := h u hu; rfl

/-- The row that an append made: its numbers, and what room lies behind them. -/
theorem row_of {w : World} {base : Nat} {e : TypeId} {v : Value} {n : Nat} {xs : List Value} (h : w.ownsRow base e 1 v n xs) (hv : v ≠ .slice none 0 0) :
    ∃ (g : Nat) (q : Array Value), v = .slice (some ⟨g, 0, none⟩) n (n + q.size) ∧ blk w g = some (.cells (xs.toArray ++ q) e (0, 0)) ∧ base ≤ g := by
  obtain ⟨hl, h | ⟨g, cap, cur, rfl, hb, hg, hn, hm, hs, ht⟩⟩ := h
  · exact absurd h.1 hv
  · refine ⟨g, (cur.toList.drop n).toArray, ?_, ?_, hb⟩
    · simp; omega
    · unfold blk; rw [hg]
      rw [Nat.mul_one] at ht
      rw [← ht]
      simp

set_option maxHeartbeats 2000000 in
set_option maxRecDepth 100000 in
theorem cloneW_any (b : Nat) (ws : List UInt64) (p : Array Value) (c : Nat) (w : World) (hl : ws.length ≤ 2097152) (h : blk w b = some (.cells (wcells ws ++ p) 49 (0, 0))) :
    Calls Try.prog 122 #[.slice (some ⟨b, 0, none⟩) ws.length c] w fun e w' =>
      ∃ (g : Nat) (q : Array Value), e = .returned (.slice (some ⟨g, 0, none⟩) ws.length (ws.length + q.size)) ∧ blk w' g = some (.cells (wcells ws ++ q) 49 (0, 0)) ∧ w.heap.size ≤ g ∧ Ext [] w w' := by
  obtain ⟨i, hi, hz, hs, hb⟩ := info_parts Try.infoU64
  have q69 : ∀ (w : World) (a : Option Addr) (n c n' c' : Nat), (binOp .eql 170 (.slice a n c) (.slice none n' c')).run Try.prog w = .ok (.bool a.isNone) w := fun w a n c n' c' => Lib.run_eql_slice_nil w _ _ a n c n' c' Try.underlying170
  have H := hid h
  clear h
  go_enter Try.func122, Try.ntmps122
  go_wp2_with (at_builtin; refine wpList_append_own _ rfl _ _ 170 rfl w.heap.size 49 i (.int .u64 0) 1 8 Try.underlying170 hi hz hs hb rfl (by decide) _ _ _ rfl (World.ownsRow_made w #[] 0 (Nat.le_refl _) (Nat.zero_le _) rfl) ⟨b, 0, none⟩ ws.length c (wcells ws).toList rfl ?qc1 ?qc2 ?qc3 ?qc4 ?qc5 ?qc6 ?_)
  case qc1 => simp [wcells]
  case qc2 =>
    intro j u hj
    have hjn : j < ws.length := by
      have := (List.getElem?_eq_some_iff.1 hj).1
      simpa [wcells] using this
    rw [Addr.add_lit]
    refine Lib.cell?_alloc_some _ ?_
    rw [blk_cell H.out, Nat.zero_add, Array.getElem?_append_left (by rw [wcells_size]; exact hjn)]
    rw [← hj, Array.getElem?_toList]
  case qc3 => exact oneCells (fun x hx => by simp [wcells] at hx; obtain ⟨y, _, rfl⟩ := hx; exact ⟨_, _, rfl⟩)
  case qc4 => unfold maxLen; omega
  case qc5 => omega
  case qc6 => simp
  intro v' w1 hown hgrow hnil
  have hv : v' ≠ .slice none 0 0 := hnil
  obtain ⟨g, q, rfl, hg, hbg⟩ := row_of hown hv
  have HG := hid hg
  have HX := hid (Ext.of_below (((Below.refl _ w).alloc (Nat.le_refl _) _).grown hgrow (by simp) (by intro k hk; simp [Value.ownBlock] at hk; omega)))
  clear hown hgrow hnil hg
  go_wp2
  go_ret
  exact ⟨g, q, by simp, by simpa using HG.out, hbg, HX.out⟩
set_option maxHeartbeats 2000000 in
set_option maxRecDepth 100000 in
theorem cloneB_any (b : Nat) (ws : List UInt8) (p : Array Value) (c : Nat) (w : World) (hl : ws.length ≤ 2097152) (h : blk w b = some (.cells (bcells ws ++ p) 5 (0, 0))) :
    Calls Try.prog 123 #[.slice (some ⟨b, 0, none⟩) ws.length c] w fun e w' =>
      ∃ (g : Nat) (q : Array Value), e = .returned (.slice (some ⟨g, 0, none⟩) ws.length (ws.length + q.size)) ∧ blk w' g = some (.cells (bcells ws ++ q) 5 (0, 0)) ∧ w.heap.size ≤ g ∧ Ext [] w w' := by
  obtain ⟨i, hi, hz, hs, hb⟩ := info_parts Try.infoU8
  have q69 : ∀ (w : World) (a : Option Addr) (n c n' c' : Nat), (binOp .eql 22 (.slice a n c) (.slice none n' c')).run Try.prog w = .ok (.bool a.isNone) w := fun w a n c n' c' => Lib.run_eql_slice_nil w _ _ a n c n' c' Try.underlying22
  have H := hid h
  clear h
  go_enter Try.func123, Try.ntmps123
  go_wp2_with (at_builtin; refine wpList_append_own _ rfl _ _ 22 rfl w.heap.size 5 i (.int .u8 0) 1 1 Try.underlying22 hi hz hs hb rfl (by decide) _ _ _ rfl (World.ownsRow_made w #[] 0 (Nat.le_refl _) (Nat.zero_le _) rfl) ⟨b, 0, none⟩ ws.length c (bcells ws).toList rfl ?qc1 ?qc2 ?qc3 ?qc4 ?qc5 ?qc6 ?_)
  case qc1 => simp [bcells]
  case qc2 =>
    intro j u hj
    have hjn : j < ws.length := by
      have := (List.getElem?_eq_some_iff.1 hj).1
      simpa [bcells] using this
    rw [Addr.add_lit]
    refine Lib.cell?_alloc_some _ ?_
    rw [blk_cell H.out, Nat.zero_add, Array.getElem?_append_left (by rw [bcells_size]; exact hjn)]
    rw [← hj, Array.getElem?_toList]
  case qc3 => exact oneCells (fun x hx => by simp [bcells] at hx; obtain ⟨y, _, rfl⟩ := hx; exact ⟨_, _, rfl⟩)
  case qc4 => unfold maxLen; omega
  case qc5 => omega
  case qc6 => simp
  intro v' w1 hown hgrow hnil
  have hv : v' ≠ .slice none 0 0 := hnil
  obtain ⟨g, q, rfl, hg, hbg⟩ := row_of hown hv
  have HG := hid hg
  have HX := hid (Ext.of_below (((Below.refl _ w).alloc (Nat.le_refl _) _).grown hgrow (by simp) (by intro k hk; simp [Value.ownBlock] at hk; omega)))
  clear hown hgrow hnil hg
  go_wp2
  go_ret
  exact ⟨g, q, by simp, by simpa using HG.out, hbg, HX.out⟩

/-- A copy of a memory. -/
def MemCopied (w : World) (ws : List UInt64) (bs : List UInt8) (e : Ending) (w' : World) : Prop :=
  ∃ M : MemId, e = .returned (.pointer (some ⟨M.m, 0, none⟩)) ∧ MemAt w' M ws bs ∧ Ext [] w w' ∧ w.heap.size ≤ M.m ∧ w.heap.size ≤ M.bw ∧ w.heap.size ≤ M.bb

set_option maxHeartbeats 4000000 in
set_option maxRecDepth 100000 in
theorem mCopy_any (M : MemId) (ws : List UInt64) (bs : List UInt8) (w : World) (h : MemAt w M ws bs) :
    Calls Try.prog 70 #[.pointer (some ⟨M.m, 0, none⟩)] w (MemCopied w ws bs) := by
  have hE := Ext.refl []
  have HM := hid h.hm
  have HW := hid h.hw
  have HB := hid h.hb
  have hwl := h.wl
  have hbl := h.bl
  clear h
  go_enter Try.func70, Try.ntmps70
  go_wp2_with fail
  refine wp_region_lit_lin [4,9,11] [0,1,2,3,5,6,7,8,4,9,10,11,12] (Ext [] _) (Ext []) Try.mix (by kernel_rfl) (Ext.refl []) (fun _ _ _ => Ext.trans') (fun _ _ h k => h.trans0 k) ((Ext.refl _ _).drew) (fun X _ f hf => ?_)
  have c0 : ∀ x, (f x).cell? ⟨M.m, 0, none⟩ = some (.slice (some ⟨M.bw, 0, none⟩) ws.length (ws.length + M.pw.size)) := fun x => by rw [blk_cell ((hf x).blk HM.out (by simp))]; simp [memC]
  have c1 : ∀ x, (f x).cell? ⟨M.m, 1, none⟩ = some (.slice (some ⟨M.bb, 0, none⟩) bs.length (bs.length + M.pb.size)) := fun x => by rw [blk_cell ((hf x).blk HM.out (by simp))]; simp [memC]
  clear hf
  repeat (refine lexX_step rfl rfl (fun K hK => ?_); go_simp; (try go_bits); (try (simp only [↓IntWalk.iteOmega]; go_simp)); (refine hK _ ?_; clear hK K))
  refine lexX_effp rfl rfl rfl (fun w2 hw2 K hK => ?_)
  have X2 := hid hw2.of_drew
  have HW2 := hid (hw2.of_drew.blk HW.out (by simp))
  have HB2 := hid (hw2.of_drew.blk HB.out (by simp))
  clear hw2
  go_simp
  refine (cloneW_any M.bw ws M.pw _ w2 hwl HW2.out).mono ?_
  rintro e w3 ⟨g, q, rfl, hg, hgl, x3⟩
  refine ⟨_, rfl, X2.out.trans' x3, hK _ _ ?_⟩
  clear hK K
  have HG := hid hg
  have HB3 := hid (x3.blk HB2.out (by simp))
  have X3 := hid (X2.out.trans' x3)
  have hs2 := X2.out.size
  have hs3 := x3.size
  clear hg x3
  repeat (refine lexX_step rfl rfl (fun K hK => ?_); go_simp; (try go_bits); (try (simp only [↓IntWalk.iteOmega]; go_simp)); (refine hK _ ?_; clear hK K))
  refine lexX_effp rfl rfl rfl (fun w4 hw4 K hK => ?_)
  have X4 := hid hw4
  have HG4 := hid (hw4.blk HG.out (by simp))
  have HB4 := hid (hw4.blk HB3.out (by simp))
  have hs4 := hw4.size
  clear hw4
  go_simp
  refine (cloneB_any M.bb bs M.pb _ w4 (by omega) HB4.out).mono ?_
  rintro e w5 ⟨g', q', rfl, hg', hgl', x5⟩
  refine ⟨_, rfl, X3.out.trans' (X4.out.trans' x5), hK _ _ ?_⟩
  clear hK K
  have HG5 := hid (x5.blk HG4.out (by simp))
  have HG5' := hid hg'
  have X5 := hid (X4.out.trans' x5)
  have hs5 := x5.size
  clear hg' x5
  repeat (refine lexX_step rfl rfl (fun K hK => ?_); go_simp; (try go_bits); (try (simp only [↓IntWalk.iteOmega]; go_simp)); (refine hK _ ?_; clear hK K))
  refine lexX_effp rfl rfl rfl (fun w6 hw6 K hK => ?_)
  have HG6 := hid (hw6.blk HG5.out (by simp))
  have HG6' := hid (hw6.blk HG5'.out (by simp))
  have X6 := hid (X3.out.trans' (X5.out.trans' hw6))
  have hs6 := hw6.size
  clear hw6
  go_simp
  refine ⟨X6.out.alloc _, hK _ _ ?_⟩
  clear hK K
  repeat (refine lexX_step rfl rfl (fun K hK => ?_); go_simp; (try go_bits); (try (simp only [↓IntWalk.iteOmega]; go_simp)); (refine hK _ ?_; clear hK K))
  refine lexX_nil (fun w7 hw7 => ?_)
  have hx : Ext [] (w6.alloc (.cells #[.slice (some ⟨g, 0, none⟩) ws.length (ws.length + q.size), .slice (some ⟨g', 0, none⟩) bs.length (bs.length + q'.size)] 173)) w7 := hw7
  have H1 := hid (hx.blk (blk_new _ _) (by simp))
  have H2 := hid (hx.blk (((Ext.refl [] w6).alloc _).blk HG6.out (by simp)) (by simp))
  have H3 := hid (hx.blk (((Ext.refl [] w6).alloc _).blk HG6'.out (by simp)) (by simp))
  have X7 := hid ((X6.out.alloc _).trans' hx)
  have LG := hid (show w.heap.size ≤ g by omega)
  have LG' := hid (show w.heap.size ≤ g' by omega)
  clear hw7 hx
  go_wp2
  go_ret
  exact ⟨⟨w6.heap.size, g, g', q, q'⟩, rfl, ⟨H1.out, H2.out, H3.out, hwl, hbl⟩, X7.out, X6.out.size, LG.out, LG'.out⟩
end Go.Proofs.Ytceddijolfpppaa
