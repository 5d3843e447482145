/-
  Package mem: Do (Do).
  Conditions: the memory is there.
-/
import Derived.Test.YtceddijolfpppaaMem
namespace Go.Proofs.Ytceddijolfpppaa
open Go Go.RowKit
set_option linter.unusedSimpArgs false
set_option linter.unusedVariables false
attribute [local go_sem] kindsAt1 kindsAt2 kindsAt3 kindsAt4

set_option maxRecDepth 100000 in
set_option maxHeartbeats 2000000 in
theorem do_load (M : MemId) (ws : List UInt64) (bs : List UInt8) (n : Nat) (A B : UInt64) (w : World) (h : MemAt w M ws bs) (hn : n < ws.length) :
    Calls Try.prog 85 #[.pointer (some ⟨M.m, 0, none⟩), accV 1 n A B] w (fun e w' => e = .returned (.tuple #[.int .u64 (ws[n].toNat : Int), .bool true]) ∧ MemAt w' M (ws.set n (ws[n])) bs ∧ Ext [M.bw] w w') := by
  have hE := Ext.refl []
  have d0 := h.c0
  have hl := h.wl
  have n1 : (decide ((n : Int) < 0)) = false := by simp
  have n2 : (decide ((ws.length : Int) ≤ (n : Int))) = false := by simp; omega
  unfold accV
  go_enter Try.func85, Try.ntmps85
  go_wp2_with fail
  have L0 := blk_lt h.hm
  have L1 := blk_lt h.hw
  refine wp_region_lit_lin [] [0,1,2,3,4,5,6,7,8,9] (Ext [] _) (Ext []) Try.mix (by kernel_rfl) (Ext.refl []) (fun _ _ _ => Ext.trans') (fun _ _ => Ext.trans') ((Ext.refl _ _).drew) (fun X _ f hf => ?_)
  have g3 : ∀ x i, (f x).cell? ⟨w.heap.size, i, none⟩ = (#[.int .u8 1, .int .i64 n, .int .u64 (A.toNat : Int), .int .u64 (B.toNat : Int)] : Array Value)[i]? := fun x i => blk_cell ((hf x).blk (blk_new _ _) (by simp)) i
  have HM : ∀ x, MemAt (f x) M ws bs := fun x => (h.alloc _).ext0 (hf x)
  have HM' := hid HM
  clear HM hf
  repeat (refine lexX_step rfl rfl (fun K hK => ?_); go_simp; (try go_bits); (try (simp only [↓IntWalk.iteOmega]; go_simp)); (refine hK _ ?_; clear hK K))
  refine lexX_step rfl rfl (fun K hK => ?_); go_simp; refine ⟨_, fun x => ret_of (mWords_any M ws bs (f x) (HM'.out x)), hK _ ?_⟩; clear hK K
  repeat (refine lexX_step rfl rfl (fun K hK => ?_); go_simp; (try go_bits); (try (simp only [↓IntWalk.iteOmega]; go_simp)); (refine hK _ ?_; clear hK K))
  clear g3 HM'
  refine lexX_nil (fun w1 hw1 => ?_)
  have hx := ((Ext.refl [] w).alloc (.cells #[.int .u8 1, .int .i64 n, .int .u64 (A.toNat : Int), .int .u64 (B.toNat : Int)] 125)).trans' hw1.of_drew
  have g1 : blk w1 w.heap.size = some (.cells #[.int .u8 1, .int .i64 n, .int .u64 (A.toNat : Int), .int .u64 (B.toNat : Int)] 125 (0, 0)) := hw1.of_drew.blk (blk_new _ _) (by simp)
  have h1 := h.ext0 hx
  have HX := hid hx
  clear hx hw1
  have G1 := hid g1
  have H1 := hid h1
  clear g1 h1
  go_wp2_with fail
  refine wp_region_lit_lin [] [0,1,2,3,4,5,6,7,8,9,10,11,12,13,14,15,16,17,18] (Ext [] _) (Ext []) Try.mix (by kernel_rfl) (Ext.refl []) (fun _ _ _ => Ext.trans') (fun _ _ => Ext.trans') ((Ext.refl _ _).drew) (fun X _ f hf => ?_)
  have g3 : ∀ x i, (f x).cell? ⟨w.heap.size, i, none⟩ = (#[.int .u8 1, .int .i64 n, .int .u64 (A.toNat : Int), .int .u64 (B.toNat : Int)] : Array Value)[i]? := fun x i => blk_cell ((hf x).blk G1.out (by simp)) i
  have g0 : ∀ x, (f x).cell? ⟨M.m, 0, none⟩ = some (.slice (some ⟨M.bw, 0, none⟩) ws.length (ws.length + M.pw.size)) := fun x => (H1.out.ext0 (hf x)).c0
  have gw : ∀ x, (f x).cell? ⟨M.bw, n, none⟩ = some (.int .u64 (ws[n].toNat : Int)) := fun x => (H1.out.ext0 (hf x)).cw hn
  clear hf
  repeat (refine lexX_step rfl rfl (fun K hK => ?_); go_simp; (try go_bits); (try (simp only [↓IntWalk.iteOmega]; go_simp)); (refine hK _ ?_; clear hK K))
  refine lexX_step rfl rfl (fun K hK => ?_); go_simp; refine ⟨_, fun x => ret_of (kinds_any (f x)), hK _ ?_⟩; clear hK K
  repeat (refine lexX_step rfl rfl (fun K hK => ?_); go_simp; (try go_bits); (try (simp only [↓IntWalk.iteOmega]; go_simp)); (refine hK _ ?_; clear hK K))
  refine lexX_step rfl rfl (fun K hK => ?_); go_simp; refine ⟨_, fun x => ret_of (kind1_any ws[n] A B 1 n (f x)), hK _ ?_⟩; clear hK K
  repeat (refine lexX_step rfl rfl (fun K hK => ?_); go_simp; (try go_bits); (try (simp only [↓IntWalk.iteOmega]; go_simp)); (refine hK _ ?_; clear hK K))
  refine lexX_nil (fun w2 hw2 => ?_)
  have x2 := (HX.out.trans' hw2.of_drew).mono (Y := [M.bw]) (by simp)
  have h2 := H1.out.ext0 hw2.of_drew
  have g2 := hw2.of_drew.blk G1.out (by simp)
  clear hw2 g3 g0 gw H1 G1 HX
  have HX := hid x2
  have H2 := hid h2
  have G2 := hid g2
  clear x2 h2 g2
  go_wp2_with fail
  refine wp_region_lit_lin [8] [0,1,2,3,4,5,6,7,8] (Ext [M.bw] _) (Ext []) Try.mix (by kernel_rfl) (Ext.refl []) (fun _ _ _ => Ext.trans') (fun _ _ h k => h.trans0 k) ((Ext.refl _ _).drew) (fun X _ f hf => ?_)
  have g3 : ∀ x i, (f x).cell? ⟨w.heap.size, i, none⟩ = (#[.int .u8 1, .int .i64 n, .int .u64 (A.toNat : Int), .int .u64 (B.toNat : Int)] : Array Value)[i]? := fun x i => blk_cell ((hf x).blk G2.out (by simp; omega)) i
  have g0 : ∀ x, (f x).cell? ⟨M.m, 0, none⟩ = some (.slice (some ⟨M.bw, 0, none⟩) ws.length (ws.length + M.pw.size)) := fun x => (hf x).cell' H2.out.c0 (by simpa using H2.out.ne_mw)
  clear hf
  repeat (refine lexX_step rfl rfl (fun K hK => ?_); go_simp; (try go_bits); (try (simp only [↓IntWalk.iteOmega]; go_simp)); (refine hK _ ?_; clear hK K))
  refine lexX_effp rfl rfl rfl (fun w3 hw3 K hK => ?_)
  have h3 := H2.out.ext0 hw3.of_drew
  have q1 := h3.cw hn
  have q2 := blk_free h3.hw n
  go_simp
  refine ⟨(hw3.of_drew.mono (Y := [M.bw]) (by simp)).setCell (.inl (by simp)) _, hK _ _ ?_⟩
  clear hK K
  refine lexX_nil (fun w4 hw4 => ?_)
  have h4 := (h3.setW n (ws[n]) hn).ext0 hw4
  have x4 := ((HX.out.trans0 hw3.of_drew).setCell (p := ⟨M.bw, n, none⟩) (.inl (by simp)) (.int .u64 ((ws[n]).toNat : Int))).trans0 hw4
  clear hw4 h3 q1 q2 hw3 g3 g0 HX H2 G2
  have HX := hid x4
  have H4 := hid h4
  clear x4 h4
  go_wp2
  go_ret2
  exact ⟨rfl, H4.out, HX.out⟩

set_option maxRecDepth 100000 in
set_option maxHeartbeats 2000000 in
theorem do_store (M : MemId) (ws : List UInt64) (bs : List UInt8) (n : Nat) (A B : UInt64) (w : World) (h : MemAt w M ws bs) (hn : n < ws.length) :
    Calls Try.prog 85 #[.pointer (some ⟨M.m, 0, none⟩), accV 2 n A B] w (fun e w' => e = .returned (.tuple #[.int .u64 0, .bool true]) ∧ MemAt w' M (ws.set n (A)) bs ∧ Ext [M.bw] w w') := by
  have hE := Ext.refl []
  have d0 := h.c0
  have hl := h.wl
  have n1 : (decide ((n : Int) < 0)) = false := by simp
  have n2 : (decide ((ws.length : Int) ≤ (n : Int))) = false := by simp; omega
  unfold accV
  go_enter Try.func85, Try.ntmps85
  go_wp2_with fail
  have L0 := blk_lt h.hm
  have L1 := blk_lt h.hw
  refine wp_region_lit_lin [] [0,1,2,3,4,5,6,7,8,9] (Ext [] _) (Ext []) Try.mix (by kernel_rfl) (Ext.refl []) (fun _ _ _ => Ext.trans') (fun _ _ => Ext.trans') ((Ext.refl _ _).drew) (fun X _ f hf => ?_)
  have g3 : ∀ x i, (f x).cell? ⟨w.heap.size, i, none⟩ = (#[.int .u8 2, .int .i64 n, .int .u64 (A.toNat : Int), .int .u64 (B.toNat : Int)] : Array Value)[i]? := fun x i => blk_cell ((hf x).blk (blk_new _ _) (by simp)) i
  have HM : ∀ x, MemAt (f x) M ws bs := fun x => (h.alloc _).ext0 (hf x)
  have HM' := hid HM
  clear HM hf
  repeat (refine lexX_step rfl rfl (fun K hK => ?_); go_simp; (try go_bits); (try (simp only [↓IntWalk.iteOmega]; go_simp)); (refine hK _ ?_; clear hK K))
  refine lexX_step rfl rfl (fun K hK => ?_); go_simp; refine ⟨_, fun x => ret_of (mWords_any M ws bs (f x) (HM'.out x)), hK _ ?_⟩; clear hK K
  repeat (refine lexX_step rfl rfl (fun K hK => ?_); go_simp; (try go_bits); (try (simp only [↓IntWalk.iteOmega]; go_simp)); (refine hK _ ?_; clear hK K))
  clear g3 HM'
  refine lexX_nil (fun w1 hw1 => ?_)
  have hx := ((Ext.refl [] w).alloc (.cells #[.int .u8 2, .int .i64 n, .int .u64 (A.toNat : Int), .int .u64 (B.toNat : Int)] 125)).trans' hw1.of_drew
  have g1 : blk w1 w.heap.size = some (.cells #[.int .u8 2, .int .i64 n, .int .u64 (A.toNat : Int), .int .u64 (B.toNat : Int)] 125 (0, 0)) := hw1.of_drew.blk (blk_new _ _) (by simp)
  have h1 := h.ext0 hx
  have HX := hid hx
  clear hx hw1
  have G1 := hid g1
  have H1 := hid h1
  clear g1 h1
  go_wp2_with fail
  refine wp_region_lit_lin [] [0,1,2,3,4,5,6,7,8,9,10,11,12,13,14,15,16,17,18] (Ext [] _) (Ext []) Try.mix (by kernel_rfl) (Ext.refl []) (fun _ _ _ => Ext.trans') (fun _ _ => Ext.trans') ((Ext.refl _ _).drew) (fun X _ f hf => ?_)
  have g3 : ∀ x i, (f x).cell? ⟨w.heap.size, i, none⟩ = (#[.int .u8 2, .int .i64 n, .int .u64 (A.toNat : Int), .int .u64 (B.toNat : Int)] : Array Value)[i]? := fun x i => blk_cell ((hf x).blk G1.out (by simp)) i
  have g0 : ∀ x, (f x).cell? ⟨M.m, 0, none⟩ = some (.slice (some ⟨M.bw, 0, none⟩) ws.length (ws.length + M.pw.size)) := fun x => (H1.out.ext0 (hf x)).c0
  have gw : ∀ x, (f x).cell? ⟨M.bw, n, none⟩ = some (.int .u64 (ws[n].toNat : Int)) := fun x => (H1.out.ext0 (hf x)).cw hn
  clear hf
  repeat (refine lexX_step rfl rfl (fun K hK => ?_); go_simp; (try go_bits); (try (simp only [↓IntWalk.iteOmega]; go_simp)); (refine hK _ ?_; clear hK K))
  refine lexX_step rfl rfl (fun K hK => ?_); go_simp; refine ⟨_, fun x => ret_of (kinds_any (f x)), hK _ ?_⟩; clear hK K
  repeat (refine lexX_step rfl rfl (fun K hK => ?_); go_simp; (try go_bits); (try (simp only [↓IntWalk.iteOmega]; go_simp)); (refine hK _ ?_; clear hK K))
  refine lexX_step rfl rfl (fun K hK => ?_); go_simp; refine ⟨_, fun x => ret_of (kind2_any ws[n] A B 2 n (f x)), hK _ ?_⟩; clear hK K
  repeat (refine lexX_step rfl rfl (fun K hK => ?_); go_simp; (try go_bits); (try (simp only [↓IntWalk.iteOmega]; go_simp)); (refine hK _ ?_; clear hK K))
  refine lexX_nil (fun w2 hw2 => ?_)
  have x2 := (HX.out.trans' hw2.of_drew).mono (Y := [M.bw]) (by simp)
  have h2 := H1.out.ext0 hw2.of_drew
  have g2 := hw2.of_drew.blk G1.out (by simp)
  clear hw2 g3 g0 gw H1 G1 HX
  have HX := hid x2
  have H2 := hid h2
  have G2 := hid g2
  clear x2 h2 g2
  go_wp2_with fail
  refine wp_region_lit_lin [8] [0,1,2,3,4,5,6,7,8] (Ext [M.bw] _) (Ext []) Try.mix (by kernel_rfl) (Ext.refl []) (fun _ _ _ => Ext.trans') (fun _ _ h k => h.trans0 k) ((Ext.refl _ _).drew) (fun X _ f hf => ?_)
  have g3 : ∀ x i, (f x).cell? ⟨w.heap.size, i, none⟩ = (#[.int .u8 2, .int .i64 n, .int .u64 (A.toNat : Int), .int .u64 (B.toNat : Int)] : Array Value)[i]? := fun x i => blk_cell ((hf x).blk G2.out (by simp; omega)) i
  have g0 : ∀ x, (f x).cell? ⟨M.m, 0, none⟩ = some (.slice (some ⟨M.bw, 0, none⟩) ws.length (ws.length + M.pw.size)) := fun x => (hf x).cell' H2.out.c0 (by simpa using H2.out.ne_mw)
  clear hf
  repeat (refine lexX_step rfl rfl (fun K hK => ?_); go_simp; (try go_bits); (try (simp only [↓IntWalk.iteOmega]; go_simp)); (refine hK _ ?_; clear hK K))
  refine lexX_effp rfl rfl rfl (fun w3 hw3 K hK => ?_)
  have h3 := H2.out.ext0 hw3.of_drew
  have q1 := h3.cw hn
  have q2 := blk_free h3.hw n
  go_simp
  refine ⟨(hw3.of_drew.mono (Y := [M.bw]) (by simp)).setCell (.inl (by simp)) _, hK _ _ ?_⟩
  clear hK K
  refine lexX_nil (fun w4 hw4 => ?_)
  have h4 := (h3.setW n (A) hn).ext0 hw4
  have x4 := ((HX.out.trans0 hw3.of_drew).setCell (p := ⟨M.bw, n, none⟩) (.inl (by simp)) (.int .u64 ((A).toNat : Int))).trans0 hw4
  clear hw4 h3 q1 q2 hw3 g3 g0 HX H2 G2
  have HX := hid x4
  have H4 := hid h4
  clear x4 h4
  go_wp2
  go_ret2
  exact ⟨rfl, H4.out, HX.out⟩

set_option maxRecDepth 100000 in
set_option maxHeartbeats 2000000 in
theorem do_cash (M : MemId) (ws : List UInt64) (bs : List UInt8) (n : Nat) (B : UInt64) (w : World) (h : MemAt w M ws bs) (hn : n < ws.length) :
    Calls Try.prog 85 #[.pointer (some ⟨M.m, 0, none⟩), accV 3 n ws[n] B] w (fun e w' => e = .returned (.tuple #[.int .u64 1, .bool true]) ∧ MemAt w' M (ws.set n (B)) bs ∧ Ext [M.bw] w w') := by
  have hE := Ext.refl []
  have d0 := h.c0
  have hl := h.wl
  have n1 : (decide ((n : Int) < 0)) = false := by simp
  have n2 : (decide ((ws.length : Int) ≤ (n : Int))) = false := by simp; omega
  unfold accV
  go_enter Try.func85, Try.ntmps85
  go_wp2_with fail
  have L0 := blk_lt h.hm
  have L1 := blk_lt h.hw
  refine wp_region_lit_lin [] [0,1,2,3,4,5,6,7,8,9] (Ext [] _) (Ext []) Try.mix (by kernel_rfl) (Ext.refl []) (fun _ _ _ => Ext.trans') (fun _ _ => Ext.trans') ((Ext.refl _ _).drew) (fun X _ f hf => ?_)
  have g3 : ∀ x i, (f x).cell? ⟨w.heap.size, i, none⟩ = (#[.int .u8 3, .int .i64 n, .int .u64 (ws[n].toNat : Int), .int .u64 (B.toNat : Int)] : Array Value)[i]? := fun x i => blk_cell ((hf x).blk (blk_new _ _) (by simp)) i
  have HM : ∀ x, MemAt (f x) M ws bs := fun x => (h.alloc _).ext0 (hf x)
  have HM' := hid HM
  clear HM hf
  repeat (refine lexX_step rfl rfl (fun K hK => ?_); go_simp; (try go_bits); (try (simp only [↓IntWalk.iteOmega]; go_simp)); (refine hK _ ?_; clear hK K))
  refine lexX_step rfl rfl (fun K hK => ?_); go_simp; refine ⟨_, fun x => ret_of (mWords_any M ws bs (f x) (HM'.out x)), hK _ ?_⟩; clear hK K
  repeat (refine lexX_step rfl rfl (fun K hK => ?_); go_simp; (try go_bits); (try (simp only [↓IntWalk.iteOmega]; go_simp)); (refine hK _ ?_; clear hK K))
  clear g3 HM'
  refine lexX_nil (fun w1 hw1 => ?_)
  have hx := ((Ext.refl [] w).alloc (.cells #[.int .u8 3, .int .i64 n, .int .u64 (ws[n].toNat : Int), .int .u64 (B.toNat : Int)] 125)).trans' hw1.of_drew
  have g1 : blk w1 w.heap.size = some (.cells #[.int .u8 3, .int .i64 n, .int .u64 (ws[n].toNat : Int), .int .u64 (B.toNat : Int)] 125 (0, 0)) := hw1.of_drew.blk (blk_new _ _) (by simp)
  have h1 := h.ext0 hx
  have HX := hid hx
  clear hx hw1
  have G1 := hid g1
  have H1 := hid h1
  clear g1 h1
  go_wp2_with fail
  refine wp_region_lit_lin [] [0,1,2,3,4,5,6,7,8,9,10,11,12,13,14,15,16,17,18] (Ext [] _) (Ext []) Try.mix (by kernel_rfl) (Ext.refl []) (fun _ _ _ => Ext.trans') (fun _ _ => Ext.trans') ((Ext.refl _ _).drew) (fun X _ f hf => ?_)
  have g3 : ∀ x i, (f x).cell? ⟨w.heap.size, i, none⟩ = (#[.int .u8 3, .int .i64 n, .int .u64 (ws[n].toNat : Int), .int .u64 (B.toNat : Int)] : Array Value)[i]? := fun x i => blk_cell ((hf x).blk G1.out (by simp)) i
  have g0 : ∀ x, (f x).cell? ⟨M.m, 0, none⟩ = some (.slice (some ⟨M.bw, 0, none⟩) ws.length (ws.length + M.pw.size)) := fun x => (H1.out.ext0 (hf x)).c0
  have gw : ∀ x, (f x).cell? ⟨M.bw, n, none⟩ = some (.int .u64 (ws[n].toNat : Int)) := fun x => (H1.out.ext0 (hf x)).cw hn
  clear hf
  repeat (refine lexX_step rfl rfl (fun K hK => ?_); go_simp; (try go_bits); (try (simp only [↓IntWalk.iteOmega]; go_simp)); (refine hK _ ?_; clear hK K))
  refine lexX_step rfl rfl (fun K hK => ?_); go_simp; refine ⟨_, fun x => ret_of (kinds_any (f x)), hK _ ?_⟩; clear hK K
  repeat (refine lexX_step rfl rfl (fun K hK => ?_); go_simp; (try go_bits); (try (simp only [↓IntWalk.iteOmega]; go_simp)); (refine hK _ ?_; clear hK K))
  refine lexX_step rfl rfl (fun K hK => ?_); go_simp; refine ⟨_, fun x => ret_of (kind3_hit ws[n] B 3 n (f x)), hK _ ?_⟩; clear hK K
  repeat (refine lexX_step rfl rfl (fun K hK => ?_); go_simp; (try go_bits); (try (simp only [↓IntWalk.iteOmega]; go_simp)); (refine hK _ ?_; clear hK K))
  refine lexX_nil (fun w2 hw2 => ?_)
  have x2 := (HX.out.trans' hw2.of_drew).mono (Y := [M.bw]) (by simp)
  have h2 := H1.out.ext0 hw2.of_drew
  have g2 := hw2.of_drew.blk G1.out (by simp)
  clear hw2 g3 g0 gw H1 G1 HX
  have HX := hid x2
  have H2 := hid h2
  have G2 := hid g2
  clear x2 h2 g2
  go_wp2_with fail
  refine wp_region_lit_lin [8] [0,1,2,3,4,5,6,7,8] (Ext [M.bw] _) (Ext []) Try.mix (by kernel_rfl) (Ext.refl []) (fun _ _ _ => Ext.trans') (fun _ _ h k => h.trans0 k) ((Ext.refl _ _).drew) (fun X _ f hf => ?_)
  have g3 : ∀ x i, (f x).cell? ⟨w.heap.size, i, none⟩ = (#[.int .u8 3, .int .i64 n, .int .u64 (ws[n].toNat : Int), .int .u64 (B.toNat : Int)] : Array Value)[i]? := fun x i => blk_cell ((hf x).blk G2.out (by simp; omega)) i
  have g0 : ∀ x, (f x).cell? ⟨M.m, 0, none⟩ = some (.slice (some ⟨M.bw, 0, none⟩) ws.length (ws.length + M.pw.size)) := fun x => (hf x).cell' H2.out.c0 (by simpa using H2.out.ne_mw)
  clear hf
  repeat (refine lexX_step rfl rfl (fun K hK => ?_); go_simp; (try go_bits); (try (simp only [↓IntWalk.iteOmega]; go_simp)); (refine hK _ ?_; clear hK K))
  refine lexX_effp rfl rfl rfl (fun w3 hw3 K hK => ?_)
  have h3 := H2.out.ext0 hw3.of_drew
  have q1 := h3.cw hn
  have q2 := blk_free h3.hw n
  go_simp
  refine ⟨(hw3.of_drew.mono (Y := [M.bw]) (by simp)).setCell (.inl (by simp)) _, hK _ _ ?_⟩
  clear hK K
  refine lexX_nil (fun w4 hw4 => ?_)
  have h4 := (h3.setW n (B) hn).ext0 hw4
  have x4 := ((HX.out.trans0 hw3.of_drew).setCell (p := ⟨M.bw, n, none⟩) (.inl (by simp)) (.int .u64 ((B).toNat : Int))).trans0 hw4
  clear hw4 h3 q1 q2 hw3 g3 g0 HX H2 G2
  have HX := hid x4
  have H4 := hid h4
  clear x4 h4
  go_wp2
  go_ret2
  exact ⟨rfl, H4.out, HX.out⟩

set_option maxRecDepth 100000 in
set_option maxHeartbeats 2000000 in
theorem do_casm (M : MemId) (ws : List UInt64) (bs : List UInt8) (n : Nat) (A B : UInt64) (w : World) (h : MemAt w M ws bs) (hn : n < ws.length) (hx : ws[n] ≠ A) :
    Calls Try.prog 85 #[.pointer (some ⟨M.m, 0, none⟩), accV 3 n A B] w (fun e w' => e = .returned (.tuple #[.int .u64 0, .bool true]) ∧ MemAt w' M (ws.set n (ws[n])) bs ∧ Ext [M.bw] w w') := by
  have hE := Ext.refl []
  have HN := hid hx
  clear hx
  have d0 := h.c0
  have hl := h.wl
  have n1 : (decide ((n : Int) < 0)) = false := by simp
  have n2 : (decide ((ws.length : Int) ≤ (n : Int))) = false := by simp; omega
  unfold accV
  go_enter Try.func85, Try.ntmps85
  go_wp2_with fail
  have L0 := blk_lt h.hm
  have L1 := blk_lt h.hw
  refine wp_region_lit_lin [] [0,1,2,3,4,5,6,7,8,9] (Ext [] _) (Ext []) Try.mix (by kernel_rfl) (Ext.refl []) (fun _ _ _ => Ext.trans') (fun _ _ => Ext.trans') ((Ext.refl _ _).drew) (fun X _ f hf => ?_)
  have g3 : ∀ x i, (f x).cell? ⟨w.heap.size, i, none⟩ = (#[.int .u8 3, .int .i64 n, .int .u64 (A.toNat : Int), .int .u64 (B.toNat : Int)] : Array Value)[i]? := fun x i => blk_cell ((hf x).blk (blk_new _ _) (by simp)) i
  have HM : ∀ x, MemAt (f x) M ws bs := fun x => (h.alloc _).ext0 (hf x)
  have HM' := hid HM
  clear HM hf
  repeat (refine lexX_step rfl rfl (fun K hK => ?_); go_simp; (try go_bits); (try (simp only [↓IntWalk.iteOmega]; go_simp)); (refine hK _ ?_; clear hK K))
  refine lexX_step rfl rfl (fun K hK => ?_); go_simp; refine ⟨_, fun x => ret_of (mWords_any M ws bs (f x) (HM'.out x)), hK _ ?_⟩; clear hK K
  repeat (refine lexX_step rfl rfl (fun K hK => ?_); go_simp; (try go_bits); (try (simp only [↓IntWalk.iteOmega]; go_simp)); (refine hK _ ?_; clear hK K))
  clear g3 HM'
  refine lexX_nil (fun w1 hw1 => ?_)
  have hx := ((Ext.refl [] w).alloc (.cells #[.int .u8 3, .int .i64 n, .int .u64 (A.toNat : Int), .int .u64 (B.toNat : Int)] 125)).trans' hw1.of_drew
  have g1 : blk w1 w.heap.size = some (.cells #[.int .u8 3, .int .i64 n, .int .u64 (A.toNat : Int), .int .u64 (B.toNat : Int)] 125 (0, 0)) := hw1.of_drew.blk (blk_new _ _) (by simp)
  have h1 := h.ext0 hx
  have HX := hid hx
  clear hx hw1
  have G1 := hid g1
  have H1 := hid h1
  clear g1 h1
  go_wp2_with fail
  refine wp_region_lit_lin [] [0,1,2,3,4,5,6,7,8,9,10,11,12,13,14,15,16,17,18] (Ext [] _) (Ext []) Try.mix (by kernel_rfl) (Ext.refl []) (fun _ _ _ => Ext.trans') (fun _ _ => Ext.trans') ((Ext.refl _ _).drew) (fun X _ f hf => ?_)
  have g3 : ∀ x i, (f x).cell? ⟨w.heap.size, i, none⟩ = (#[.int .u8 3, .int .i64 n, .int .u64 (A.toNat : Int), .int .u64 (B.toNat : Int)] : Array Value)[i]? := fun x i => blk_cell ((hf x).blk G1.out (by simp)) i
  have g0 : ∀ x, (f x).cell? ⟨M.m, 0, none⟩ = some (.slice (some ⟨M.bw, 0, none⟩) ws.length (ws.length + M.pw.size)) := fun x => (H1.out.ext0 (hf x)).c0
  have gw : ∀ x, (f x).cell? ⟨M.bw, n, none⟩ = some (.int .u64 (ws[n].toNat : Int)) := fun x => (H1.out.ext0 (hf x)).cw hn
  clear hf
  repeat (refine lexX_step rfl rfl (fun K hK => ?_); go_simp; (try go_bits); (try (simp only [↓IntWalk.iteOmega]; go_simp)); (refine hK _ ?_; clear hK K))
  refine lexX_step rfl rfl (fun K hK => ?_); go_simp; refine ⟨_, fun x => ret_of (kinds_any (f x)), hK _ ?_⟩; clear hK K
  repeat (refine lexX_step rfl rfl (fun K hK => ?_); go_simp; (try go_bits); (try (simp only [↓IntWalk.iteOmega]; go_simp)); (refine hK _ ?_; clear hK K))
  refine lexX_step rfl rfl (fun K hK => ?_); go_simp; refine ⟨_, fun x => ret_of (kind3_miss ws[n] A B 3 n (f x) HN.out), hK _ ?_⟩; clear hK K
  repeat (refine lexX_step rfl rfl (fun K hK => ?_); go_simp; (try go_bits); (try (simp only [↓IntWalk.iteOmega]; go_simp)); (refine hK _ ?_; clear hK K))
  refine lexX_nil (fun w2 hw2 => ?_)
  have x2 := (HX.out.trans' hw2.of_drew).mono (Y := [M.bw]) (by simp)
  have h2 := H1.out.ext0 hw2.of_drew
  have g2 := hw2.of_drew.blk G1.out (by simp)
  clear hw2 g3 g0 gw H1 G1 HX
  have HX := hid x2
  have H2 := hid h2
  have G2 := hid g2
  clear x2 h2 g2
  go_wp2_with fail
  refine wp_region_lit_lin [8] [0,1,2,3,4,5,6,7,8] (Ext [M.bw] _) (Ext []) Try.mix (by kernel_rfl) (Ext.refl []) (fun _ _ _ => Ext.trans') (fun _ _ h k => h.trans0 k) ((Ext.refl _ _).drew) (fun X _ f hf => ?_)
  have g3 : ∀ x i, (f x).cell? ⟨w.heap.size, i, none⟩ = (#[.int .u8 3, .int .i64 n, .int .u64 (A.toNat : Int), .int .u64 (B.toNat : Int)] : Array Value)[i]? := fun x i => blk_cell ((hf x).blk G2.out (by simp; omega)) i
  have g0 : ∀ x, (f x).cell? ⟨M.m, 0, none⟩ = some (.slice (some ⟨M.bw, 0, none⟩) ws.length (ws.length + M.pw.size)) := fun x => (hf x).cell' H2.out.c0 (by simpa using H2.out.ne_mw)
  clear hf
  repeat (refine lexX_step rfl rfl (fun K hK => ?_); go_simp; (try go_bits); (try (simp only [↓IntWalk.iteOmega]; go_simp)); (refine hK _ ?_; clear hK K))
  refine lexX_effp rfl rfl rfl (fun w3 hw3 K hK => ?_)
  have h3 := H2.out.ext0 hw3.of_drew
  have q1 := h3.cw hn
  have q2 := blk_free h3.hw n
  go_simp
  refine ⟨(hw3.of_drew.mono (Y := [M.bw]) (by simp)).setCell (.inl (by simp)) _, hK _ _ ?_⟩
  clear hK K
  refine lexX_nil (fun w4 hw4 => ?_)
  have h4 := (h3.setW n (ws[n]) hn).ext0 hw4
  have x4 := ((HX.out.trans0 hw3.of_drew).setCell (p := ⟨M.bw, n, none⟩) (.inl (by simp)) (.int .u64 ((ws[n]).toNat : Int))).trans0 hw4
  clear hw4 h3 q1 q2 hw3 g3 g0 HX H2 G2
  have HX := hid x4
  have H4 := hid h4
  clear x4 h4
  go_wp2
  go_ret2
  exact ⟨rfl, H4.out, HX.out⟩

set_option maxRecDepth 100000 in
set_option maxHeartbeats 2000000 in
theorem do_add (M : MemId) (ws : List UInt64) (bs : List UInt8) (n : Nat) (A B : UInt64) (w : World) (h : MemAt w M ws bs) (hn : n < ws.length) :
    Calls Try.prog 85 #[.pointer (some ⟨M.m, 0, none⟩), accV 4 n A B] w (fun e w' => e = .returned (.tuple #[.int .u64 (ws[n].toNat : Int), .bool true]) ∧ MemAt w' M (ws.set n (ws[n] + A)) bs ∧ Ext [M.bw] w w') := by
  have hE := Ext.refl []
  have d0 := h.c0
  have hl := h.wl
  have n1 : (decide ((n : Int) < 0)) = false := by simp
  have n2 : (decide ((ws.length : Int) ≤ (n : Int))) = false := by simp; omega
  unfold accV
  go_enter Try.func85, Try.ntmps85
  go_wp2_with fail
  have L0 := blk_lt h.hm
  have L1 := blk_lt h.hw
  refine wp_region_lit_lin [] [0,1,2,3,4,5,6,7,8,9] (Ext [] _) (Ext []) Try.mix (by kernel_rfl) (Ext.refl []) (fun _ _ _ => Ext.trans') (fun _ _ => Ext.trans') ((Ext.refl _ _).drew) (fun X _ f hf => ?_)
  have g3 : ∀ x i, (f x).cell? ⟨w.heap.size, i, none⟩ = (#[.int .u8 4, .int .i64 n, .int .u64 (A.toNat : Int), .int .u64 (B.toNat : Int)] : Array Value)[i]? := fun x i => blk_cell ((hf x).blk (blk_new _ _) (by simp)) i
  have HM : ∀ x, MemAt (f x) M ws bs := fun x => (h.alloc _).ext0 (hf x)
  have HM' := hid HM
  clear HM hf
  repeat (refine lexX_step rfl rfl (fun K hK => ?_); go_simp; (try go_bits); (try (simp only [↓IntWalk.iteOmega]; go_simp)); (refine hK _ ?_; clear hK K))
  refine lexX_step rfl rfl (fun K hK => ?_); go_simp; refine ⟨_, fun x => ret_of (mWords_any M ws bs (f x) (HM'.out x)), hK _ ?_⟩; clear hK K
  repeat (refine lexX_step rfl rfl (fun K hK => ?_); go_simp; (try go_bits); (try (simp only [↓IntWalk.iteOmega]; go_simp)); (refine hK _ ?_; clear hK K))
  clear g3 HM'
  refine lexX_nil (fun w1 hw1 => ?_)
  have hx := ((Ext.refl [] w).alloc (.cells #[.int .u8 4, .int .i64 n, .int .u64 (A.toNat : Int), .int .u64 (B.toNat : Int)] 125)).trans' hw1.of_drew
  have g1 : blk w1 w.heap.size = some (.cells #[.int .u8 4, .int .i64 n, .int .u64 (A.toNat : Int), .int .u64 (B.toNat : Int)] 125 (0, 0)) := hw1.of_drew.blk (blk_new _ _) (by simp)
  have h1 := h.ext0 hx
  have HX := hid hx
  clear hx hw1
  have G1 := hid g1
  have H1 := hid h1
  clear g1 h1
  go_wp2_with fail
  refine wp_region_lit_lin [] [0,1,2,3,4,5,6,7,8,9,10,11,12,13,14,15,16,17,18] (Ext [] _) (Ext []) Try.mix (by kernel_rfl) (Ext.refl []) (fun _ _ _ => Ext.trans') (fun _ _ => Ext.trans') ((Ext.refl _ _).drew) (fun X _ f hf => ?_)
  have g3 : ∀ x i, (f x).cell? ⟨w.heap.size, i, none⟩ = (#[.int .u8 4, .int .i64 n, .int .u64 (A.toNat : Int), .int .u64 (B.toNat : Int)] : Array Value)[i]? := fun x i => blk_cell ((hf x).blk G1.out (by simp)) i
  have g0 : ∀ x, (f x).cell? ⟨M.m, 0, none⟩ = some (.slice (some ⟨M.bw, 0, none⟩) ws.length (ws.length + M.pw.size)) := fun x => (H1.out.ext0 (hf x)).c0
  have gw : ∀ x, (f x).cell? ⟨M.bw, n, none⟩ = some (.int .u64 (ws[n].toNat : Int)) := fun x => (H1.out.ext0 (hf x)).cw hn
  clear hf
  repeat (refine lexX_step rfl rfl (fun K hK => ?_); go_simp; (try go_bits); (try (simp only [↓IntWalk.iteOmega]; go_simp)); (refine hK _ ?_; clear hK K))
  refine lexX_step rfl rfl (fun K hK => ?_); go_simp; refine ⟨_, fun x => ret_of (kinds_any (f x)), hK _ ?_⟩; clear hK K
  repeat (refine lexX_step rfl rfl (fun K hK => ?_); go_simp; (try go_bits); (try (simp only [↓IntWalk.iteOmega]; go_simp)); (refine hK _ ?_; clear hK K))
  refine lexX_step rfl rfl (fun K hK => ?_); go_simp; refine ⟨_, fun x => ret_of (kind4_any ws[n] A B 4 n (f x)), hK _ ?_⟩; clear hK K
  repeat (refine lexX_step rfl rfl (fun K hK => ?_); go_simp; (try go_bits); (try (simp only [↓IntWalk.iteOmega]; go_simp)); (refine hK _ ?_; clear hK K))
  refine lexX_nil (fun w2 hw2 => ?_)
  have x2 := (HX.out.trans' hw2.of_drew).mono (Y := [M.bw]) (by simp)
  have h2 := H1.out.ext0 hw2.of_drew
  have g2 := hw2.of_drew.blk G1.out (by simp)
  clear hw2 g3 g0 gw H1 G1 HX
  have HX := hid x2
  have H2 := hid h2
  have G2 := hid g2
  clear x2 h2 g2
  go_wp2_with fail
  refine wp_region_lit_lin [8] [0,1,2,3,4,5,6,7,8] (Ext [M.bw] _) (Ext []) Try.mix (by kernel_rfl) (Ext.refl []) (fun _ _ _ => Ext.trans') (fun _ _ h k => h.trans0 k) ((Ext.refl _ _).drew) (fun X _ f hf => ?_)
  have g3 : ∀ x i, (f x).cell? ⟨w.heap.size, i, none⟩ = (#[.int .u8 4, .int .i64 n, .int .u64 (A.toNat : Int), .int .u64 (B.toNat : Int)] : Array Value)[i]? := fun x i => blk_cell ((hf x).blk G2.out (by simp; omega)) i
  have g0 : ∀ x, (f x).cell? ⟨M.m, 0, none⟩ = some (.slice (some ⟨M.bw, 0, none⟩) ws.length (ws.length + M.pw.size)) := fun x => (hf x).cell' H2.out.c0 (by simpa using H2.out.ne_mw)
  clear hf
  repeat (refine lexX_step rfl rfl (fun K hK => ?_); go_simp; (try go_bits); (try (simp only [↓IntWalk.iteOmega]; go_simp)); (refine hK _ ?_; clear hK K))
  refine lexX_effp rfl rfl rfl (fun w3 hw3 K hK => ?_)
  have h3 := H2.out.ext0 hw3.of_drew
  have q1 := h3.cw hn
  have q2 := blk_free h3.hw n
  go_simp
  refine ⟨(hw3.of_drew.mono (Y := [M.bw]) (by simp)).setCell (.inl (by simp)) _, hK _ _ ?_⟩
  clear hK K
  refine lexX_nil (fun w4 hw4 => ?_)
  have h4 := (h3.setW n (ws[n] + A) hn).ext0 hw4
  have x4 := ((HX.out.trans0 hw3.of_drew).setCell (p := ⟨M.bw, n, none⟩) (.inl (by simp)) (.int .u64 ((ws[n] + A).toNat : Int))).trans0 hw4
  clear hw4 h3 q1 q2 hw3 g3 g0 HX H2 G2
  have HX := hid x4
  have H4 := hid h4
  clear x4 h4
  go_wp2
  go_ret2
  exact ⟨rfl, H4.out, HX.out⟩


end Go.Proofs.Ytceddijolfpppaa
