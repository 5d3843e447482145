/-
  Package geom: where each word stands. Contracts of its functions.
  Conditions: at most 256 pages, at most 64 threads.
-/
import Derived.Test.YtceddijolfpppaaBase
namespace Go.Proofs.Ytceddijolfpppaa
open Go Go.RowKit
set_option linter.unusedSimpArgs false
set_option linter.unusedVariables false

theorem Try.mix : Try.prog.follows .mixedOrders = true := by kernel_rfl

/-- How many nodes. -/
def gM (N T : Nat) : Nat := T * 4 * (N + 1) + T * (2 * T + 3)
/-- How many words a region has. -/
def gsz (N T : Nat) : Nat → Nat
  | 0 => 1 | 1 => 1 | 2 => 5 | 3 => 9 | 4 => 1 | 5 => 4 | 6 => T | 7 => N | 8 => N | 9 => N | 10 => N * 8 | 11 => N * 8
  | 12 => T * 4 * 2 | 13 => T * 4 | 14 => T * 2 | 15 => T | 16 => T * (2 * T + 2) | 17 => gM N T | 18 => gM N T * 8 | _ => 0
/-- Where it begins. -/
def gsum (N T : Nat) : Nat → Nat
  | 0 => 0
  | i + 1 => gsum N T i + gsz N T i
/-- Of a geometry of no pages all is 0. -/
def gb (N T i : Nat) : Nat := if N = 0 then 0 else gsum N T i

def geoC (N T : Nat) : Array Value := #[.int .i64 N, .int .i64 T] ++ ((List.range 20).map fun i => Value.int .i64 (gb N T i)).toArray

theorem geoC_size (N T : Nat) : (geoC N T).size = 22 := by simp [geoC]
theorem geoC_0 (N T : Nat) : (geoC N T)[0]? = some (.int .i64 N) := by simp [geoC]
theorem geoC_1 (N T : Nat) : (geoC N T)[1]? = some (.int .i64 T) := by simp [geoC]
theorem geoC_b (N T i : Nat) (h : i < 20) : (geoC N T)[2 + i]? = some (.int .i64 (gb N T i)) := by
  have e : 2 + i = i + 2 := by omega
  rw [e]; simp [geoC, h]

theorem gsz_le (N T i : Nat) (hN : N ≤ 256) (hT : T ≤ 64) : gsz N T i ≤ 600000 := by
  have h1 : T * 4 * (N + 1) ≤ 64 * 4 * 257 := Nat.mul_le_mul (by omega) (by omega)
  have h2 : T * (2 * T + 3) ≤ 64 * 131 := Nat.mul_le_mul hT (by omega)
  have h3 : T * (2 * T + 2) ≤ 64 * 130 := Nat.mul_le_mul hT (by omega)
  have h4 : gM N T ≤ 74176 := by unfold gM; omega
  unfold gsz; split <;> omega

theorem gsum_le (N T : Nat) (hN : N ≤ 256) (hT : T ≤ 64) : ∀ i, gsum N T i ≤ 600000 * i
  | 0 => Nat.le_refl _
  | i + 1 => by have := gsum_le N T hN hT i; have := gsz_le N T i hN hT; rw [gsum]; omega

theorem gb_le (N T i : Nat) (hN : N ≤ 256) (hT : T ≤ 64) (hi : i < 20) : gb N T i ≤ 12000000 := by
  unfold gb; split
  · omega
  · have := gsum_le N T hN hT i; omega

theorem gb_succ (N T i : Nat) : gb N T (i + 1) = gb N T i + if N = 0 then 0 else gsz N T i := by unfold gb; split <;> rfl
theorem gb_mono (N T i : Nat) : gb N T i ≤ gb N T (i + 1) := by rw [gb_succ]; omega

/-- The word of a number of a region; -1: there is none such. -/
def gat (N T r : Nat) (n : Int) : Int := if n < 0 ∨ (gb N T (r + 1) : Int) - gb N T r ≤ n then -1 else gb N T r + n

theorem gat_neg (N T r : Nat) {n : Int} (h : n < 0) : gat N T r n = -1 := if_pos (.inl h)
theorem gat_far (N T r : Nat) {n : Int} (h : (gb N T (r + 1) : Int) - gb N T r ≤ n) : gat N T r n = -1 := if_pos (.inr h)
theorem gat_in (N T r : Nat) {n : Int} (h0 : 0 ≤ n) (h : n < (gb N T (r + 1) : Int) - gb N T r) : gat N T r n = gb N T r + n := if_neg (by omega)
theorem gat_range (N T r : Nat) (n : Int) (hN : N ≤ 256) (hT : T ≤ 64) (hr : r < 19) : -1 ≤ gat N T r n ∧ gat N T r n ≤ 12000000 := by
  unfold gat
  have := gb_le N T (r + 1) hN hT (by omega)
  split <;> omega

/-- A number, and one of so many within it; -1: one is none. -/
def gin (n k many : Int) : Int := if n < 0 ∨ 1073741824 < n ∨ k < 0 ∨ many ≤ k then -1 else n * many + k

/-! ### whole geometries out of their boxes, and into them -/

@[go_sem] theorem geoC_sizeIs (N T : Nat) : sizeIs (geoC N T) 22 = true := by simp [sizeIs, geoC, Value.oneCell']
theorem loadAt_geo (v : Value) : Instr.loadAt 26 v = oldLoadAt 26 v := rfl
theorem storeAt_geo (v u : Value) : Instr.storeAt 26 v u = oldStoreAt 26 v u := rfl
theorem run_load_geo (w : World) (b : Nat) : (oldLoadAt 26 (.pointer (some ⟨b, 0, none⟩))).run Try.prog w = rowLoad Try.prog 26 22 w b :=
  run_load_row Try.underlying26 rfl (by kernel_rfl) w b
theorem run_store_geo (w : World) (b : Nat) (cs : Array Value) : (oldStoreAt 26 (.pointer (some ⟨b, 0, none⟩)) (.agg cs)).run Try.prog w = rowStore Try.prog 26 22 w b cs :=
  run_store_row (by kernel_rfl) w b cs
attribute [go_sem] run_load_geo run_store_geo
attribute [go_sem ↓] loadAt_geo storeAt_geo

/-! ### the contracts -/

theorem at_cells (N T r : Nat) (w : World) {v : World} (hr : r < 19) (hb : blk v w.heap.size = some (.cells (geoC N T) 26)) :
    v.cell? ⟨w.heap.size, 2 + r, none⟩ = some (.int .i64 (gb N T r)) ∧ v.cell? ⟨w.heap.size, 2 + (r + 1), none⟩ = some (.int .i64 (gb N T (r + 1))) := by
  have c1 := geoC_b N T r (by omega)
  have c2 := geoC_b N T (r + 1) (by omega)
  exact ⟨(blk_cell hb _).trans c1, (blk_cell hb _).trans c2⟩


set_option maxHeartbeats 1000000 in
theorem at_neg (N T r : Nat) (n : Int) (w : World) (hr : r < 19) (hN : N ≤ 256) (hT : T ≤ 64) (h : n < 0) :
    Calls Try.prog 98 #[.agg (geoC N T), .int .i64 r, .int .i64 n] w (Ret (.int .i64 (-1)) (Ext [] w)) := by
  have g1 := gb_le N T r hN hT (by omega)
  have g2 := gb_le N T (r + 1) hN hT (by omega)
  have hE := Ext.refl []
  have h1 : (decide (n < 0)) = true := by simpa using h
  go_enter Try.func98, Try.ntmps98
  go_wp2
  refine wp_region_lit_lin [] [0,1,2,3,4,5,6,7,8,9,10,11,12,13,14,15] (Ext [] (w.alloc (.cells (geoC N T) 26))) (Ext []) Try.mix (by kernel_rfl) (Ext.refl []) (fun _ _ _ => Ext.trans') (fun _ _ => Ext.trans') ((Ext.refl _ _).drew) (fun X _ f hf => ?_)
  have hc1 : ∀ x, (f x).cell? ⟨w.heap.size, 2 + r, none⟩ = some (.int .i64 (gb N T r)) := fun x => (at_cells N T r w hr ((hf x).blk (blk_new _ _) (by simp))).1
  have hc2 : ∀ x, (f x).cell? ⟨w.heap.size, 2 + (r + 1), none⟩ = some (.int .i64 (gb N T (r + 1))) := fun x => (at_cells N T r w hr ((hf x).blk (blk_new _ _) (by simp))).2
  clear hf
  repeat (refine lexX_step rfl rfl (fun K hK => ?_); go_simp; (try go_bits); (try (simp only [↓IntWalk.iteOmega]; go_simp)); (refine hK _ ?_; clear hK K))
  clear hc1 hc2
  refine lexX_nil (fun w1 hw1 => ?_)
  have hx := hw1.of_drew
  have hd1 := (at_cells N T r w hr (hx.blk (blk_new _ _) (by simp))).1
  have H1 := hid hx
  clear hx hw1
  go_wp2
  go_ret
  exact ⟨rfl, ((Ext.refl [] _).alloc _).trans' H1.out⟩

set_option maxHeartbeats 1000000 in
theorem at_far (N T r : Nat) (n : Int) (w : World) (hr : r < 19) (hN : N ≤ 256) (hT : T ≤ 64) (h : 0 ≤ n) (h2 : (gb N T (r + 1) : Int) - gb N T r ≤ n) :
    Calls Try.prog 98 #[.agg (geoC N T), .int .i64 r, .int .i64 n] w (Ret (.int .i64 (-1)) (Ext [] w)) := by
  have g1 := gb_le N T r hN hT (by omega)
  have g2 := gb_le N T (r + 1) hN hT (by omega)
  have hE := Ext.refl []
  have h1 : (decide (n < 0)) = false := by simpa using h
  have h3 : (decide ((gb N T (r + 1) : Int) - gb N T r ≤ n)) = true := by simpa using h2
  go_enter Try.func98, Try.ntmps98
  go_wp2
  refine wp_region_lit_lin [] [0,1,2,3,4,5,6,7,8,9,10,11,12,13,14,15] (Ext [] (w.alloc (.cells (geoC N T) 26))) (Ext []) Try.mix (by kernel_rfl) (Ext.refl []) (fun _ _ _ => Ext.trans') (fun _ _ => Ext.trans') ((Ext.refl _ _).drew) (fun X _ f hf => ?_)
  have hc1 : ∀ x, (f x).cell? ⟨w.heap.size, 2 + r, none⟩ = some (.int .i64 (gb N T r)) := fun x => (at_cells N T r w hr ((hf x).blk (blk_new _ _) (by simp))).1
  have hc2 : ∀ x, (f x).cell? ⟨w.heap.size, 2 + (r + 1), none⟩ = some (.int .i64 (gb N T (r + 1))) := fun x => (at_cells N T r w hr ((hf x).blk (blk_new _ _) (by simp))).2
  clear hf
  repeat (refine lexX_step rfl rfl (fun K hK => ?_); go_simp; (try go_bits); (try (simp only [↓IntWalk.iteOmega]; go_simp)); (refine hK _ ?_; clear hK K))
  clear hc1 hc2
  refine lexX_nil (fun w1 hw1 => ?_)
  have hx := hw1.of_drew
  have hd1 := (at_cells N T r w hr (hx.blk (blk_new _ _) (by simp))).1
  have H1 := hid hx
  clear hx hw1
  go_wp2
  go_ret
  exact ⟨rfl, ((Ext.refl [] _).alloc _).trans' H1.out⟩

set_option maxHeartbeats 1000000 in
theorem at_in (N T r : Nat) (n : Int) (w : World) (hr : r < 19) (hN : N ≤ 256) (hT : T ≤ 64) (h : 0 ≤ n) (h2 : n < (gb N T (r + 1) : Int) - gb N T r) :
    Calls Try.prog 98 #[.agg (geoC N T), .int .i64 r, .int .i64 n] w (Ret (.int .i64 (gb N T r + n)) (Ext [] w)) := by
  have g1 := gb_le N T r hN hT (by omega)
  have g2 := gb_le N T (r + 1) hN hT (by omega)
  have hE := Ext.refl []
  have h1 : (decide (n < 0)) = false := by simpa using h
  have h3 : (decide ((gb N T (r + 1) : Int) - gb N T r ≤ n)) = false := by simpa using h2
  go_enter Try.func98, Try.ntmps98
  go_wp2
  refine wp_region_lit_lin [] [0,1,2,3,4,5,6,7,8,9,10,11,12,13,14,15] (Ext [] (w.alloc (.cells (geoC N T) 26))) (Ext []) Try.mix (by kernel_rfl) (Ext.refl []) (fun _ _ _ => Ext.trans') (fun _ _ => Ext.trans') ((Ext.refl _ _).drew) (fun X _ f hf => ?_)
  have hc1 : ∀ x, (f x).cell? ⟨w.heap.size, 2 + r, none⟩ = some (.int .i64 (gb N T r)) := fun x => (at_cells N T r w hr ((hf x).blk (blk_new _ _) (by simp))).1
  have hc2 : ∀ x, (f x).cell? ⟨w.heap.size, 2 + (r + 1), none⟩ = some (.int .i64 (gb N T (r + 1))) := fun x => (at_cells N T r w hr ((hf x).blk (blk_new _ _) (by simp))).2
  clear hf
  repeat (refine lexX_step rfl rfl (fun K hK => ?_); go_simp; (try go_bits); (try (simp only [↓IntWalk.iteOmega]; go_simp)); (refine hK _ ?_; clear hK K))
  clear hc1 hc2
  refine lexX_nil (fun w1 hw1 => ?_)
  have hx := hw1.of_drew
  have hd1 := (at_cells N T r w hr (hx.blk (blk_new _ _) (by simp))).1
  have H1 := hid hx
  clear hx hw1
  go_wp2
  go_ret
  exact ⟨rfl, ((Ext.refl [] _).alloc _).trans' H1.out⟩

theorem at_any (N T r : Nat) (ri n : Int) (w : World) (hri : ri = r) (hr : r < 19) (hN : N ≤ 256) (hT : T ≤ 64) :
    Calls Try.prog 98 #[.agg (geoC N T), .int .i64 ri, .int .i64 n] w (Ret (.int .i64 (gat N T r n)) (Ext [] w)) := by
  subst hri
  by_cases h : n < 0
  · rw [gat_neg N T r h]; exact at_neg N T r n w hr hN hT h
  by_cases h2 : (gb N T (r + 1) : Int) - gb N T r ≤ n
  · rw [gat_far N T r h2]; exact at_far N T r n w hr hN hT (by omega) h2
  · rw [gat_in N T r (by omega) (by omega)]; exact at_in N T r n w hr hN hT (by omega) (by omega)

set_option maxHeartbeats 1000000 in
theorem in_any (n k many : Int) (w : World) (hk : k ≤ 9223372036854775807) (hm0 : 0 ≤ many) (hm : many ≤ 1000000) :
    Calls Try.prog 112 #[.int .i64 n, .int .i64 k, .int .i64 many] w (Ret (.int .i64 (gin n k many)) (Ext [] w)) := by
  by_cases h1 : n < 0
  · rw [show gin n k many = -1 from if_pos (.inl h1)]
    go_enter Try.func112, Try.ntmps112
    go_wp2
    go_ret
    exact ⟨rfl, Ext.refl _ _⟩
  by_cases h2 : 1073741824 < n
  · rw [show gin n k many = -1 from if_pos (.inr (.inl h2))]
    go_enter Try.func112, Try.ntmps112
    go_wp2
    go_ret
    exact ⟨rfl, Ext.refl _ _⟩
  by_cases h3 : k < 0
  · rw [show gin n k many = -1 from if_pos (.inr (.inr (.inl h3)))]
    go_enter Try.func112, Try.ntmps112
    go_wp2
    go_ret
    exact ⟨rfl, Ext.refl _ _⟩
  by_cases h4 : many ≤ k
  · rw [show gin n k many = -1 from if_pos (.inr (.inr (.inr h4)))]
    go_enter Try.func112, Try.ntmps112
    go_wp2
    go_ret
    exact ⟨rfl, Ext.refl _ _⟩
  rw [show gin n k many = n * many + k from if_neg (by omega)]
  have hb : 0 ≤ n * many := Int.mul_nonneg (by omega) hm0
  have hc : n * many ≤ 1073741824 * 1000000 := Int.mul_le_mul (by omega) hm hm0 (by omega)
  go_enter Try.func112, Try.ntmps112
  go_wp2
  go_ret
  exact ⟨rfl, Ext.refl _ _⟩


set_option maxHeartbeats 400000 in
theorem gEpoch_any (N T : Nat) (w : World) (hN : N ≤ 256) (hT : T ≤ 64) :
    Calls Try.prog 88 #[.agg (geoC N T)] w (Ret (.int .i64 (gat N T 1 0)) (Ext [] w)) := by
  go_enter Try.func88, Try.ntmps88
  go_wp2_with fail
  refine (at_any N T 1 1 _ _ rfl (by omega) hN hT).mono ?_
  rintro e w1 ⟨rfl, h1⟩
  have H1 := hid h1
  clear h1
  go_wp2
  go_ret
  exact ⟨rfl, ((Ext.refl [] _).alloc _).trans' H1.out⟩


set_option maxHeartbeats 400000 in
theorem gBin_any (N T : Nat) (n : Int) (w : World) (hN : N ≤ 256) (hT : T ≤ 64) :
    Calls Try.prog 37 #[.agg (geoC N T), .int .i64 n] w (Ret (.int .i64 (gat N T 3 n)) (Ext [] w)) := by
  go_enter Try.func37, Try.ntmps37
  go_wp2_with fail
  refine (at_any N T 3 3 _ _ rfl (by omega) hN hT).mono ?_
  rintro e w1 ⟨rfl, h1⟩
  have H1 := hid h1
  clear h1
  go_wp2
  go_ret
  exact ⟨rfl, ((Ext.refl [] _).alloc _).trans' H1.out⟩

set_option maxHeartbeats 400000 in
theorem gPool_any (N T : Nat) (w : World) (hN : N ≤ 256) (hT : T ≤ 64) :
    Calls Try.prog 45 #[.agg (geoC N T)] w (Ret (.int .i64 (gat N T 4 0)) (Ext [] w)) := by
  go_enter Try.func45, Try.ntmps45
  go_wp2_with fail
  refine (at_any N T 4 4 _ _ rfl (by omega) hN hT).mono ?_
  rintro e w1 ⟨rfl, h1⟩
  have H1 := hid h1
  clear h1
  go_wp2
  go_ret
  exact ⟨rfl, ((Ext.refl [] _).alloc _).trans' H1.out⟩


set_option maxHeartbeats 400000 in
theorem gSerial_any (N T : Nat) (n : Int) (w : World) (hN : N ≤ 256) (hT : T ≤ 64) :
    Calls Try.prog 137 #[.agg (geoC N T), .int .i64 n] w (Ret (.int .i64 (gat N T 6 n)) (Ext [] w)) := by
  go_enter Try.func137, Try.ntmps137
  go_wp2_with fail
  refine (at_any N T 6 6 _ _ rfl (by omega) hN hT).mono ?_
  rintro e w1 ⟨rfl, h1⟩
  have H1 := hid h1
  clear h1
  go_wp2
  go_ret
  exact ⟨rfl, ((Ext.refl [] _).alloc _).trans' H1.out⟩

set_option maxHeartbeats 400000 in
theorem gPage_any (N T : Nat) (n : Int) (w : World) (hN : N ≤ 256) (hT : T ≤ 64) :
    Calls Try.prog 66 #[.agg (geoC N T), .int .i64 n] w (Ret (.int .i64 (gat N T 7 n)) (Ext [] w)) := by
  go_enter Try.func66, Try.ntmps66
  go_wp2_with fail
  refine (at_any N T 7 7 _ _ rfl (by omega) hN hT).mono ?_
  rintro e w1 ⟨rfl, h1⟩
  have H1 := hid h1
  clear h1
  go_wp2
  go_ret
  exact ⟨rfl, ((Ext.refl [] _).alloc _).trans' H1.out⟩

set_option maxHeartbeats 400000 in
theorem gBits_any (N T : Nat) (n : Int) (w : World) (hN : N ≤ 256) (hT : T ≤ 64) :
    Calls Try.prog 144 #[.agg (geoC N T), .int .i64 n] w (Ret (.int .i64 (gat N T 8 n)) (Ext [] w)) := by
  go_enter Try.func144, Try.ntmps144
  go_wp2_with fail
  refine (at_any N T 8 8 _ _ rfl (by omega) hN hT).mono ?_
  rintro e w1 ⟨rfl, h1⟩
  have H1 := hid h1
  clear h1
  go_wp2
  go_ret
  exact ⟨rfl, ((Ext.refl [] _).alloc _).trans' H1.out⟩



set_option maxHeartbeats 400000 in
theorem gState_any (N T : Nat) (n : Int) (w : World) (hN : N ≤ 256) (hT : T ≤ 64) :
    Calls Try.prog 31 #[.agg (geoC N T), .int .i64 n] w (Ret (.int .i64 (gat N T 11 n)) (Ext [] w)) := by
  go_enter Try.func31, Try.ntmps31
  go_wp2_with fail
  refine (at_any N T 11 11 _ _ rfl (by omega) hN hT).mono ?_
  rintro e w1 ⟨rfl, h1⟩
  have H1 := hid h1
  clear h1
  go_wp2
  go_ret
  exact ⟨rfl, ((Ext.refl [] _).alloc _).trans' H1.out⟩

set_option maxHeartbeats 400000 in
theorem gGone_any (N T : Nat) (n : Int) (w : World) (hN : N ≤ 256) (hT : T ≤ 64) :
    Calls Try.prog 61 #[.agg (geoC N T), .int .i64 n] w (Ret (.int .i64 (gat N T 15 n)) (Ext [] w)) := by
  go_enter Try.func61, Try.ntmps61
  go_wp2_with fail
  refine (at_any N T 15 15 _ _ rfl (by omega) hN hT).mono ?_
  rintro e w1 ⟨rfl, h1⟩
  have H1 := hid h1
  clear h1
  go_wp2
  go_ret
  exact ⟨rfl, ((Ext.refl [] _).alloc _).trans' H1.out⟩

set_option maxHeartbeats 400000 in
theorem gPages_any (N T : Nat) (w : World) :
    Calls Try.prog 101 #[.agg (geoC N T)] w (Ret (.int .i64 N) (Ext [] w)) := by
  have hc := geoC_0 N T
  go_enter Try.func101, Try.ntmps101
  go_wp2
  go_ret
  exact ⟨rfl, (Ext.refl [] _).alloc _⟩

set_option maxHeartbeats 400000 in
theorem gThreads_any (N T : Nat) (w : World) :
    Calls Try.prog 20 #[.agg (geoC N T)] w (Ret (.int .i64 T) (Ext [] w)) := by
  have hc := geoC_1 N T
  go_enter Try.func20, Try.ntmps20
  go_wp2
  go_ret
  exact ⟨rfl, (Ext.refl [] _).alloc _⟩

set_option maxHeartbeats 400000 in
theorem gWords_any (N T : Nat) (w : World) :
    Calls Try.prog 18 #[.agg (geoC N T)] w (Ret (.int .i64 (gb N T 19)) (Ext [] w)) := by
  have hc := geoC_b N T 19 (by omega)
  go_enter Try.func18, Try.ntmps18
  go_wp2
  go_ret
  exact ⟨rfl, (Ext.refl [] _).alloc _⟩

set_option maxHeartbeats 400000 in
theorem groom_cs (T : Nat) (cs : Array Value) (w : World) (hT : T ≤ 64) (h1 : cs[1]? = some (.int .i64 T)) :
    Calls Try.prog 89 #[.agg cs] w (Ret (.int .i64 (2 * T + 2 : Int)) (Ext [] w)) := by
  go_enter Try.func89, Try.ntmps89
  go_wp2
  go_ret
  exact ⟨rfl, (Ext.refl [] _).alloc _⟩

theorem gM_cast (N T : Nat) : (gM N T : Int) = (T : Int) * 4 * (N + 1) + (T : Int) * (2 * T + 3) := by
  unfold gM; push_cast; rfl

set_option maxHeartbeats 1000000 in
theorem gNodes_cs (N T : Nat) (cs : Array Value) (w : World) (h : 1 ≤ N) (hN : N ≤ 256) (hT : T ≤ 64) (hc : cs[0]? = some (.int .i64 N)) (hc' : cs[1]? = some (.int .i64 T)) :
    Calls Try.prog 42 #[.agg cs] w (Ret (.int .i64 (gM N T : Int)) (Ext [] w)) := by
  have h0 : ((N : Int) == 0) = false := by simp; omega
  have m1 : (T : Int) * 4 * (N + 1) ≤ 64 * 4 * 257 := Int.mul_le_mul (by omega) (by omega) (by omega) (by omega)
  have m2 : (0 : Int) ≤ (T : Int) * 4 * (N + 1) := Int.mul_nonneg (by omega) (by omega)
  have m3 : (T : Int) * (2 * T + 3) ≤ 64 * 131 := Int.mul_le_mul (by omega) (by omega) (by omega) (by omega)
  have m4 : (0 : Int) ≤ (T : Int) * (2 * T + 3) := Int.mul_nonneg (by omega) (by omega)
  rw [gM_cast]
  go_enter Try.func42, Try.ntmps42
  go_wp2
  go_ret
  exact ⟨rfl, (Ext.refl [] _).alloc _⟩

theorem gNodes_any (N T : Nat) (w : World) (h : 1 ≤ N) (hN : N ≤ 256) (hT : T ≤ 64) :
    Calls Try.prog 42 #[.agg (geoC N T)] w (Ret (.int .i64 (gM N T : Int)) (Ext [] w)) := gNodes_cs N T _ w h hN hT (geoC_0 N T) (geoC_1 N T)


/-- What regions have, as the table in New has it. -/
def szC (N T : Nat) : Array Value := ((List.range 19).map fun i => Value.int .i64 (gsz N T i)).toArray
/-- The geometry while it is made: k bases are reckoned. -/
def geoP (N T k : Nat) : Array Value := #[.int .i64 N, .int .i64 T] ++ ((List.range 20).map fun i => Value.int .i64 ((if i ≤ k then gsum N T i else 0 : Nat) : Int)).toArray
@[go_sem] theorem geoP_sizeIs (N T k : Nat) : sizeIs (geoP N T k) 22 = true := by simp [sizeIs, geoP, Value.oneCell']
@[go_sem] theorem szC_sizeIs (N T : Nat) : sizeIs (szC N T) 19 = true := by simp [sizeIs, szC, Value.oneCell']
theorem loadAt_sz (v : Value) : Instr.loadAt 130 v = oldLoadAt 130 v := rfl
theorem storeAt_sz (v u : Value) : Instr.storeAt 130 v u = oldStoreAt 130 v u := rfl
theorem run_load_sz (w : World) (b : Nat) : (oldLoadAt 130 (.pointer (some ⟨b, 0, none⟩))).run Try.prog w = rowLoad Try.prog 130 19 w b :=
  run_load_row Try.underlying130 rfl (by kernel_rfl) w b
theorem run_store_sz (w : World) (b : Nat) (cs : Array Value) : (oldStoreAt 130 (.pointer (some ⟨b, 0, none⟩)) (.agg cs)).run Try.prog w = rowStore Try.prog 130 19 w b cs :=
  run_store_row (by kernel_rfl) w b cs
attribute [local go_sem] run_load_sz run_store_sz
attribute [local go_sem ↓] loadAt_sz storeAt_sz

theorem geoP_0 (N T : Nat) : geoP N T 0 = #[.int .i64 N, .int .i64 T, .int .i64 0, .int .i64 0, .int .i64 0, .int .i64 0, .int .i64 0, .int .i64 0, .int .i64 0, .int .i64 0, .int .i64 0, .int .i64 0, .int .i64 0, .int .i64 0, .int .i64 0, .int .i64 0, .int .i64 0, .int .i64 0, .int .i64 0, .int .i64 0, .int .i64 0, .int .i64 0] := by
  simp [geoP, List.range_succ, gsum]
theorem geoP_19 (N T : Nat) (h : 1 ≤ N) : geoP N T 19 = geoC N T := by
  unfold geoP geoC
  have : ((List.range 20).map fun i => Value.int .i64 ((if i ≤ 19 then gsum N T i else 0 : Nat) : Int)) = (List.range 20).map fun i => Value.int .i64 (gb N T i) := by
    refine List.map_congr_left fun i hi => ?_
    have : i < 20 := List.mem_range.1 hi
    rw [if_pos (by omega), gb, if_neg (by omega)]
  rw [this]
theorem geoP_b (N T k i : Nat) (h : i < 20) (hk : i ≤ k) : (geoP N T k)[2 + i]? = some (.int .i64 (gsum N T i)) := by
  have e : 2 + i = i + 2 := by omega
  rw [e]; simp [geoP, h, hk]
theorem geoP_z (N T k i : Nat) (h : i < 20) (hk : k < i) : (geoP N T k)[2 + i]? = some (.int .i64 0) := by
  have e : 2 + i = i + 2 := by omega
  rw [e]; simp [geoP, h]; omega
theorem geoP_01 (N T k : Nat) : (geoP N T k)[0]? = some (.int .i64 N) ∧ (geoP N T k)[1]? = some (.int .i64 T) := by simp [geoP]
theorem geoP_set (N T k : Nat) (hk : k < 19) : (geoP N T k).setIfInBounds (2 + (k + 1)) (.int .i64 (gsum N T (k + 1))) = geoP N T (k + 1) := by
  apply Array.ext_getElem?
  intro j
  rw [Array.getElem?_setIfInBounds]
  split
  · rename_i h; subst h; rw [if_pos (by simp [geoP]; omega), geoP_b N T (k + 1) (k + 1) (by omega) (by omega)]
  · rename_i h
    match j with
    | 0 => simp [geoP]
    | 1 => simp [geoP]
    | j + 2 =>
      simp only [geoP]
      by_cases hj : j < 20
      · simp only [Array.getElem?_append, List.size_toArray, List.length_cons, List.length_nil, show ¬ j + 2 < 0 + 1 + 1 by omega, if_false, show j + 2 - (0 + 1 + 1) = j by omega, List.getElem?_toArray, List.getElem?_map, List.getElem?_range hj, Option.map_some]
        have : (j ≤ k) = (j ≤ k + 1) := by simp; omega
        simp only [this]
      · simp [hj]
theorem szC_lit (N T : Nat) : (#[.int .i64 1, .int .i64 1, .int .i64 5, .int .i64 9, .int .i64 1, .int .i64 4, .int .i64 T, .int .i64 N, .int .i64 N, .int .i64 N, .int .i64 (N * 8), .int .i64 (N * 8), .int .i64 (T * 4 * 2), .int .i64 (T * 4), .int .i64 (T * 2), .int .i64 T, .int .i64 (T * (2 * T + 2)), .int .i64 (gM N T), .int .i64 (gM N T * 8)] : Array Value) = szC N T := by
  simp [szC, List.range_succ, gsz]
theorem szC_at (N T k : Nat) (h : k < 19) : (szC N T)[k]? = some (.int .i64 (gsz N T k)) := by simp [szC, h]
theorem load_geo {w : World} {b N T : Nat} {fr : Nat × Nat} (h : blk w b = some (.cells (geoC N T) 26 fr)) : (loadVar 26 ⟨b, 0, none⟩).run Try.prog w = .ok (.agg (geoC N T)) w := by
  rw [run_load_row (n := 22) Try.underlying26 rfl (by kernel_rfl)]
  simp only [rowLoad, h, geoC_sizeIs, if_true]
theorem run_index_sz (N T k : Nat) (h : k < 19) (w : World) : (Instr.index 130 (.agg (szC N T)) (.int .i64 (k : Int))).run Try.prog w = .ok (.int .i64 (gsz N T k)) w := by
  have h2 := szC_at N T k h
  simp [Instr.index, run_underlying Try.underlying130, asIntOf, part, h2, go_sem]
  intro h3; omega

set_option maxRecDepth 100000 in
set_option maxHeartbeats 2000000 in
theorem gNew_any (N T : Nat) (w : World) (hN1 : 1 ≤ N) (hN : N ≤ 256) (hT1 : 1 ≤ T) (hT : T ≤ 64) :
    Calls Try.prog 16 #[.int .i64 N, .int .i64 T] w (Ret (.tuple #[.agg (geoC N T), .bool true]) (Ext [] w)) := by
  have hE := Ext.refl []
  have m3 : (T : Int) * (2 * T + 2) ≤ 64 * 130 := Int.mul_le_mul (by omega) (by omega) (by omega) (by omega)
  have m4 : (0 : Int) ≤ (T : Int) * (2 * T + 2) := Int.mul_nonneg (by omega) (by omega)
  have m5 : (gM N T : Int) ≤ 74176 := by
    have h1 : T * 4 * (N + 1) ≤ 64 * 4 * 257 := Nat.mul_le_mul (by omega) (by omega)
    have h2 : T * (2 * T + 3) ≤ 64 * 131 := Nat.mul_le_mul hT (by omega)
    unfold gM; omega
  go_enter Try.func16, Try.ntmps16
  go_wp2
  rw [← geoP_0 N T]
  refine wp_region_lit_lin [26,27] [0,1,2,3,4,5,6,7,8,9,10,11,12,13,14,15,16,17,18,19,20,21,22,23,24,25,26,27] (Ext [] _) (Ext []) Try.mix (by kernel_rfl) (Ext.refl []) (fun _ _ _ => Ext.trans') (fun _ _ => Ext.trans') ((Ext.refl _ _).drew) (fun X _ f hf => ?_)
  have hb : ∀ x, blk (f x) (w.heap.size + 1) = some (.cells (geoP N T 0) 26) := fun x => (hf x).blk (by simp [go_sem]) (by simp)
  clear hf
  repeat (refine lexX_step rfl rfl (fun K hK => ?_); go_simp; (try go_bits); (try (simp only [↓IntWalk.iteOmega]; go_simp)); (refine hK _ ?_; clear hK K))
  refine lexX_step rfl rfl (fun K hK => ?_); go_simp; refine ⟨_, fun x => ret_of (groom_cs T (geoP N T 0) (f x) hT (geoP_01 N T 0).2), hK _ ?_⟩; clear hK K
  repeat (refine lexX_step rfl rfl (fun K hK => ?_); go_simp; (try go_bits); (try (simp only [↓IntWalk.iteOmega]; go_simp)); (refine hK _ ?_; clear hK K))
  refine lexX_step rfl rfl (fun K hK => ?_); go_simp; refine ⟨_, fun x => ret_of (gNodes_cs N T (geoP N T 0) (f x) hN1 hN hT (geoP_01 N T 0).1 (geoP_01 N T 0).2), hK _ ?_⟩; clear hK K
  repeat (refine lexX_step rfl rfl (fun K hK => ?_); go_simp; (try go_bits); (try (simp only [↓IntWalk.iteOmega]; go_simp)); (refine hK _ ?_; clear hK K))
  refine lexX_step rfl rfl (fun K hK => ?_); go_simp; refine ⟨_, fun x => ret_of (gNodes_cs N T (geoP N T 0) (f x) hN1 hN hT (geoP_01 N T 0).1 (geoP_01 N T 0).2), hK _ ?_⟩; clear hK K
  repeat (refine lexX_step rfl rfl (fun K hK => ?_); go_simp; (try go_bits); (try (simp only [↓IntWalk.iteOmega]; go_simp)); (refine hK _ ?_; clear hK K))
  refine lexX_effp rfl rfl rfl (fun w1 hw1 K hK => ?_)
  go_simp
  refine ⟨(hw1.of_drew).alloc _, hK _ _ ?_⟩
  clear hK K
  refine lexX_effp rfl rfl rfl (fun w2 hw2 K hK => ?_)
  have hb2 := hw2.blk (blk_new _ _) (by simp)
  go_simp
  rw [szC_lit N T]
  refine ⟨?_, hK _ _ ?_⟩
  · exact ((hw1.of_drew.alloc _).trans' hw2).setRow (.inr hw1.of_drew.size) _
  clear hK K
  refine lexX_nil (fun w3 hw3 => ?_)
  have hsz : w.heap.size + 2 ≤ w1.heap.size := by have := hw1.of_drew.size; simp only [World.size_alloc] at this; omega
  have hx : Ext [] w w3 := ((((((Ext.refl [] w).alloc _).alloc _).trans' hw1.of_drew).alloc _).trans' hw2 |>.setRow (.inr (by omega)) _).trans' hw3
  have k7 : blk w3 w1.heap.size = some (.cells (szC N T) 130 (0, 0)) := hw3.blk (blk_setRow hb2 _) (by simp)
  have k6 : blk w3 (w.heap.size + 1) = some (.cells (geoP N T 0) 26 (0, 0)) := by
    refine hw3.blk ?_ (by simp)
    rw [blk_setRow_ne _ _ _ _ (by omega)]
    refine hw2.blk ?_ (by simp)
    rw [blk_old _ _ _ (by omega)]
    exact hw1.of_drew.blk (blk_at _ _ _ (by simp)) (by simp)
  have k4' := hw3.blk ((blk_setRow_ne w2 w1.heap.size w.heap.size _ (by omega)).trans (hw2.blk ((blk_old _ _ _ (by omega)).trans (hw1.of_drew.blk ((blk_old _ _ _ (by simp)).trans (blk_new _ _)) (by simp))) (by simp))) (by simp)
  obtain ⟨old, ho, k4⟩ : ∃ old, sizeIs old 22 = true ∧ blk w3 w.heap.size = some (.cells old 26 (0, 0)) := ⟨_, by simp [sizeIs, Value.oneCell'], k4'⟩
  clear k4'
  clear hw3 hb2 hw2 hw1 hb hE f
  generalize w1.heap.size = b7 at *
  go_wp2
  have HX := hid hx
  clear hx k7 m3 m4
  go_loopw [8, 9, 55] (fun _ _ i wr => ∃ k : Nat, k ≤ 19 ∧ i = .int .i64 k ∧ blk wr (w.heap.size + 1) = some (.cells (geoP N T k) 26 (0, 0)) ∧ blk wr w.heap.size = some (.cells old 26 (0, 0)) ∧ Ext [w.heap.size + 1] w3 wr) (fun _ _ i _ => 19 - (intOf i).toNat)
  case atStart => exact ⟨0, by omega, rfl, k6, k4, Ext.refl _ _⟩
  case round =>
    obtain ⟨k, hk, rfl, r6, r4, rx⟩ := hrel
    clear k6 k4
    have RX := hid rx
    have R6 := hid r6
    by_cases hlt : k < 19
    · have hix := run_index_sz N T k hlt
      have g1 := gsum_le N T hN hT k
      have g2 := gsz_le N T k hN hT
      have c1 := (blk_cell r6 (2 + k)).trans (geoP_b N T k k (by omega) (Nat.le_refl _))
      have c2 := (blk_cell r6 (2 + (k + 1))).trans (geoP_z N T k (k + 1) (by omega) (by omega))
      have f1 := blk_free r6 (2 + (k + 1))
      have hkk : (2 + (k + 1) : Nat) = 2 + (k + 1) := rfl
      clear r6 rx hkk
      go_wp2
      refine ⟨⟨k + 1, by omega, by go_num, ?_, ?_, ?_⟩, by simp [intOf]; omega⟩
      · refine (blk_setCell R6.out _ _).trans ?_
        have := geoP_set N T k hlt
        rw [← this, gsum]; push_cast; rfl
      · rw [blk_set _ _ _ _ (by simp)]; exact r4
      · exact RX.out.setCell (.inl (by simp)) _
    · have hk19 : k = 19 := by omega
      subst hk19
      rw [geoP_19 N T hN1] at r6 R6
      have hn : w.heap.size ≠ w.heap.size + 1 := by omega
      clear rx
      go_wp2
      refine bodyPost_ret (v := .tuple #[.agg (geoC N T), .bool true]) ?_ rfl ⟨rfl, ?_⟩
      · rw [results_cell_tmp rfl]
        simp only [Array.getD_eq_getD_getElem?, List.getElem?_toArray, List.getElem?_cons_succ, List.getElem?_cons_zero, Option.getD_some, asAddr]
        rw [Sem.run_pure, Result.andThen_ok, load_geo (blk_setRow r4 _)]
        rfl
      · exact (HX.out.trans ((RX.out.mono (Y := [w.heap.size + 1, w.heap.size]) (by simp)).setRow (.inl (by simp)) _) (by simp) (by simp))

end Go.Proofs.Ytceddijolfpppaa
