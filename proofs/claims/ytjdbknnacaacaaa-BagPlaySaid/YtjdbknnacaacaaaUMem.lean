/-
  Package mem: shared words and bytes. What a memory is in a world (MemAt); contracts of its functions.
  Conditions: the memory is there.
-/
import Derived.Test.YtjdbknnacaacaaaULin
import Derived.Laws.EntriesVeiled
import Derived.BigRegion
import Derived.Test.YtjdbknnacaacaaaRows
import Derived.Laws.Entries
import Derived.Orders
import Derived.Below
namespace Go.Proofs.Ytjdbknnacaacaaa
open Go Go.RowKit
set_option linter.unusedSimpArgs false
set_option linter.unusedVariables false
def wcells (ws : List UInt64) : Array Value := (ws.map fun x => Value.int .u64 (x.toNat : Int)).toArray
def bcells (bs : List UInt8) : Array Value := (bs.map fun x => Value.int .u8 (x.toNat : Int)).toArray
theorem wcells_at {ws : List UInt64} {i : Nat} (h : i < ws.length) : (wcells ws)[i]? = some (.int .u64 (ws[i].toNat : Int)) := by simp [wcells, h]
theorem bcells_at {bs : List UInt8} {i : Nat} (h : i < bs.length) : (bcells bs)[i]? = some (.int .u8 (bs[i].toNat : Int)) := by simp [bcells, h]
theorem wcells_size (ws : List UInt64) : (wcells ws).size = ws.length := by simp [wcells]
theorem bcells_size (bs : List UInt8) : (bcells bs).size = bs.length := by simp [bcells]
theorem wcells_in {ws : List UInt64} {p : Array Value} {i : Nat} (h : i < ws.length) : (wcells ws ++ p)[i]? = some (.int .u64 (ws[i].toNat : Int)) := by
  rw [Array.getElem?_append_left (by rw [wcells_size]; exact h), wcells_at h]
theorem bcells_in {bs : List UInt8} {p : Array Value} {i : Nat} (h : i < bs.length) : (bcells bs ++ p)[i]? = some (.int .u8 (bs[i].toNat : Int)) := by
  rw [Array.getElem?_append_left (by rw [bcells_size]; exact h), bcells_at h]
theorem wcells_set (ws : List UInt64) (i : Nat) (x : UInt64) : (wcells ws).setIfInBounds i (.int .u64 (x.toNat : Int)) = wcells (ws.set i x) := by
  simp [wcells, List.map_set]
theorem bcells_set (bs : List UInt8) (i : Nat) (x : UInt8) : (bcells bs).setIfInBounds i (.int .u8 (x.toNat : Int)) = bcells (bs.set i x) := by
  simp [bcells, List.map_set]
theorem wset_in {ws : List UInt64} {p : Array Value} {i : Nat} (h : i < ws.length) (x : UInt64) : (wcells ws ++ p).setIfInBounds i (.int .u64 (x.toNat : Int)) = wcells (ws.set i x) ++ p := by
  rw [Array.setIfInBounds_append_left (by rw [wcells_size]; exact h), wcells_set]
theorem bset_in {bs : List UInt8} {p : Array Value} {i : Nat} (h : i < bs.length) (x : UInt8) : (bcells bs ++ p).setIfInBounds i (.int .u8 (x.toNat : Int)) = bcells (bs.set i x) ++ p := by
  rw [Array.setIfInBounds_append_left (by rw [bcells_size]; exact h), bcells_set]
structure MemId where
  m : Nat
  bw : Nat
  bb : Nat
  pw : Array Value := #[]
  pb : Array Value := #[]
def memC (M : MemId) (ws : List UInt64) (bs : List UInt8) : Array Value :=
  #[.slice (some ⟨M.bw, 0, none⟩) ws.length (ws.length + M.pw.size), .slice (some ⟨M.bb, 0, none⟩) bs.length (bs.length + M.pb.size)]
structure MemAt (w : World) (M : MemId) (ws : List UInt64) (bs : List UInt8) : Prop where
  hm : blk w M.m = some (.cells (memC M ws bs) 153 (0, 0))
  hw : blk w M.bw = some (.cells (wcells ws ++ M.pw) 30 (0, 0))
  hb : blk w M.bb = some (.cells (bcells bs ++ M.pb) 5 (0, 0))
  wl : ws.length ≤ 2097152
  bl : bs.length ≤ 1048576
theorem cells_type {w : World} {a b : Nat} {c d : Array Value} {s t : TypeId} {f g : Nat × Nat} (h : blk w a = some (.cells c s f)) (k : blk w b = some (.cells d t g)) (hne : s ≠ t) : a ≠ b := by
  rintro rfl
  rw [h] at k
  injection k with k
  injection k with _ k _
  exact hne k
theorem MemAt.ext {w w' : World} {M : MemId} {ws : List UInt64} {bs : List UInt8} {X : List Nat} (h : MemAt w M ws bs) (k : Ext X w w') (h1 : M.m ∉ X) (h2 : M.bw ∉ X) (h3 : M.bb ∉ X) : MemAt w' M ws bs :=
  ⟨k.blk h.hm h1, k.blk h.hw h2, k.blk h.hb h3, h.wl, h.bl⟩
theorem MemAt.ext0 {w w' : World} {M : MemId} {ws : List UInt64} {bs : List UInt8} (h : MemAt w M ws bs) (k : Ext [] w w') : MemAt w' M ws bs := h.ext k (by simp) (by simp) (by simp)
theorem MemAt.ne_mw {w : World} {M : MemId} {ws : List UInt64} {bs : List UInt8} (h : MemAt w M ws bs) : M.m ≠ M.bw := cells_type h.hm h.hw (by decide)
theorem MemAt.ne_mb {w : World} {M : MemId} {ws : List UInt64} {bs : List UInt8} (h : MemAt w M ws bs) : M.m ≠ M.bb := cells_type h.hm h.hb (by decide)
theorem MemAt.ne_wb {w : World} {M : MemId} {ws : List UInt64} {bs : List UInt8} (h : MemAt w M ws bs) : M.bw ≠ M.bb := cells_type h.hw h.hb (by decide)
theorem MemAt.c0 {w : World} {M : MemId} {ws : List UInt64} {bs : List UInt8} (h : MemAt w M ws bs) : w.cell? ⟨M.m, 0, none⟩ = some (.slice (some ⟨M.bw, 0, none⟩) ws.length (ws.length + M.pw.size)) := blk_cell h.hm 0
theorem MemAt.c1 {w : World} {M : MemId} {ws : List UInt64} {bs : List UInt8} (h : MemAt w M ws bs) : w.cell? ⟨M.m, 1, none⟩ = some (.slice (some ⟨M.bb, 0, none⟩) bs.length (bs.length + M.pb.size)) := blk_cell h.hm 1
theorem MemAt.cw {w : World} {M : MemId} {ws : List UInt64} {bs : List UInt8} (h : MemAt w M ws bs) {i : Nat} (hi : i < ws.length) : w.cell? ⟨M.bw, i, none⟩ = some (.int .u64 (ws[i].toNat : Int)) := (blk_cell h.hw i).trans (wcells_in hi)
theorem MemAt.cb {w : World} {M : MemId} {ws : List UInt64} {bs : List UInt8} (h : MemAt w M ws bs) {i : Nat} (hi : i < bs.length) : w.cell? ⟨M.bb, i, none⟩ = some (.int .u8 (bs[i].toNat : Int)) := (blk_cell h.hb i).trans (bcells_in hi)
theorem MemAt.setW {w : World} {M : MemId} {ws : List UInt64} {bs : List UInt8} (h : MemAt w M ws bs) (i : Nat) (x : UInt64) (hi : i < ws.length) : MemAt (w.setCell ⟨M.bw, i, none⟩ (.int .u64 (x.toNat : Int))) M (ws.set i x) bs :=
  ⟨by rw [blk_set _ _ _ _ h.ne_mw, h.hm]; simp [memC], by rw [blk_setCell h.hw, wset_in hi], by rw [blk_set _ _ _ _ h.ne_wb.symm, h.hb], by simpa using h.wl, h.bl⟩
theorem MemAt.setB {w : World} {M : MemId} {ws : List UInt64} {bs : List UInt8} (h : MemAt w M ws bs) (i : Nat) (x : UInt8) (hi : i < bs.length) : MemAt (w.setCell ⟨M.bb, i, none⟩ (.int .u8 (x.toNat : Int))) M ws (bs.set i x) :=
  ⟨by rw [blk_set _ _ _ _ h.ne_mb, h.hm]; simp [memC], by rw [blk_set _ _ _ _ h.ne_wb, h.hw], by rw [blk_setCell h.hb, bset_in hi], h.wl, by simpa using h.bl⟩
theorem MemAt.drew {w : World} {M : MemId} {ws : List UInt64} {bs : List UInt8} (h : MemAt w M ws bs) : MemAt w.drew M ws bs := ⟨h.hm, h.hw, h.hb, h.wl, h.bl⟩
theorem MemAt.alloc {w : World} {M : MemId} {ws : List UInt64} {bs : List UInt8} (h : MemAt w M ws bs) (o : Obj) : MemAt (w.alloc o) M ws bs := h.ext0 ((Ext.refl [] w).alloc o)
def accV (k at' : Int) (A B : UInt64) : Value := .agg #[.int .u8 k, .int .i64 at', .int .u64 (A.toNat : Int), .int .u64 (B.toNat : Int)]
theorem u64_add (a b : UInt64) : IntKind.u64.wrap ((a.toNat : Int) + (b.toNat : Int)) = ((a + b).toNat : Int) := by
  have h := UInt64.toNat_add a b
  rw [IntKind.wrap_u64]; omega
theorem u64_eq (a b : UInt64) : ((a.toNat : Int) == (b.toNat : Int)) = (a == b) := by
  rw [Bool.eq_iff_iff]; simp only [beq_iff_eq]
  constructor
  · intro h; exact UInt64.toNat_inj.1 (by omega)
  · rintro rfl; rfl
theorem u64_ne (a b : UInt64) : ((a.toNat : Int) != (b.toNat : Int)) = (a != b) := by
  simp only [bne, u64_eq]
theorem Ext.cell' {X : List Nat} {a b : World} (h : Ext X a b) {p : Addr} {v : Value} (hc : a.cell? p = some v) (hx : p.block ∉ X) : b.cell? p = some v :=
  (h.cell (World.block_lt_of_cell? _ _ hc) hx).trans hc
set_option maxHeartbeats 400000 in
theorem mWords_any (M : MemId) (ws : List UInt64) (bs : List UInt8) (w : World) (h : MemAt w M ws bs) :
    Calls Try.prog 109 #[.pointer (some ⟨M.m, 0, none⟩)] w (Ret (.int .i64 (ws.length : Int)) (Ext [] w)) := by
  have hc := h.c0
  have H := hid h
  clear h
  go_enter Try.func109, Try.ntmps109
  go_wp2
  go_ret
  exact ⟨rfl, Ext.refl _ _⟩
set_option maxHeartbeats 400000 in
theorem mBytes_any (M : MemId) (ws : List UInt64) (bs : List UInt8) (w : World) (h : MemAt w M ws bs) :
    Calls Try.prog 110 #[.pointer (some ⟨M.m, 0, none⟩)] w (Ret (.int .i64 (bs.length : Int)) (Ext [] w)) := by
  have hc := h.c1
  have H := hid h
  clear h
  go_enter Try.func110, Try.ntmps110
  go_wp2
  go_ret
  exact ⟨rfl, Ext.refl _ _⟩
theorem kinds_any (w : World) : Calls Try.prog 125 #[] w (Ret (.agg #[.nilFunc, .func (.func 139) #[] #[], .func (.func 140) #[] #[], .func (.func 141) #[] #[], .func (.func 142) #[] #[]]) (Ext [] w)) := by
  go_enter Try.func125, Try.ntmps125
  go_wp2
  refine bodyPost_ret (v := .agg #[.nilFunc, .func (.func 139) #[] #[], .func (.func 140) #[] #[], .func (.func 141) #[] #[], .func (.func 142) #[] #[]]) (by simp [results, Try.results125, go_sem]) rfl ⟨rfl, (Ext.refl [] _).alloc _⟩
theorem kindsAt1 (w : World) : (Instr.index 168 (.agg #[.nilFunc, .func (.func 139) #[] #[], .func (.func 140) #[] #[], .func (.func 141) #[] #[], .func (.func 142) #[] #[]]) (.int .u8 1)).run Try.prog w = .ok (.func (.func 139) #[] #[]) w := by kernel_rfl
theorem kindsAt2 (w : World) : (Instr.index 168 (.agg #[.nilFunc, .func (.func 139) #[] #[], .func (.func 140) #[] #[], .func (.func 141) #[] #[], .func (.func 142) #[] #[]]) (.int .u8 2)).run Try.prog w = .ok (.func (.func 140) #[] #[]) w := by kernel_rfl
theorem kindsAt3 (w : World) : (Instr.index 168 (.agg #[.nilFunc, .func (.func 139) #[] #[], .func (.func 140) #[] #[], .func (.func 141) #[] #[], .func (.func 142) #[] #[]]) (.int .u8 3)).run Try.prog w = .ok (.func (.func 141) #[] #[]) w := by kernel_rfl
theorem kindsAt4 (w : World) : (Instr.index 168 (.agg #[.nilFunc, .func (.func 139) #[] #[], .func (.func 140) #[] #[], .func (.func 141) #[] #[], .func (.func 142) #[] #[]]) (.int .u8 4)).run Try.prog w = .ok (.func (.func 142) #[] #[]) w := by kernel_rfl
attribute [local go_sem] kindsAt1 kindsAt2 kindsAt3 kindsAt4
theorem kind1_any (x A B : UInt64) (k a : Int) (w : World) : Calls Try.prog 139 #[.int .u64 (x.toNat : Int), (.agg #[.int .u8 k, .int .i64 a, .int .u64 (A.toNat : Int), .int .u64 (B.toNat : Int)])] w (Ret (.tuple #[.int .u64 (x.toNat : Int), .int .u64 (x.toNat : Int)]) (Ext [] w)) := by
  go_enter Try.func139, Try.ntmps139
  go_wp2
  go_ret2
  exact ⟨rfl, (Ext.refl [] _).alloc _⟩
theorem kind2_any (x A B : UInt64) (k a : Int) (w : World) : Calls Try.prog 140 #[.int .u64 (x.toNat : Int), (.agg #[.int .u8 k, .int .i64 a, .int .u64 (A.toNat : Int), .int .u64 (B.toNat : Int)])] w (Ret (.tuple #[.int .u64 (A.toNat : Int), .int .u64 0]) (Ext [] w)) := by
  go_enter Try.func140, Try.ntmps140
  go_wp2
  go_ret2
  exact ⟨rfl, (Ext.refl [] _).alloc _⟩
theorem kind3_hit (x B : UInt64) (k a : Int) (w : World) : Calls Try.prog 141 #[.int .u64 (x.toNat : Int), (.agg #[.int .u8 k, .int .i64 a, .int .u64 (x.toNat : Int), .int .u64 (B.toNat : Int)])] w (Ret (.tuple #[.int .u64 (B.toNat : Int), .int .u64 1]) (Ext [] w)) := by
  go_enter Try.func141, Try.ntmps141
  go_wp2
  go_ret2
  exact ⟨rfl, (Ext.refl [] _).alloc _⟩
theorem kind3_miss (x A B : UInt64) (k a : Int) (w : World) (h : x ≠ A) : Calls Try.prog 141 #[.int .u64 (x.toNat : Int), (.agg #[.int .u8 k, .int .i64 a, .int .u64 (A.toNat : Int), .int .u64 (B.toNat : Int)])] w (Ret (.tuple #[.int .u64 (x.toNat : Int), .int .u64 0]) (Ext [] w)) := by
  have hn : ((x.toNat : Int) != (A.toNat : Int)) = true := by rw [u64_ne]; simpa using h
  go_enter Try.func141, Try.ntmps141
  go_wp2
  go_ret2
  exact ⟨rfl, (Ext.refl [] _).alloc _⟩
theorem kind4_any (x A B : UInt64) (k a : Int) (w : World) : Calls Try.prog 142 #[.int .u64 (x.toNat : Int), (.agg #[.int .u8 k, .int .i64 a, .int .u64 (A.toNat : Int), .int .u64 (B.toNat : Int)])] w (Ret (.tuple #[.int .u64 ((x + A).toNat : Int), .int .u64 (x.toNat : Int)]) (Ext [] w)) := by
  have hs := u64_add x A
  go_enter Try.func142, Try.ntmps142
  go_wp2
  go_ret2
  exact ⟨rfl, (Ext.refl [] _).alloc _⟩
end Go.Proofs.Ytjdbknnacaacaaa
namespace Go.Proofs.Ytjdbknnacaacaaa
open Go Go.RowKit
set_option linter.unusedSimpArgs false
set_option linter.unusedVariables false
attribute [local go_sem] kindsAt1 kindsAt2 kindsAt3 kindsAt4
set_option maxRecDepth 100000 in
set_option maxHeartbeats 2000000 in
theorem do_load (M : MemId) (ws : List UInt64) (bs : List UInt8) (n : Nat) (A B : UInt64) (w : World) (h : MemAt w M ws bs) (hn : n < ws.length) :
    Calls Try.prog 79 #[.pointer (some ⟨M.m, 0, none⟩), accV 1 n A B] w (fun e w' => e = .returned (.tuple #[.int .u64 (ws[n].toNat : Int), .bool true]) ∧ MemAt w' M (ws.set n (ws[n])) bs ∧ Ext [M.bw] w w') := by
  have hE := Ext.refl []
  have d0 := h.c0
  have hl := h.wl
  have n1 : (decide ((n : Int) < 0)) = false := by simp
  have n2 : (decide ((ws.length : Int) ≤ (n : Int))) = false := by simp; omega
  unfold accV
  go_enter Try.func79, Try.ntmps79
  go_wp2_with fail
  have L0 := blk_lt h.hm
  have L1 := blk_lt h.hw
  refine wp_region_lit_lin [] [0,1,2,3,4,5,6,7,8,9] (Ext [] _) (Ext []) Try.mix (by kernel_rfl) (Ext.refl []) (fun _ _ _ => Ext.trans') (fun _ _ => Ext.trans') ((Ext.refl _ _).drew) (fun X _ f hf => ?_)
  have g3 : ∀ x i, (f x).cell? ⟨w.heap.size, i, none⟩ = (#[.int .u8 1, .int .i64 n, .int .u64 (A.toNat : Int), .int .u64 (B.toNat : Int)] : Array Value)[i]? := fun x i => blk_cell ((hf x).blk (blk_new _ _) (by simp)) i
  have HM : ∀ x, MemAt (f x) M ws bs := fun x => (h.alloc _).ext0 (hf x)
  have HM' := hid HM
  clear HM hf
  repeat (refine lexX_step rfl rfl (fun K hK => ?_); go_simp; (try go_bits); (try (simp only [↓IntWalk.iteOmega]; go_simp)); (refine hK _ ?_; clear hK K))
  refine lexX_step rfl rfl (fun K hK => ?_); go_simp; refine ⟨_, fun x => ret_of (mWords_any M ws bs (f x) (HM'.out x)), hK _ ?_⟩; clear hK K
  repeat (refine lexX_step rfl rfl (fun K hK => ?_); go_simp; (try go_bits); (try (simp only [↓IntWalk.iteOmega]; go_simp)); (refine hK _ ?_; clear hK K))
  clear g3 HM'
  refine lexX_nil (fun w1 hw1 => ?_)
  have hx := ((Ext.refl [] w).alloc (.cells #[.int .u8 1, .int .i64 n, .int .u64 (A.toNat : Int), .int .u64 (B.toNat : Int)] 120)).trans' hw1.of_drew
  have g1 : blk w1 w.heap.size = some (.cells #[.int .u8 1, .int .i64 n, .int .u64 (A.toNat : Int), .int .u64 (B.toNat : Int)] 120 (0, 0)) := hw1.of_drew.blk (blk_new _ _) (by simp)
  have h1 := h.ext0 hx
  have HX := hid hx
  clear hx hw1
  have G1 := hid g1
  have H1 := hid h1
  clear g1 h1
  go_wp2_with fail
  refine wp_region_lit_lin [] [0,1,2,3,4,5,6,7,8,9,10,11,12,13,14,15,16,17,18] (Ext [] _) (Ext []) Try.mix (by kernel_rfl) (Ext.refl []) (fun _ _ _ => Ext.trans') (fun _ _ => Ext.trans') ((Ext.refl _ _).drew) (fun X _ f hf => ?_)
  have g3 : ∀ x i, (f x).cell? ⟨w.heap.size, i, none⟩ = (#[.int .u8 1, .int .i64 n, .int .u64 (A.toNat : Int), .int .u64 (B.toNat : Int)] : Array Value)[i]? := fun x i => blk_cell ((hf x).blk G1.out (by simp)) i
  have g0 : ∀ x, (f x).cell? ⟨M.m, 0, none⟩ = some (.slice (some ⟨M.bw, 0, none⟩) ws.length (ws.length + M.pw.size)) := fun x => (H1.out.ext0 (hf x)).c0
  have gw : ∀ x, (f x).cell? ⟨M.bw, n, none⟩ = some (.int .u64 (ws[n].toNat : Int)) := fun x => (H1.out.ext0 (hf x)).cw hn
  clear hf
  repeat (refine lexX_step rfl rfl (fun K hK => ?_); go_simp; (try go_bits); (try (simp only [↓IntWalk.iteOmega]; go_simp)); (refine hK _ ?_; clear hK K))
  refine lexX_step rfl rfl (fun K hK => ?_); go_simp; refine ⟨_, fun x => ret_of (kinds_any (f x)), hK _ ?_⟩; clear hK K
  repeat (refine lexX_step rfl rfl (fun K hK => ?_); go_simp; (try go_bits); (try (simp only [↓IntWalk.iteOmega]; go_simp)); (refine hK _ ?_; clear hK K))
  refine lexX_step rfl rfl (fun K hK => ?_); go_simp; refine ⟨_, fun x => ret_of (kind1_any ws[n] A B 1 n (f x)), hK _ ?_⟩; clear hK K
  repeat (refine lexX_step rfl rfl (fun K hK => ?_); go_simp; (try go_bits); (try (simp only [↓IntWalk.iteOmega]; go_simp)); (refine hK _ ?_; clear hK K))
  refine lexX_nil (fun w2 hw2 => ?_)
  have x2 := (HX.out.trans' hw2.of_drew).mono (Y := [M.bw]) (by simp)
  have h2 := H1.out.ext0 hw2.of_drew
  have g2 := hw2.of_drew.blk G1.out (by simp)
  clear hw2 g3 g0 gw H1 G1 HX
  have HX := hid x2
  have H2 := hid h2
  have G2 := hid g2
  clear x2 h2 g2
  go_wp2_with fail
  refine wp_region_lit_lin [8] [0,1,2,3,4,5,6,7,8] (Ext [M.bw] _) (Ext []) Try.mix (by kernel_rfl) (Ext.refl []) (fun _ _ _ => Ext.trans') (fun _ _ h k => h.trans0 k) ((Ext.refl _ _).drew) (fun X _ f hf => ?_)
  have g3 : ∀ x i, (f x).cell? ⟨w.heap.size, i, none⟩ = (#[.int .u8 1, .int .i64 n, .int .u64 (A.toNat : Int), .int .u64 (B.toNat : Int)] : Array Value)[i]? := fun x i => blk_cell ((hf x).blk G2.out (by simp; omega)) i
  have g0 : ∀ x, (f x).cell? ⟨M.m, 0, none⟩ = some (.slice (some ⟨M.bw, 0, none⟩) ws.length (ws.length + M.pw.size)) := fun x => (hf x).cell' H2.out.c0 (by simpa using H2.out.ne_mw)
  clear hf
  repeat (refine lexX_step rfl rfl (fun K hK => ?_); go_simp; (try go_bits); (try (simp only [↓IntWalk.iteOmega]; go_simp)); (refine hK _ ?_; clear hK K))
  refine lexX_effp rfl rfl rfl (fun w3 hw3 K hK => ?_)
  have h3 := H2.out.ext0 hw3.of_drew
  have q1 := h3.cw hn
  have q2 := blk_free h3.hw n
  go_simp
  refine ⟨(hw3.of_drew.mono (Y := [M.bw]) (by simp)).setCell (.inl (by simp)) _, hK _ _ ?_⟩
  clear hK K
  refine lexX_nil (fun w4 hw4 => ?_)
  have h4 := (h3.setW n (ws[n]) hn).ext0 hw4
  have x4 := ((HX.out.trans0 hw3.of_drew).setCell (p := ⟨M.bw, n, none⟩) (.inl (by simp)) (.int .u64 ((ws[n]).toNat : Int))).trans0 hw4
  clear hw4 h3 q1 q2 hw3 g3 g0 HX H2 G2
  have HX := hid x4
  have H4 := hid h4
  clear x4 h4
  go_wp2
  go_ret2
  exact ⟨rfl, H4.out, HX.out⟩
set_option maxRecDepth 100000 in
set_option maxHeartbeats 2000000 in
theorem do_store (M : MemId) (ws : List UInt64) (bs : List UInt8) (n : Nat) (A B : UInt64) (w : World) (h : MemAt w M ws bs) (hn : n < ws.length) :
    Calls Try.prog 79 #[.pointer (some ⟨M.m, 0, none⟩), accV 2 n A B] w (fun e w' => e = .returned (.tuple #[.int .u64 0, .bool true]) ∧ MemAt w' M (ws.set n (A)) bs ∧ Ext [M.bw] w w') := by
  have hE := Ext.refl []
  have d0 := h.c0
  have hl := h.wl
  have n1 : (decide ((n : Int) < 0)) = false := by simp
  have n2 : (decide ((ws.length : Int) ≤ (n : Int))) = false := by simp; omega
  unfold accV
  go_enter Try.func79, Try.ntmps79
  go_wp2_with fail
  have L0 := blk_lt h.hm
  have L1 := blk_lt h.hw
  refine wp_region_lit_lin [] [0,1,2,3,4,5,6,7,8,9] (Ext [] _) (Ext []) Try.mix (by kernel_rfl) (Ext.refl []) (fun _ _ _ => Ext.trans') (fun _ _ => Ext.trans') ((Ext.refl _ _).drew) (fun X _ f hf => ?_)
  have g3 : ∀ x i, (f x).cell? ⟨w.heap.size, i, none⟩ = (#[.int .u8 2, .int .i64 n, .int .u64 (A.toNat : Int), .int .u64 (B.toNat : Int)] : Array Value)[i]? := fun x i => blk_cell ((hf x).blk (blk_new _ _) (by simp)) i
  have HM : ∀ x, MemAt (f x) M ws bs := fun x => (h.alloc _).ext0 (hf x)
  have HM' := hid HM
  clear HM hf
  repeat (refine lexX_step rfl rfl (fun K hK => ?_); go_simp; (try go_bits); (try (simp only [↓IntWalk.iteOmega]; go_simp)); (refine hK _ ?_; clear hK K))
  refine lexX_step rfl rfl (fun K hK => ?_); go_simp; refine ⟨_, fun x => ret_of (mWords_any M ws bs (f x) (HM'.out x)), hK _ ?_⟩; clear hK K
  repeat (refine lexX_step rfl rfl (fun K hK => ?_); go_simp; (try go_bits); (try (simp only [↓IntWalk.iteOmega]; go_simp)); (refine hK _ ?_; clear hK K))
  clear g3 HM'
  refine lexX_nil (fun w1 hw1 => ?_)
  have hx := ((Ext.refl [] w).alloc (.cells #[.int .u8 2, .int .i64 n, .int .u64 (A.toNat : Int), .int .u64 (B.toNat : Int)] 120)).trans' hw1.of_drew
  have g1 : blk w1 w.heap.size = some (.cells #[.int .u8 2, .int .i64 n, .int .u64 (A.toNat : Int), .int .u64 (B.toNat : Int)] 120 (0, 0)) := hw1.of_drew.blk (blk_new _ _) (by simp)
  have h1 := h.ext0 hx
  have HX := hid hx
  clear hx hw1
  have G1 := hid g1
  have H1 := hid h1
  clear g1 h1
  go_wp2_with fail
  refine wp_region_lit_lin [] [0,1,2,3,4,5,6,7,8,9,10,11,12,13,14,15,16,17,18] (Ext [] _) (Ext []) Try.mix (by kernel_rfl) (Ext.refl []) (fun _ _ _ => Ext.trans') (fun _ _ => Ext.trans') ((Ext.refl _ _).drew) (fun X _ f hf => ?_)
  have g3 : ∀ x i, (f x).cell? ⟨w.heap.size, i, none⟩ = (#[.int .u8 2, .int .i64 n, .int .u64 (A.toNat : Int), .int .u64 (B.toNat : Int)] : Array Value)[i]? := fun x i => blk_cell ((hf x).blk G1.out (by simp)) i
  have g0 : ∀ x, (f x).cell? ⟨M.m, 0, none⟩ = some (.slice (some ⟨M.bw, 0, none⟩) ws.length (ws.length + M.pw.size)) := fun x => (H1.out.ext0 (hf x)).c0
  have gw : ∀ x, (f x).cell? ⟨M.bw, n, none⟩ = some (.int .u64 (ws[n].toNat : Int)) := fun x => (H1.out.ext0 (hf x)).cw hn
  clear hf
  repeat (refine lexX_step rfl rfl (fun K hK => ?_); go_simp; (try go_bits); (try (simp only [↓IntWalk.iteOmega]; go_simp)); (refine hK _ ?_; clear hK K))
  refine lexX_step rfl rfl (fun K hK => ?_); go_simp; refine ⟨_, fun x => ret_of (kinds_any (f x)), hK _ ?_⟩; clear hK K
  repeat (refine lexX_step rfl rfl (fun K hK => ?_); go_simp; (try go_bits); (try (simp only [↓IntWalk.iteOmega]; go_simp)); (refine hK _ ?_; clear hK K))
  refine lexX_step rfl rfl (fun K hK => ?_); go_simp; refine ⟨_, fun x => ret_of (kind2_any ws[n] A B 2 n (f x)), hK _ ?_⟩; clear hK K
  repeat (refine lexX_step rfl rfl (fun K hK => ?_); go_simp; (try go_bits); (try (simp only [↓IntWalk.iteOmega]; go_simp)); (refine hK _ ?_; clear hK K))
  refine lexX_nil (fun w2 hw2 => ?_)
  have x2 := (HX.out.trans' hw2.of_drew).mono (Y := [M.bw]) (by simp)
  have h2 := H1.out.ext0 hw2.of_drew
  have g2 := hw2.of_drew.blk G1.out (by simp)
  clear hw2 g3 g0 gw H1 G1 HX
  have HX := hid x2
  have H2 := hid h2
  have G2 := hid g2
  clear x2 h2 g2
  go_wp2_with fail
  refine wp_region_lit_lin [8] [0,1,2,3,4,5,6,7,8] (Ext [M.bw] _) (Ext []) Try.mix (by kernel_rfl) (Ext.refl []) (fun _ _ _ => Ext.trans') (fun _ _ h k => h.trans0 k) ((Ext.refl _ _).drew) (fun X _ f hf => ?_)
  have g3 : ∀ x i, (f x).cell? ⟨w.heap.size, i, none⟩ = (#[.int .u8 2, .int .i64 n, .int .u64 (A.toNat : Int), .int .u64 (B.toNat : Int)] : Array Value)[i]? := fun x i => blk_cell ((hf x).blk G2.out (by simp; omega)) i
  have g0 : ∀ x, (f x).cell? ⟨M.m, 0, none⟩ = some (.slice (some ⟨M.bw, 0, none⟩) ws.length (ws.length + M.pw.size)) := fun x => (hf x).cell' H2.out.c0 (by simpa using H2.out.ne_mw)
  clear hf
  repeat (refine lexX_step rfl rfl (fun K hK => ?_); go_simp; (try go_bits); (try (simp only [↓IntWalk.iteOmega]; go_simp)); (refine hK _ ?_; clear hK K))
  refine lexX_effp rfl rfl rfl (fun w3 hw3 K hK => ?_)
  have h3 := H2.out.ext0 hw3.of_drew
  have q1 := h3.cw hn
  have q2 := blk_free h3.hw n
  go_simp
  refine ⟨(hw3.of_drew.mono (Y := [M.bw]) (by simp)).setCell (.inl (by simp)) _, hK _ _ ?_⟩
  clear hK K
  refine lexX_nil (fun w4 hw4 => ?_)
  have h4 := (h3.setW n (A) hn).ext0 hw4
  have x4 := ((HX.out.trans0 hw3.of_drew).setCell (p := ⟨M.bw, n, none⟩) (.inl (by simp)) (.int .u64 ((A).toNat : Int))).trans0 hw4
  clear hw4 h3 q1 q2 hw3 g3 g0 HX H2 G2
  have HX := hid x4
  have H4 := hid h4
  clear x4 h4
  go_wp2
  go_ret2
  exact ⟨rfl, H4.out, HX.out⟩
set_option maxRecDepth 100000 in
set_option maxHeartbeats 2000000 in
theorem do_cash (M : MemId) (ws : List UInt64) (bs : List UInt8) (n : Nat) (B : UInt64) (w : World) (h : MemAt w M ws bs) (hn : n < ws.length) :
    Calls Try.prog 79 #[.pointer (some ⟨M.m, 0, none⟩), accV 3 n ws[n] B] w (fun e w' => e = .returned (.tuple #[.int .u64 1, .bool true]) ∧ MemAt w' M (ws.set n (B)) bs ∧ Ext [M.bw] w w') := by
  have hE := Ext.refl []
  have d0 := h.c0
  have hl := h.wl
  have n1 : (decide ((n : Int) < 0)) = false := by simp
  have n2 : (decide ((ws.length : Int) ≤ (n : Int))) = false := by simp; omega
  unfold accV
  go_enter Try.func79, Try.ntmps79
  go_wp2_with fail
  have L0 := blk_lt h.hm
  have L1 := blk_lt h.hw
  refine wp_region_lit_lin [] [0,1,2,3,4,5,6,7,8,9] (Ext [] _) (Ext []) Try.mix (by kernel_rfl) (Ext.refl []) (fun _ _ _ => Ext.trans') (fun _ _ => Ext.trans') ((Ext.refl _ _).drew) (fun X _ f hf => ?_)
  have g3 : ∀ x i, (f x).cell? ⟨w.heap.size, i, none⟩ = (#[.int .u8 3, .int .i64 n, .int .u64 (ws[n].toNat : Int), .int .u64 (B.toNat : Int)] : Array Value)[i]? := fun x i => blk_cell ((hf x).blk (blk_new _ _) (by simp)) i
  have HM : ∀ x, MemAt (f x) M ws bs := fun x => (h.alloc _).ext0 (hf x)
  have HM' := hid HM
  clear HM hf
  repeat (refine lexX_step rfl rfl (fun K hK => ?_); go_simp; (try go_bits); (try (simp only [↓IntWalk.iteOmega]; go_simp)); (refine hK _ ?_; clear hK K))
  refine lexX_step rfl rfl (fun K hK => ?_); go_simp; refine ⟨_, fun x => ret_of (mWords_any M ws bs (f x) (HM'.out x)), hK _ ?_⟩; clear hK K
  repeat (refine lexX_step rfl rfl (fun K hK => ?_); go_simp; (try go_bits); (try (simp only [↓IntWalk.iteOmega]; go_simp)); (refine hK _ ?_; clear hK K))
  clear g3 HM'
  refine lexX_nil (fun w1 hw1 => ?_)
  have hx := ((Ext.refl [] w).alloc (.cells #[.int .u8 3, .int .i64 n, .int .u64 (ws[n].toNat : Int), .int .u64 (B.toNat : Int)] 120)).trans' hw1.of_drew
  have g1 : blk w1 w.heap.size = some (.cells #[.int .u8 3, .int .i64 n, .int .u64 (ws[n].toNat : Int), .int .u64 (B.toNat : Int)] 120 (0, 0)) := hw1.of_drew.blk (blk_new _ _) (by simp)
  have h1 := h.ext0 hx
  have HX := hid hx
  clear hx hw1
  have G1 := hid g1
  have H1 := hid h1
  clear g1 h1
  go_wp2_with fail
  refine wp_region_lit_lin [] [0,1,2,3,4,5,6,7,8,9,10,11,12,13,14,15,16,17,18] (Ext [] _) (Ext []) Try.mix (by kernel_rfl) (Ext.refl []) (fun _ _ _ => Ext.trans') (fun _ _ => Ext.trans') ((Ext.refl _ _).drew) (fun X _ f hf => ?_)
  have g3 : ∀ x i, (f x).cell? ⟨w.heap.size, i, none⟩ = (#[.int .u8 3, .int .i64 n, .int .u64 (ws[n].toNat : Int), .int .u64 (B.toNat : Int)] : Array Value)[i]? := fun x i => blk_cell ((hf x).blk G1.out (by simp)) i
  have g0 : ∀ x, (f x).cell? ⟨M.m, 0, none⟩ = some (.slice (some ⟨M.bw, 0, none⟩) ws.length (ws.length + M.pw.size)) := fun x => (H1.out.ext0 (hf x)).c0
  have gw : ∀ x, (f x).cell? ⟨M.bw, n, none⟩ = some (.int .u64 (ws[n].toNat : Int)) := fun x => (H1.out.ext0 (hf x)).cw hn
  clear hf
  repeat (refine lexX_step rfl rfl (fun K hK => ?_); go_simp; (try go_bits); (try (simp only [↓IntWalk.iteOmega]; go_simp)); (refine hK _ ?_; clear hK K))
  refine lexX_step rfl rfl (fun K hK => ?_); go_simp; refine ⟨_, fun x => ret_of (kinds_any (f x)), hK _ ?_⟩; clear hK K
  repeat (refine lexX_step rfl rfl (fun K hK => ?_); go_simp; (try go_bits); (try (simp only [↓IntWalk.iteOmega]; go_simp)); (refine hK _ ?_; clear hK K))
  refine lexX_step rfl rfl (fun K hK => ?_); go_simp; refine ⟨_, fun x => ret_of (kind3_hit ws[n] B 3 n (f x)), hK _ ?_⟩; clear hK K
  repeat (refine lexX_step rfl rfl (fun K hK => ?_); go_simp; (try go_bits); (try (simp only [↓IntWalk.iteOmega]; go_simp)); (refine hK _ ?_; clear hK K))
  refine lexX_nil (fun w2 hw2 => ?_)
  have x2 := (HX.out.trans' hw2.of_drew).mono (Y := [M.bw]) (by simp)
  have h2 := H1.out.ext0 hw2.of_drew
  have g2 := hw2.of_drew.blk G1.out (by simp)
  clear hw2 g3 g0 gw H1 G1 HX
  have HX := hid x2
  have H2 := hid h2
  have G2 := hid g2
  clear x2 h2 g2
  go_wp2_with fail
  refine wp_region_lit_lin [8] [0,1,2,3,4,5,6,7,8] (Ext [M.bw] _) (Ext []) Try.mix (by kernel_rfl) (Ext.refl []) (fun _ _ _ => Ext.trans') (fun _ _ h k => h.trans0 k) ((Ext.refl _ _).drew) (fun X _ f hf => ?_)
  have g3 : ∀ x i, (f x).cell? ⟨w.heap.size, i, none⟩ = (#[.int .u8 3, .int .i64 n, .int .u64 (ws[n].toNat : Int), .int .u64 (B.toNat : Int)] : Array Value)[i]? := fun x i => blk_cell ((hf x).blk G2.out (by simp; omega)) i
  have g0 : ∀ x, (f x).cell? ⟨M.m, 0, none⟩ = some (.slice (some ⟨M.bw, 0, none⟩) ws.length (ws.length + M.pw.size)) := fun x => (hf x).cell' H2.out.c0 (by simpa using H2.out.ne_mw)
  clear hf
  repeat (refine lexX_step rfl rfl (fun K hK => ?_); go_simp; (try go_bits); (try (simp only [↓IntWalk.iteOmega]; go_simp)); (refine hK _ ?_; clear hK K))
  refine lexX_effp rfl rfl rfl (fun w3 hw3 K hK => ?_)
  have h3 := H2.out.ext0 hw3.of_drew
  have q1 := h3.cw hn
  have q2 := blk_free h3.hw n
  go_simp
  refine ⟨(hw3.of_drew.mono (Y := [M.bw]) (by simp)).setCell (.inl (by simp)) _, hK _ _ ?_⟩
  clear hK K
  refine lexX_nil (fun w4 hw4 => ?_)
  have h4 := (h3.setW n (B) hn).ext0 hw4
  have x4 := ((HX.out.trans0 hw3.of_drew).setCell (p := ⟨M.bw, n, none⟩) (.inl (by simp)) (.int .u64 ((B).toNat : Int))).trans0 hw4
  clear hw4 h3 q1 q2 hw3 g3 g0 HX H2 G2
  have HX := hid x4
  have H4 := hid h4
  clear x4 h4
  go_wp2
  go_ret2
  exact ⟨rfl, H4.out, HX.out⟩
set_option maxRecDepth 100000 in
set_option maxHeartbeats 2000000 in
theorem do_casm (M : MemId) (ws : List UInt64) (bs : List UInt8) (n : Nat) (A B : UInt64) (w : World) (h : MemAt w M ws bs) (hn : n < ws.length) (hx : ws[n] ≠ A) :
    Calls Try.prog 79 #[.pointer (some ⟨M.m, 0, none⟩), accV 3 n A B] w (fun e w' => e = .returned (.tuple #[.int .u64 0, .bool true]) ∧ MemAt w' M (ws.set n (ws[n])) bs ∧ Ext [M.bw] w w') := by
  have hE := Ext.refl []
  have HN := hid hx
  clear hx
  have d0 := h.c0
  have hl := h.wl
  have n1 : (decide ((n : Int) < 0)) = false := by simp
  have n2 : (decide ((ws.length : Int) ≤ (n : Int))) = false := by simp; omega
  unfold accV
  go_enter Try.func79, Try.ntmps79
  go_wp2_with fail
  have L0 := blk_lt h.hm
  have L1 := blk_lt h.hw
  refine wp_region_lit_lin [] [0,1,2,3,4,5,6,7,8,9] (Ext [] _) (Ext []) Try.mix (by kernel_rfl) (Ext.refl []) (fun _ _ _ => Ext.trans') (fun _ _ => Ext.trans') ((Ext.refl _ _).drew) (fun X _ f hf => ?_)
  have g3 : ∀ x i, (f x).cell? ⟨w.heap.size, i, none⟩ = (#[.int .u8 3, .int .i64 n, .int .u64 (A.toNat : Int), .int .u64 (B.toNat : Int)] : Array Value)[i]? := fun x i => blk_cell ((hf x).blk (blk_new _ _) (by simp)) i
  have HM : ∀ x, MemAt (f x) M ws bs := fun x => (h.alloc _).ext0 (hf x)
  have HM' := hid HM
  clear HM hf
  repeat (refine lexX_step rfl rfl (fun K hK => ?_); go_simp; (try go_bits); (try (simp only [↓IntWalk.iteOmega]; go_simp)); (refine hK _ ?_; clear hK K))
  refine lexX_step rfl rfl (fun K hK => ?_); go_simp; refine ⟨_, fun x => ret_of (mWords_any M ws bs (f x) (HM'.out x)), hK _ ?_⟩; clear hK K
  repeat (refine lexX_step rfl rfl (fun K hK => ?_); go_simp; (try go_bits); (try (simp only [↓IntWalk.iteOmega]; go_simp)); (refine hK _ ?_; clear hK K))
  clear g3 HM'
  refine lexX_nil (fun w1 hw1 => ?_)
  have hx := ((Ext.refl [] w).alloc (.cells #[.int .u8 3, .int .i64 n, .int .u64 (A.toNat : Int), .int .u64 (B.toNat : Int)] 120)).trans' hw1.of_drew
  have g1 : blk w1 w.heap.size = some (.cells #[.int .u8 3, .int .i64 n, .int .u64 (A.toNat : Int), .int .u64 (B.toNat : Int)] 120 (0, 0)) := hw1.of_drew.blk (blk_new _ _) (by simp)
  have h1 := h.ext0 hx
  have HX := hid hx
  clear hx hw1
  have G1 := hid g1
  have H1 := hid h1
  clear g1 h1
  go_wp2_with fail
  refine wp_region_lit_lin [] [0,1,2,3,4,5,6,7,8,9,10,11,12,13,14,15,16,17,18] (Ext [] _) (Ext []) Try.mix (by kernel_rfl) (Ext.refl []) (fun _ _ _ => Ext.trans') (fun _ _ => Ext.trans') ((Ext.refl _ _).drew) (fun X _ f hf => ?_)
  have g3 : ∀ x i, (f x).cell? ⟨w.heap.size, i, none⟩ = (#[.int .u8 3, .int .i64 n, .int .u64 (A.toNat : Int), .int .u64 (B.toNat : Int)] : Array Value)[i]? := fun x i => blk_cell ((hf x).blk G1.out (by simp)) i
  have g0 : ∀ x, (f x).cell? ⟨M.m, 0, none⟩ = some (.slice (some ⟨M.bw, 0, none⟩) ws.length (ws.length + M.pw.size)) := fun x => (H1.out.ext0 (hf x)).c0
  have gw : ∀ x, (f x).cell? ⟨M.bw, n, none⟩ = some (.int .u64 (ws[n].toNat : Int)) := fun x => (H1.out.ext0 (hf x)).cw hn
  clear hf
  repeat (refine lexX_step rfl rfl (fun K hK => ?_); go_simp; (try go_bits); (try (simp only [↓IntWalk.iteOmega]; go_simp)); (refine hK _ ?_; clear hK K))
  refine lexX_step rfl rfl (fun K hK => ?_); go_simp; refine ⟨_, fun x => ret_of (kinds_any (f x)), hK _ ?_⟩; clear hK K
  repeat (refine lexX_step rfl rfl (fun K hK => ?_); go_simp; (try go_bits); (try (simp only [↓IntWalk.iteOmega]; go_simp)); (refine hK _ ?_; clear hK K))
  refine lexX_step rfl rfl (fun K hK => ?_); go_simp; refine ⟨_, fun x => ret_of (kind3_miss ws[n] A B 3 n (f x) HN.out), hK _ ?_⟩; clear hK K
  repeat (refine lexX_step rfl rfl (fun K hK => ?_); go_simp; (try go_bits); (try (simp only [↓IntWalk.iteOmega]; go_simp)); (refine hK _ ?_; clear hK K))
  refine lexX_nil (fun w2 hw2 => ?_)
  have x2 := (HX.out.trans' hw2.of_drew).mono (Y := [M.bw]) (by simp)
  have h2 := H1.out.ext0 hw2.of_drew
  have g2 := hw2.of_drew.blk G1.out (by simp)
  clear hw2 g3 g0 gw H1 G1 HX
  have HX := hid x2
  have H2 := hid h2
  have G2 := hid g2
  clear x2 h2 g2
  go_wp2_with fail
  refine wp_region_lit_lin [8] [0,1,2,3,4,5,6,7,8] (Ext [M.bw] _) (Ext []) Try.mix (by kernel_rfl) (Ext.refl []) (fun _ _ _ => Ext.trans') (fun _ _ h k => h.trans0 k) ((Ext.refl _ _).drew) (fun X _ f hf => ?_)
  have g3 : ∀ x i, (f x).cell? ⟨w.heap.size, i, none⟩ = (#[.int .u8 3, .int .i64 n, .int .u64 (A.toNat : Int), .int .u64 (B.toNat : Int)] : Array Value)[i]? := fun x i => blk_cell ((hf x).blk G2.out (by simp; omega)) i
  have g0 : ∀ x, (f x).cell? ⟨M.m, 0, none⟩ = some (.slice (some ⟨M.bw, 0, none⟩) ws.length (ws.length + M.pw.size)) := fun x => (hf x).cell' H2.out.c0 (by simpa using H2.out.ne_mw)
  clear hf
  repeat (refine lexX_step rfl rfl (fun K hK => ?_); go_simp; (try go_bits); (try (simp only [↓IntWalk.iteOmega]; go_simp)); (refine hK _ ?_; clear hK K))
  refine lexX_effp rfl rfl rfl (fun w3 hw3 K hK => ?_)
  have h3 := H2.out.ext0 hw3.of_drew
  have q1 := h3.cw hn
  have q2 := blk_free h3.hw n
  go_simp
  refine ⟨(hw3.of_drew.mono (Y := [M.bw]) (by simp)).setCell (.inl (by simp)) _, hK _ _ ?_⟩
  clear hK K
  refine lexX_nil (fun w4 hw4 => ?_)
  have h4 := (h3.setW n (ws[n]) hn).ext0 hw4
  have x4 := ((HX.out.trans0 hw3.of_drew).setCell (p := ⟨M.bw, n, none⟩) (.inl (by simp)) (.int .u64 ((ws[n]).toNat : Int))).trans0 hw4
  clear hw4 h3 q1 q2 hw3 g3 g0 HX H2 G2
  have HX := hid x4
  have H4 := hid h4
  clear x4 h4
  go_wp2
  go_ret2
  exact ⟨rfl, H4.out, HX.out⟩
set_option maxRecDepth 100000 in
set_option maxHeartbeats 2000000 in
theorem do_add (M : MemId) (ws : List UInt64) (bs : List UInt8) (n : Nat) (A B : UInt64) (w : World) (h : MemAt w M ws bs) (hn : n < ws.length) :
    Calls Try.prog 79 #[.pointer (some ⟨M.m, 0, none⟩), accV 4 n A B] w (fun e w' => e = .returned (.tuple #[.int .u64 (ws[n].toNat : Int), .bool true]) ∧ MemAt w' M (ws.set n (ws[n] + A)) bs ∧ Ext [M.bw] w w') := by
  have hE := Ext.refl []
  have d0 := h.c0
  have hl := h.wl
  have n1 : (decide ((n : Int) < 0)) = false := by simp
  have n2 : (decide ((ws.length : Int) ≤ (n : Int))) = false := by simp; omega
  unfold accV
  go_enter Try.func79, Try.ntmps79
  go_wp2_with fail
  have L0 := blk_lt h.hm
  have L1 := blk_lt h.hw
  refine wp_region_lit_lin [] [0,1,2,3,4,5,6,7,8,9] (Ext [] _) (Ext []) Try.mix (by kernel_rfl) (Ext.refl []) (fun _ _ _ => Ext.trans') (fun _ _ => Ext.trans') ((Ext.refl _ _).drew) (fun X _ f hf => ?_)
  have g3 : ∀ x i, (f x).cell? ⟨w.heap.size, i, none⟩ = (#[.int .u8 4, .int .i64 n, .int .u64 (A.toNat : Int), .int .u64 (B.toNat : Int)] : Array Value)[i]? := fun x i => blk_cell ((hf x).blk (blk_new _ _) (by simp)) i
  have HM : ∀ x, MemAt (f x) M ws bs := fun x => (h.alloc _).ext0 (hf x)
  have HM' := hid HM
  clear HM hf
  repeat (refine lexX_step rfl rfl (fun K hK => ?_); go_simp; (try go_bits); (try (simp only [↓IntWalk.iteOmega]; go_simp)); (refine hK _ ?_; clear hK K))
  refine lexX_step rfl rfl (fun K hK => ?_); go_simp; refine ⟨_, fun x => ret_of (mWords_any M ws bs (f x) (HM'.out x)), hK _ ?_⟩; clear hK K
  repeat (refine lexX_step rfl rfl (fun K hK => ?_); go_simp; (try go_bits); (try (simp only [↓IntWalk.iteOmega]; go_simp)); (refine hK _ ?_; clear hK K))
  clear g3 HM'
  refine lexX_nil (fun w1 hw1 => ?_)
  have hx := ((Ext.refl [] w).alloc (.cells #[.int .u8 4, .int .i64 n, .int .u64 (A.toNat : Int), .int .u64 (B.toNat : Int)] 120)).trans' hw1.of_drew
  have g1 : blk w1 w.heap.size = some (.cells #[.int .u8 4, .int .i64 n, .int .u64 (A.toNat : Int), .int .u64 (B.toNat : Int)] 120 (0, 0)) := hw1.of_drew.blk (blk_new _ _) (by simp)
  have h1 := h.ext0 hx
  have HX := hid hx
  clear hx hw1
  have G1 := hid g1
  have H1 := hid h1
  clear g1 h1
  go_wp2_with fail
  refine wp_region_lit_lin [] [0,1,2,3,4,5,6,7,8,9,10,11,12,13,14,15,16,17,18] (Ext [] _) (Ext []) Try.mix (by kernel_rfl) (Ext.refl []) (fun _ _ _ => Ext.trans') (fun _ _ => Ext.trans') ((Ext.refl _ _).drew) (fun X _ f hf => ?_)
  have g3 : ∀ x i, (f x).cell? ⟨w.heap.size, i, none⟩ = (#[.int .u8 4, .int .i64 n, .int .u64 (A.toNat : Int), .int .u64 (B.toNat : Int)] : Array Value)[i]? := fun x i => blk_cell ((hf x).blk G1.out (by simp)) i
  have g0 : ∀ x, (f x).cell? ⟨M.m, 0, none⟩ = some (.slice (some ⟨M.bw, 0, none⟩) ws.length (ws.length + M.pw.size)) := fun x => (H1.out.ext0 (hf x)).c0
  have gw : ∀ x, (f x).cell? ⟨M.bw, n, none⟩ = some (.int .u64 (ws[n].toNat : Int)) := fun x => (H1.out.ext0 (hf x)).cw hn
  clear hf
  repeat (refine lexX_step rfl rfl (fun K hK => ?_); go_simp; (try go_bits); (try (simp only [↓IntWalk.iteOmega]; go_simp)); (refine hK _ ?_; clear hK K))
  refine lexX_step rfl rfl (fun K hK => ?_); go_simp; refine ⟨_, fun x => ret_of (kinds_any (f x)), hK _ ?_⟩; clear hK K
  repeat (refine lexX_step rfl rfl (fun K hK => ?_); go_simp; (try go_bits); (try (simp only [↓IntWalk.iteOmega]; go_simp)); (refine hK _ ?_; clear hK K))
  refine lexX_step rfl rfl (fun K hK => ?_); go_simp; refine ⟨_, fun x => ret_of (kind4_any ws[n] A B 4 n (f x)), hK _ ?_⟩; clear hK K
  repeat (refine lexX_step rfl rfl (fun K hK => ?_); go_simp; (try go_bits); (try (simp only [↓IntWalk.iteOmega]; go_simp)); (refine hK _ ?_; clear hK K))
  refine lexX_nil (fun w2 hw2 => ?_)
  have x2 := (HX.out.trans' hw2.of_drew).mono (Y := [M.bw]) (by simp)
  have h2 := H1.out.ext0 hw2.of_drew
  have g2 := hw2.of_drew.blk G1.out (by simp)
  clear hw2 g3 g0 gw H1 G1 HX
  have HX := hid x2
  have H2 := hid h2
  have G2 := hid g2
  clear x2 h2 g2
  go_wp2_with fail
  refine wp_region_lit_lin [8] [0,1,2,3,4,5,6,7,8] (Ext [M.bw] _) (Ext []) Try.mix (by kernel_rfl) (Ext.refl []) (fun _ _ _ => Ext.trans') (fun _ _ h k => h.trans0 k) ((Ext.refl _ _).drew) (fun X _ f hf => ?_)
  have g3 : ∀ x i, (f x).cell? ⟨w.heap.size, i, none⟩ = (#[.int .u8 4, .int .i64 n, .int .u64 (A.toNat : Int), .int .u64 (B.toNat : Int)] : Array Value)[i]? := fun x i => blk_cell ((hf x).blk G2.out (by simp; omega)) i
  have g0 : ∀ x, (f x).cell? ⟨M.m, 0, none⟩ = some (.slice (some ⟨M.bw, 0, none⟩) ws.length (ws.length + M.pw.size)) := fun x => (hf x).cell' H2.out.c0 (by simpa using H2.out.ne_mw)
  clear hf
  repeat (refine lexX_step rfl rfl (fun K hK => ?_); go_simp; (try go_bits); (try (simp only [↓IntWalk.iteOmega]; go_simp)); (refine hK _ ?_; clear hK K))
  refine lexX_effp rfl rfl rfl (fun w3 hw3 K hK => ?_)
  have h3 := H2.out.ext0 hw3.of_drew
  have q1 := h3.cw hn
  have q2 := blk_free h3.hw n
  go_simp
  refine ⟨(hw3.of_drew.mono (Y := [M.bw]) (by simp)).setCell (.inl (by simp)) _, hK _ _ ?_⟩
  clear hK K
  refine lexX_nil (fun w4 hw4 => ?_)
  have h4 := (h3.setW n (ws[n] + A) hn).ext0 hw4
  have x4 := ((HX.out.trans0 hw3.of_drew).setCell (p := ⟨M.bw, n, none⟩) (.inl (by simp)) (.int .u64 ((ws[n] + A).toNat : Int))).trans0 hw4
  clear hw4 h3 q1 q2 hw3 g3 g0 HX H2 G2
  have HX := hid x4
  have H4 := hid h4
  clear x4 h4
  go_wp2
  go_ret2
  exact ⟨rfl, H4.out, HX.out⟩
end Go.Proofs.Ytjdbknnacaacaaa
namespace Go.Proofs.Ytjdbknnacaacaaa
open Go Go.RowKit
set_option linter.unusedSimpArgs false
set_option linter.unusedVariables false
attribute [local go_sem] kindsAt1 kindsAt2 kindsAt3 kindsAt4
set_option maxRecDepth 100000 in
set_option maxHeartbeats 2000000 in
theorem do_neg1 (M : MemId) (ws : List UInt64) (bs : List UInt8) (n : Int) (A B : UInt64) (w : World) (h : MemAt w M ws bs) (hn : n < 0) :
    Calls Try.prog 79 #[.pointer (some ⟨M.m, 0, none⟩), accV 1 n A B] w (Ret (.tuple #[.int .u64 0, .bool false]) (Ext [] w)) := by
  have hE := Ext.refl []
  have hl := h.wl
  have hl' := h.bl
  have n1 : (decide (n < 0)) = true := by simpa using hn
  unfold accV
  go_enter Try.func79, Try.ntmps79
  go_wp2_with fail
  have L0 := blk_lt h.hm
  refine wp_region_lit_lin [] [0,1,2,3,4,5,6,7,8,9] (Ext [] _) (Ext []) Try.mix (by kernel_rfl) (Ext.refl []) (fun _ _ _ => Ext.trans') (fun _ _ => Ext.trans') ((Ext.refl _ _).drew) (fun X _ f hf => ?_)
  have g3 : ∀ x i, (f x).cell? ⟨w.heap.size, i, none⟩ = (#[.int .u8 1, .int .i64 n, .int .u64 (A.toNat : Int), .int .u64 (B.toNat : Int)] : Array Value)[i]? := fun x i => blk_cell ((hf x).blk (blk_new _ _) (by simp)) i
  have HM : ∀ x, MemAt (f x) M ws bs := fun x => (h.alloc _).ext0 (hf x)
  have HM' := hid HM
  clear HM hf
  repeat (refine lexX_step rfl rfl (fun K hK => ?_); go_simp; (try go_bits); (try (simp only [↓IntWalk.iteOmega]; go_simp)); (refine hK _ ?_; clear hK K))
  clear g3 HM'
  refine lexX_nil (fun w1 hw1 => ?_)
  have HX := hid (((Ext.refl [] w).alloc (.cells #[.int .u8 1, .int .i64 n, .int .u64 (A.toNat : Int), .int .u64 (B.toNat : Int)] 120)).trans' hw1.of_drew)
  clear hw1
  go_wp2
  go_ret2
  exact ⟨rfl, HX.out⟩
set_option maxRecDepth 100000 in
set_option maxHeartbeats 2000000 in
theorem do_far1 (M : MemId) (ws : List UInt64) (bs : List UInt8) (n : Int) (A B : UInt64) (w : World) (h : MemAt w M ws bs) (hn : (ws.length : Int) ≤ n) :
    Calls Try.prog 79 #[.pointer (some ⟨M.m, 0, none⟩), accV 1 n A B] w (Ret (.tuple #[.int .u64 0, .bool false]) (Ext [] w)) := by
  have hE := Ext.refl []
  have hl := h.wl
  have hl' := h.bl
  have n1 : (decide (n < 0)) = false := by simp; omega
  have n2 : (decide ((ws.length : Int) ≤ n)) = true := by simpa using hn
  unfold accV
  go_enter Try.func79, Try.ntmps79
  go_wp2_with fail
  have L0 := blk_lt h.hm
  refine wp_region_lit_lin [] [0,1,2,3,4,5,6,7,8,9] (Ext [] _) (Ext []) Try.mix (by kernel_rfl) (Ext.refl []) (fun _ _ _ => Ext.trans') (fun _ _ => Ext.trans') ((Ext.refl _ _).drew) (fun X _ f hf => ?_)
  have g3 : ∀ x i, (f x).cell? ⟨w.heap.size, i, none⟩ = (#[.int .u8 1, .int .i64 n, .int .u64 (A.toNat : Int), .int .u64 (B.toNat : Int)] : Array Value)[i]? := fun x i => blk_cell ((hf x).blk (blk_new _ _) (by simp)) i
  have HM : ∀ x, MemAt (f x) M ws bs := fun x => (h.alloc _).ext0 (hf x)
  have HM' := hid HM
  clear HM hf
  repeat (refine lexX_step rfl rfl (fun K hK => ?_); go_simp; (try go_bits); (try (simp only [↓IntWalk.iteOmega]; go_simp)); (refine hK _ ?_; clear hK K))
  refine lexX_step rfl rfl (fun K hK => ?_); go_simp; refine ⟨_, fun x => ret_of (mWords_any M ws bs (f x) (HM'.out x)), hK _ ?_⟩; clear hK K
  repeat (refine lexX_step rfl rfl (fun K hK => ?_); go_simp; (try go_bits); (try (simp only [↓IntWalk.iteOmega]; go_simp)); (refine hK _ ?_; clear hK K))
  clear g3 HM'
  refine lexX_nil (fun w1 hw1 => ?_)
  have HX := hid (((Ext.refl [] w).alloc (.cells #[.int .u8 1, .int .i64 n, .int .u64 (A.toNat : Int), .int .u64 (B.toNat : Int)] 120)).trans' hw1.of_drew)
  clear hw1
  go_wp2
  go_ret2
  exact ⟨rfl, HX.out⟩
set_option maxRecDepth 100000 in
set_option maxHeartbeats 2000000 in
theorem do_neg2 (M : MemId) (ws : List UInt64) (bs : List UInt8) (n : Int) (A B : UInt64) (w : World) (h : MemAt w M ws bs) (hn : n < 0) :
    Calls Try.prog 79 #[.pointer (some ⟨M.m, 0, none⟩), accV 2 n A B] w (Ret (.tuple #[.int .u64 0, .bool false]) (Ext [] w)) := by
  have hE := Ext.refl []
  have hl := h.wl
  have hl' := h.bl
  have n1 : (decide (n < 0)) = true := by simpa using hn
  unfold accV
  go_enter Try.func79, Try.ntmps79
  go_wp2_with fail
  have L0 := blk_lt h.hm
  refine wp_region_lit_lin [] [0,1,2,3,4,5,6,7,8,9] (Ext [] _) (Ext []) Try.mix (by kernel_rfl) (Ext.refl []) (fun _ _ _ => Ext.trans') (fun _ _ => Ext.trans') ((Ext.refl _ _).drew) (fun X _ f hf => ?_)
  have g3 : ∀ x i, (f x).cell? ⟨w.heap.size, i, none⟩ = (#[.int .u8 2, .int .i64 n, .int .u64 (A.toNat : Int), .int .u64 (B.toNat : Int)] : Array Value)[i]? := fun x i => blk_cell ((hf x).blk (blk_new _ _) (by simp)) i
  have HM : ∀ x, MemAt (f x) M ws bs := fun x => (h.alloc _).ext0 (hf x)
  have HM' := hid HM
  clear HM hf
  repeat (refine lexX_step rfl rfl (fun K hK => ?_); go_simp; (try go_bits); (try (simp only [↓IntWalk.iteOmega]; go_simp)); (refine hK _ ?_; clear hK K))
  clear g3 HM'
  refine lexX_nil (fun w1 hw1 => ?_)
  have HX := hid (((Ext.refl [] w).alloc (.cells #[.int .u8 2, .int .i64 n, .int .u64 (A.toNat : Int), .int .u64 (B.toNat : Int)] 120)).trans' hw1.of_drew)
  clear hw1
  go_wp2
  go_ret2
  exact ⟨rfl, HX.out⟩
set_option maxRecDepth 100000 in
set_option maxHeartbeats 2000000 in
theorem do_far2 (M : MemId) (ws : List UInt64) (bs : List UInt8) (n : Int) (A B : UInt64) (w : World) (h : MemAt w M ws bs) (hn : (ws.length : Int) ≤ n) :
    Calls Try.prog 79 #[.pointer (some ⟨M.m, 0, none⟩), accV 2 n A B] w (Ret (.tuple #[.int .u64 0, .bool false]) (Ext [] w)) := by
  have hE := Ext.refl []
  have hl := h.wl
  have hl' := h.bl
  have n1 : (decide (n < 0)) = false := by simp; omega
  have n2 : (decide ((ws.length : Int) ≤ n)) = true := by simpa using hn
  unfold accV
  go_enter Try.func79, Try.ntmps79
  go_wp2_with fail
  have L0 := blk_lt h.hm
  refine wp_region_lit_lin [] [0,1,2,3,4,5,6,7,8,9] (Ext [] _) (Ext []) Try.mix (by kernel_rfl) (Ext.refl []) (fun _ _ _ => Ext.trans') (fun _ _ => Ext.trans') ((Ext.refl _ _).drew) (fun X _ f hf => ?_)
  have g3 : ∀ x i, (f x).cell? ⟨w.heap.size, i, none⟩ = (#[.int .u8 2, .int .i64 n, .int .u64 (A.toNat : Int), .int .u64 (B.toNat : Int)] : Array Value)[i]? := fun x i => blk_cell ((hf x).blk (blk_new _ _) (by simp)) i
  have HM : ∀ x, MemAt (f x) M ws bs := fun x => (h.alloc _).ext0 (hf x)
  have HM' := hid HM
  clear HM hf
  repeat (refine lexX_step rfl rfl (fun K hK => ?_); go_simp; (try go_bits); (try (simp only [↓IntWalk.iteOmega]; go_simp)); (refine hK _ ?_; clear hK K))
  refine lexX_step rfl rfl (fun K hK => ?_); go_simp; refine ⟨_, fun x => ret_of (mWords_any M ws bs (f x) (HM'.out x)), hK _ ?_⟩; clear hK K
  repeat (refine lexX_step rfl rfl (fun K hK => ?_); go_simp; (try go_bits); (try (simp only [↓IntWalk.iteOmega]; go_simp)); (refine hK _ ?_; clear hK K))
  clear g3 HM'
  refine lexX_nil (fun w1 hw1 => ?_)
  have HX := hid (((Ext.refl [] w).alloc (.cells #[.int .u8 2, .int .i64 n, .int .u64 (A.toNat : Int), .int .u64 (B.toNat : Int)] 120)).trans' hw1.of_drew)
  clear hw1
  go_wp2
  go_ret2
  exact ⟨rfl, HX.out⟩
set_option maxRecDepth 100000 in
set_option maxHeartbeats 2000000 in
theorem do_neg3 (M : MemId) (ws : List UInt64) (bs : List UInt8) (n : Int) (A B : UInt64) (w : World) (h : MemAt w M ws bs) (hn : n < 0) :
    Calls Try.prog 79 #[.pointer (some ⟨M.m, 0, none⟩), accV 3 n A B] w (Ret (.tuple #[.int .u64 0, .bool false]) (Ext [] w)) := by
  have hE := Ext.refl []
  have hl := h.wl
  have hl' := h.bl
  have n1 : (decide (n < 0)) = true := by simpa using hn
  unfold accV
  go_enter Try.func79, Try.ntmps79
  go_wp2_with fail
  have L0 := blk_lt h.hm
  refine wp_region_lit_lin [] [0,1,2,3,4,5,6,7,8,9] (Ext [] _) (Ext []) Try.mix (by kernel_rfl) (Ext.refl []) (fun _ _ _ => Ext.trans') (fun _ _ => Ext.trans') ((Ext.refl _ _).drew) (fun X _ f hf => ?_)
  have g3 : ∀ x i, (f x).cell? ⟨w.heap.size, i, none⟩ = (#[.int .u8 3, .int .i64 n, .int .u64 (A.toNat : Int), .int .u64 (B.toNat : Int)] : Array Value)[i]? := fun x i => blk_cell ((hf x).blk (blk_new _ _) (by simp)) i
  have HM : ∀ x, MemAt (f x) M ws bs := fun x => (h.alloc _).ext0 (hf x)
  have HM' := hid HM
  clear HM hf
  repeat (refine lexX_step rfl rfl (fun K hK => ?_); go_simp; (try go_bits); (try (simp only [↓IntWalk.iteOmega]; go_simp)); (refine hK _ ?_; clear hK K))
  clear g3 HM'
  refine lexX_nil (fun w1 hw1 => ?_)
  have HX := hid (((Ext.refl [] w).alloc (.cells #[.int .u8 3, .int .i64 n, .int .u64 (A.toNat : Int), .int .u64 (B.toNat : Int)] 120)).trans' hw1.of_drew)
  clear hw1
  go_wp2
  go_ret2
  exact ⟨rfl, HX.out⟩
set_option maxRecDepth 100000 in
set_option maxHeartbeats 2000000 in
theorem do_far3 (M : MemId) (ws : List UInt64) (bs : List UInt8) (n : Int) (A B : UInt64) (w : World) (h : MemAt w M ws bs) (hn : (ws.length : Int) ≤ n) :
    Calls Try.prog 79 #[.pointer (some ⟨M.m, 0, none⟩), accV 3 n A B] w (Ret (.tuple #[.int .u64 0, .bool false]) (Ext [] w)) := by
  have hE := Ext.refl []
  have hl := h.wl
  have hl' := h.bl
  have n1 : (decide (n < 0)) = false := by simp; omega
  have n2 : (decide ((ws.length : Int) ≤ n)) = true := by simpa using hn
  unfold accV
  go_enter Try.func79, Try.ntmps79
  go_wp2_with fail
  have L0 := blk_lt h.hm
  refine wp_region_lit_lin [] [0,1,2,3,4,5,6,7,8,9] (Ext [] _) (Ext []) Try.mix (by kernel_rfl) (Ext.refl []) (fun _ _ _ => Ext.trans') (fun _ _ => Ext.trans') ((Ext.refl _ _).drew) (fun X _ f hf => ?_)
  have g3 : ∀ x i, (f x).cell? ⟨w.heap.size, i, none⟩ = (#[.int .u8 3, .int .i64 n, .int .u64 (A.toNat : Int), .int .u64 (B.toNat : Int)] : Array Value)[i]? := fun x i => blk_cell ((hf x).blk (blk_new _ _) (by simp)) i
  have HM : ∀ x, MemAt (f x) M ws bs := fun x => (h.alloc _).ext0 (hf x)
  have HM' := hid HM
  clear HM hf
  repeat (refine lexX_step rfl rfl (fun K hK => ?_); go_simp; (try go_bits); (try (simp only [↓IntWalk.iteOmega]; go_simp)); (refine hK _ ?_; clear hK K))
  refine lexX_step rfl rfl (fun K hK => ?_); go_simp; refine ⟨_, fun x => ret_of (mWords_any M ws bs (f x) (HM'.out x)), hK _ ?_⟩; clear hK K
  repeat (refine lexX_step rfl rfl (fun K hK => ?_); go_simp; (try go_bits); (try (simp only [↓IntWalk.iteOmega]; go_simp)); (refine hK _ ?_; clear hK K))
  clear g3 HM'
  refine lexX_nil (fun w1 hw1 => ?_)
  have HX := hid (((Ext.refl [] w).alloc (.cells #[.int .u8 3, .int .i64 n, .int .u64 (A.toNat : Int), .int .u64 (B.toNat : Int)] 120)).trans' hw1.of_drew)
  clear hw1
  go_wp2
  go_ret2
  exact ⟨rfl, HX.out⟩
set_option maxRecDepth 100000 in
set_option maxHeartbeats 2000000 in
theorem do_neg4 (M : MemId) (ws : List UInt64) (bs : List UInt8) (n : Int) (A B : UInt64) (w : World) (h : MemAt w M ws bs) (hn : n < 0) :
    Calls Try.prog 79 #[.pointer (some ⟨M.m, 0, none⟩), accV 4 n A B] w (Ret (.tuple #[.int .u64 0, .bool false]) (Ext [] w)) := by
  have hE := Ext.refl []
  have hl := h.wl
  have hl' := h.bl
  have n1 : (decide (n < 0)) = true := by simpa using hn
  unfold accV
  go_enter Try.func79, Try.ntmps79
  go_wp2_with fail
  have L0 := blk_lt h.hm
  refine wp_region_lit_lin [] [0,1,2,3,4,5,6,7,8,9] (Ext [] _) (Ext []) Try.mix (by kernel_rfl) (Ext.refl []) (fun _ _ _ => Ext.trans') (fun _ _ => Ext.trans') ((Ext.refl _ _).drew) (fun X _ f hf => ?_)
  have g3 : ∀ x i, (f x).cell? ⟨w.heap.size, i, none⟩ = (#[.int .u8 4, .int .i64 n, .int .u64 (A.toNat : Int), .int .u64 (B.toNat : Int)] : Array Value)[i]? := fun x i => blk_cell ((hf x).blk (blk_new _ _) (by simp)) i
  have HM : ∀ x, MemAt (f x) M ws bs := fun x => (h.alloc _).ext0 (hf x)
  have HM' := hid HM
  clear HM hf
  repeat (refine lexX_step rfl rfl (fun K hK => ?_); go_simp; (try go_bits); (try (simp only [↓IntWalk.iteOmega]; go_simp)); (refine hK _ ?_; clear hK K))
  clear g3 HM'
  refine lexX_nil (fun w1 hw1 => ?_)
  have HX := hid (((Ext.refl [] w).alloc (.cells #[.int .u8 4, .int .i64 n, .int .u64 (A.toNat : Int), .int .u64 (B.toNat : Int)] 120)).trans' hw1.of_drew)
  clear hw1
  go_wp2
  go_ret2
  exact ⟨rfl, HX.out⟩
set_option maxRecDepth 100000 in
set_option maxHeartbeats 2000000 in
theorem do_far4 (M : MemId) (ws : List UInt64) (bs : List UInt8) (n : Int) (A B : UInt64) (w : World) (h : MemAt w M ws bs) (hn : (ws.length : Int) ≤ n) :
    Calls Try.prog 79 #[.pointer (some ⟨M.m, 0, none⟩), accV 4 n A B] w (Ret (.tuple #[.int .u64 0, .bool false]) (Ext [] w)) := by
  have hE := Ext.refl []
  have hl := h.wl
  have hl' := h.bl
  have n1 : (decide (n < 0)) = false := by simp; omega
  have n2 : (decide ((ws.length : Int) ≤ n)) = true := by simpa using hn
  unfold accV
  go_enter Try.func79, Try.ntmps79
  go_wp2_with fail
  have L0 := blk_lt h.hm
  refine wp_region_lit_lin [] [0,1,2,3,4,5,6,7,8,9] (Ext [] _) (Ext []) Try.mix (by kernel_rfl) (Ext.refl []) (fun _ _ _ => Ext.trans') (fun _ _ => Ext.trans') ((Ext.refl _ _).drew) (fun X _ f hf => ?_)
  have g3 : ∀ x i, (f x).cell? ⟨w.heap.size, i, none⟩ = (#[.int .u8 4, .int .i64 n, .int .u64 (A.toNat : Int), .int .u64 (B.toNat : Int)] : Array Value)[i]? := fun x i => blk_cell ((hf x).blk (blk_new _ _) (by simp)) i
  have HM : ∀ x, MemAt (f x) M ws bs := fun x => (h.alloc _).ext0 (hf x)
  have HM' := hid HM
  clear HM hf
  repeat (refine lexX_step rfl rfl (fun K hK => ?_); go_simp; (try go_bits); (try (simp only [↓IntWalk.iteOmega]; go_simp)); (refine hK _ ?_; clear hK K))
  refine lexX_step rfl rfl (fun K hK => ?_); go_simp; refine ⟨_, fun x => ret_of (mWords_any M ws bs (f x) (HM'.out x)), hK _ ?_⟩; clear hK K
  repeat (refine lexX_step rfl rfl (fun K hK => ?_); go_simp; (try go_bits); (try (simp only [↓IntWalk.iteOmega]; go_simp)); (refine hK _ ?_; clear hK K))
  clear g3 HM'
  refine lexX_nil (fun w1 hw1 => ?_)
  have HX := hid (((Ext.refl [] w).alloc (.cells #[.int .u8 4, .int .i64 n, .int .u64 (A.toNat : Int), .int .u64 (B.toNat : Int)] 120)).trans' hw1.of_drew)
  clear hw1
  go_wp2
  go_ret2
  exact ⟨rfl, HX.out⟩
end Go.Proofs.Ytjdbknnacaacaaa
namespace Go.Proofs.Ytjdbknnacaacaaa
open Go Go.RowKit
set_option linter.unusedSimpArgs false
set_option linter.unusedVariables false
def MemNew (w : World) (ws : List UInt64) (bs : List UInt8) (e : Ending) (w' : World) : Prop :=
  ∃ M : MemId, e = .returned (.tuple #[.pointer (some ⟨M.m, 0, none⟩), .int .i64 0]) ∧ MemAt w' M ws bs ∧ Ext [] w w' ∧ w.heap.size ≤ M.m ∧ w.heap.size ≤ M.bw ∧ w.heap.size ≤ M.bb
theorem made_w (a : Nat) : madeCells #[.int .u64 0] (a * 1) = wcells (List.replicate a 0) := by
  apply Array.ext_getElem?
  intro j
  by_cases h : j < a
  · simp [madeCells, wcells, h, Nat.mod_one]
  · simp [madeCells, wcells, h]
theorem made_b (a : Nat) : madeCells #[.int .u8 0] (a * 1) = bcells (List.replicate a 0) := by
  apply Array.ext_getElem?
  intro j
  by_cases h : j < a
  · simp [madeCells, bcells, h, Nat.mod_one]
  · simp [madeCells, bcells, h]
theorem Try.infoU64 : (Try.prog.info? 30).map (fun i => (i.zero, i.size, i.bytes)) = some (some (.int .u64 0), 1, 8) := by kernel_rfl
theorem Try.infoU8 : (Try.prog.info? 5).map (fun i => (i.zero, i.size, i.bytes)) = some (some (.int .u8 0), 1, 1) := by kernel_rfl
theorem make_w (a : Nat) (ha : a ≤ 2097152) (v : World) : (Instr.makeSlice 116 (.int .i64 a) (.int .i64 a)).run Try.prog v = .ok (.slice (some ⟨v.heap.size, 0, none⟩) a a) (v.alloc (.cells (wcells (List.replicate a 0)) 30)) := by
  obtain ⟨i, hi, hz, hs, hb⟩ := info_parts Try.infoU64
  have h := run_make (P := Try.prog) v 116 30 i _ Try.underlying116 hi hz .i64 .i64 (a : Int) (a : Int) (by omega) (by omega) (by rw [hb]; omega) (by omega)
  rw [h, hs, ← made_w]; rfl
theorem make_b (a : Nat) (ha : a ≤ 1048576) (v : World) : (Instr.makeSlice 151 (.int .i64 a) (.int .i64 a)).run Try.prog v = .ok (.slice (some ⟨v.heap.size, 0, none⟩) a a) (v.alloc (.cells (bcells (List.replicate a 0)) 5)) := by
  obtain ⟨i, hi, hz, hs, hb⟩ := info_parts Try.infoU8
  have h := run_make (P := Try.prog) v 151 5 i _ Try.underlying151 hi hz .i64 .i64 (a : Int) (a : Int) (by omega) (by omega) (by rw [hb]; omega) (by omega)
  rw [h, hs, ← made_b]; rfl
set_option maxRecDepth 100000 in
set_option maxHeartbeats 1000000 in
theorem mNew_any (a b : Nat) (w : World) (ha : a ≤ 2097152) (hb : b ≤ 1048576) :
    Calls Try.prog 114 #[.int .i64 a, .int .i64 b] w (MemNew w (List.replicate a 0) (List.replicate b 0)) := by
  have hm1 := make_w a ha
  have hm2 := make_b b hb
  go_enter Try.func114, Try.ntmps114
  go_wp2_with fail
  go_region
  · go_wp2
    go_ret2
    refine ⟨⟨w.heap.size + 1 + 1, w.heap.size, w.heap.size + 1, #[], #[]⟩, rfl, ⟨?_, ?_, ?_, by simpa using ha, by simpa using hb⟩, ?_, by simp; omega, by simp, by simp⟩
    · simp [go_sem, memC, List.length_replicate]
    · simp [go_sem]
    · simp [go_sem]
    · exact ((((Ext.refl [] w).alloc _).alloc _).alloc _).drew
  · go_wp2
    go_ret2
    refine ⟨⟨w.heap.size + 1 + 1, w.heap.size + 1, w.heap.size, #[], #[]⟩, rfl, ⟨?_, ?_, ?_, by simpa using ha, by simpa using hb⟩, ?_, by simp; omega, by simp, by simp⟩
    · simp [go_sem, memC, List.length_replicate]
    · simp [go_sem]
    · simp [go_sem]
    · exact ((((Ext.refl [] w).alloc _).alloc _).alloc _).drew
def wAt (ws : List UInt64) (n : Int) : Option UInt64 := if n < 0 then none else ws[n.toNat]?
def kNow (k : Nat) (x A B : UInt64) : UInt64 := match k with
  | 1 => x | 2 => A | 3 => if x = A then B else x | _ => x + A
def kTold (k : Nat) (x A : UInt64) : UInt64 := match k with
  | 1 => x | 2 => 0 | 3 => if x = A then 1 else 0 | _ => x
def wT (k : Nat) (n : Int) (A : UInt64) (ws : List UInt64) : UInt64 := match wAt ws n with
  | none => 0 | some x => kTold k x A
def wS (k : Nat) (n : Int) (A B : UInt64) (ws : List UInt64) : List UInt64 := match wAt ws n with
  | none => ws | some x => ws.set n.toNat (kNow k x A B)
theorem wAt_in {ws : List UInt64} {n : Nat} (h : n < ws.length) : wAt ws n = some ws[n] := by unfold wAt; rw [if_neg (by omega)]; simp [h]
theorem wAt_neg {ws : List UInt64} {n : Int} (h : n < 0) : wAt ws n = none := if_pos h
theorem wAt_far {ws : List UInt64} {n : Int} (h : (ws.length : Int) ≤ n) : wAt ws n = none := by unfold wAt; rw [if_neg (by omega)]; simp; omega
theorem wS_length (k : Nat) (n : Int) (A B : UInt64) (ws : List UInt64) : (wS k n A B ws).length = ws.length := by unfold wS; split <;> simp
theorem set_same {ws : List UInt64} {n : Nat} (h : n < ws.length) : ws.set n ws[n] = ws := by
  apply List.ext_getElem?; intro j
  rw [List.getElem?_set]; split
  · rename_i e; subst e; simp [h]
  · rfl
def DoSaid (M : MemId) (k : Nat) (n : Int) (A B : UInt64) (ws : List UInt64) (bs : List UInt8) (w : World) (e : Ending) (w' : World) : Prop :=
  e = .returned (.tuple #[.int .u64 ((wT k n A ws).toNat : Int), .bool (wAt ws n).isSome]) ∧ MemAt w' M (wS k n A B ws) bs ∧ Ext [M.bw] w w'
theorem do_word (M : MemId) (ws : List UInt64) (bs : List UInt8) (k : Nat) (kv : Int) (n : Int) (A B : UInt64) (w : World) (h : MemAt w M ws bs) (hkv : kv = k) (hk1 : 1 ≤ k) (hk : k ≤ 4) :
    Calls Try.prog 79 #[.pointer (some ⟨M.m, 0, none⟩), accV kv n A B] w (DoSaid M k n A B ws bs w) := by
  subst hkv
  by_cases h0 : n < 0
  · have hn := wAt_neg (ws := ws) h0
    have key : Calls Try.prog 79 #[.pointer (some ⟨M.m, 0, none⟩), accV k n A B] w (Ret (.tuple #[.int .u64 0, .bool false]) (Ext [] w)) := by
      match k, hk1, hk with
      | 1, _, _ => exact do_neg1 M ws bs n A B w h h0
      | 2, _, _ => exact do_neg2 M ws bs n A B w h h0
      | 3, _, _ => exact do_neg3 M ws bs n A B w h h0
      | 4, _, _ => exact do_neg4 M ws bs n A B w h h0
    refine key.mono fun e w' ⟨he, hx⟩ => ⟨?_, ?_, hx.mono (by simp)⟩
    · simp only [wT, hn]; exact he
    · simp only [wS, hn]; exact h.ext0 hx
  by_cases h1 : (ws.length : Int) ≤ n
  · have hn := wAt_far h1
    have key : Calls Try.prog 79 #[.pointer (some ⟨M.m, 0, none⟩), accV k n A B] w (Ret (.tuple #[.int .u64 0, .bool false]) (Ext [] w)) := by
      match k, hk1, hk with
      | 1, _, _ => exact do_far1 M ws bs n A B w h h1
      | 2, _, _ => exact do_far2 M ws bs n A B w h h1
      | 3, _, _ => exact do_far3 M ws bs n A B w h h1
      | 4, _, _ => exact do_far4 M ws bs n A B w h h1
    refine key.mono fun e w' ⟨he, hx⟩ => ⟨?_, ?_, hx.mono (by simp)⟩
    · simp only [wT, hn]; exact he
    · simp only [wS, hn]; exact h.ext0 hx
  · obtain ⟨m, rfl⟩ := Int.eq_ofNat_of_zero_le (show 0 ≤ n by omega)
    have hm : m < ws.length := by omega
    have hn := wAt_in hm
    unfold DoSaid
    simp only [wT, wS, hn, Int.toNat_natCast, Option.isSome_some]
    match k, hk1, hk with
    | 1, _, _ => exact do_load M ws bs m A B w h hm
    | 2, _, _ => exact do_store M ws bs m A B w h hm
    | 3, _, _ =>
      by_cases hx : ws[m] = A
      · subst hx
        simp only [kTold, kNow, if_true]
        exact do_cash M ws bs m B w h hm
      · simp only [kTold, kNow, hx, if_false]
        exact do_casm M ws bs m A B w h hm hx
    | 4, _, _ => exact do_add M ws bs m A B w h hm
set_option maxHeartbeats 1000000 in
theorem mWord_any (M : MemId) (ws : List UInt64) (bs : List UInt8) (n : Int) (w : World) (h : MemAt w M ws bs) :
    Calls Try.prog 25 #[.pointer (some ⟨M.m, 0, none⟩), .int .i64 n] w (fun e w' => e = .returned (.int .u64 ((wT 1 n 0 ws).toNat : Int)) ∧ MemAt w' M ws bs ∧ Ext [M.bw] w w') := by
  have hs : wS 1 n 0 0 ws = ws := by
    unfold wS
    split
    · rfl
    · rename_i x hx
      unfold wAt at hx
      split at hx
      · cases hx
      · obtain ⟨hl, rfl⟩ := List.getElem?_eq_some_iff.1 hx
        exact set_same hl
  have H := hid (do_word M ws bs 1 1 n 0 0 w h rfl (by omega) (by omega))
  have HS := hid hs
  clear h hs
  go_enter Try.func25, Try.ntmps25
  go_wp2_with fail
  refine H.out.mono ?_
  rintro e w1 ⟨rfl, h1, x1⟩
  rw [HS.out] at h1
  have H1 := hid h1
  have X1 := hid x1
  clear h1 x1
  go_wp2
  go_ret
  exact ⟨rfl, H1.out, X1.out⟩
end Go.Proofs.Ytjdbknnacaacaaa
namespace Go.Proofs.Ytjdbknnacaacaaa
open Go Go.RowKit
set_option linter.unusedSimpArgs false
set_option linter.unusedVariables false
def pgU (k n : Nat) : UInt64 := UInt64.ofNat (k + n * 8)
def kd (w : UInt64) : Nat := w.toNat / 2 ^ 0 % 2 ^ 3
def ln (w : UInt64) : Nat := w.toNat / 2 ^ 3 % 2 ^ 10
abbrev Rn := Nat × Nat
def tot : List Rn → Nat
  | [] => 0
  | r :: L => r.2 + tot L
def pw : List Rn → Nat → UInt64
  | [], _ => 0
  | r :: L, x => if x = 0 then pgU r.1 r.2 else if x < r.2 then (if r.1 = 1 ∧ x + 1 = r.2 then pgU 2 r.2 else 0) else pw L (x - r.2)
def Kd (q : Nat) : Prop := q = 1 ∨ q = 4 ∨ q = 5 ∨ (q % 8192 = 3 ∧ q < 8388608)
def Pos (L : List Rn) : Prop := ∀ r ∈ L, 1 ≤ r.2 ∧ Kd r.1
theorem Pos.cons {r : Rn} {L : List Rn} : Pos (r :: L) ↔ (1 ≤ r.2 ∧ Kd r.1) ∧ Pos L := by simp [Pos]
theorem Pos.append {A C : List Rn} : Pos (A ++ C) ↔ Pos A ∧ Pos C := by
  simp only [Pos, List.mem_append]
  exact ⟨fun h => ⟨fun r hr => h r (.inl hr), fun r hr => h r (.inr hr)⟩, fun ⟨h1, h2⟩ r hr => hr.elim (h1 r) (h2 r)⟩
theorem Pos.nil : Pos [] := fun _ h => by cases h
def fr (n : Nat) : List Rn := match n with | 0 => [] | n + 1 => [(1, n + 1)]
def up (P : Nat → UInt64) (x : Nat) (v : UInt64) : Nat → UInt64 := fun y => if y = x then v else P y
def bn (L : List Rn) (b : Nat) : Nat := L.countP fun r => decide (r.1 = 1 ∧ r.2.log2 = b)
def bw (L : List Rn) (b : Nat) : UInt64 := UInt64.ofNat (bn L b)
def ad (B : Nat → UInt64) (x : Nat) (v : UInt64) : Nat → UInt64 := fun y => if y = x then B y + v else B y
end Go.Proofs.Ytjdbknnacaacaaa
namespace Go.Proofs.Ytjdbknnacaacaaa
open Go
set_option linter.unusedSimpArgs false
set_option linter.unusedVariables false
structure Emb where
  blk : Nat → Nat
  base : Nat → Nat
  slack : Nat → Nat
def adr (F : Emb) (a : Addr) : Addr := ⟨F.blk a.block, F.base a.block + a.off, a.spot⟩
def ren (F : Emb) : Value → Value
  | .pointer (some a) => .pointer (some (adr F a))
  | .slice (some a) n c => .slice (some (adr F a)) n (c + F.slack a.block)
  | .iface t v => .iface t (ren F v)
  | .agg cs => .agg (cs.attach.map fun x => ren F x.1)
  | .tuple cs => .tuple (cs.attach.map fun x => ren F x.1)
  | .func fn xs ys => .func fn (xs.attach.map fun x => ren F x.1) (ys.attach.map fun x => ren F x.1)
  | v => v
termination_by v => SizeOf.sizeOf v
decreasing_by all_goals (simp_wf; first | omega | (have := Array.sizeOf_lt_of_mem x.2; omega))
section
variable (F : Emb)
@[simp] theorem ren_bool (b : Bool) : ren F (.bool b) = .bool b := by rw [ren]; all_goals simp
@[simp] theorem ren_int (k : IntKind) (n : Int) : ren F (.int k n) = .int k n := by rw [ren]; all_goals simp
@[simp] theorem ren_string (s : ByteArray) : ren F (.string s) = .string s := by rw [ren]; all_goals simp
@[simp] theorem ren_pnone : ren F (.pointer none) = .pointer none := by rw [ren]; all_goals simp
@[simp] theorem ren_psome (a : Addr) : ren F (.pointer (some a)) = .pointer (some (adr F a)) := by rw [ren]
@[simp] theorem ren_snone (n c : Nat) : ren F (.slice none n c) = .slice none n c := by rw [ren]; all_goals simp
@[simp] theorem ren_ssome (a : Addr) (n c : Nat) : ren F (.slice (some a) n c) = .slice (some (adr F a)) n (c + F.slack a.block) := by rw [ren]
@[simp] theorem ren_iface (t : TypeId) (v : Value) : ren F (.iface t v) = .iface t (ren F v) := by rw [ren]
@[simp] theorem ren_nilIface : ren F .nilIface = .nilIface := by rw [ren]; all_goals simp
@[simp] theorem ren_nilFunc : ren F .nilFunc = .nilFunc := by rw [ren]; all_goals simp
@[simp] theorem ren_agg (cs : Array Value) : ren F (.agg cs) = .agg (cs.map (ren F)) := by rw [ren]; simp
@[simp] theorem ren_tuple (cs : Array Value) : ren F (.tuple cs) = .tuple (cs.map (ren F)) := by rw [ren]; simp
@[simp] theorem ren_func (fn : Fn) (xs ys : Array Value) : ren F (.func fn xs ys) = .func fn (xs.map (ren F)) (ys.map (ren F)) := by rw [ren]; simp
theorem ren_undef : ren F undef = undef := by simp [undef]
end
def plainB : Value → Bool
  | .bool _ | .int _ _ | .string _ | .pointer none | .slice none _ _ | .nilIface | .nilFunc => true
  | .agg cs => cs.all fun | .bool _ | .int _ _ | .string _ | .pointer none | .slice none _ _ | .nilIface | .nilFunc => true | _ => false
  | .tuple cs => cs.all fun | .bool _ | .int _ _ | .string _ | .pointer none | .slice none _ _ | .nilIface | .nilFunc => true | .agg ds => (ds.all fun | .bool _ | .int _ _ | .string _ | .pointer none | .slice none _ _ | .nilIface | .nilFunc => true | _ => false) | _ => false
  | _ => false
theorem plain_cells {cs : Array Value} (F : Emb) (h : (cs.all fun | .bool _ | .int _ _ | .string _ | .pointer none | .slice none _ _ | .nilIface | .nilFunc => true | _ => false) = true) : cs.map (ren F) = cs := by
  apply Array.ext
  · simp
  · intro i h1 h2
    simp only [Array.getElem_map]
    have := (Array.all_eq_true.1 h) i h2
    revert this
    generalize cs[i] = v
    intro hv
    split at hv <;> simp_all
theorem plain_parts {cs : Array Value} (F : Emb) (h : (cs.all fun | .bool _ | .int _ _ | .string _ | .pointer none | .slice none _ _ | .nilIface | .nilFunc => true | .agg ds => (ds.all fun | .bool _ | .int _ _ | .string _ | .pointer none | .slice none _ _ | .nilIface | .nilFunc => true | _ => false) | _ => false) = true) : cs.map (ren F) = cs := by
  apply Array.ext
  · simp
  · intro i h1 h2
    simp only [Array.getElem_map]
    have := (Array.all_eq_true.1 h) i h2
    revert this
    generalize cs[i] = v
    intro hv
    split at hv
    case h_8 ds => rw [ren_agg, plain_cells F hv]
    all_goals simp_all
theorem ren_plain {v : Value} (F : Emb) (h : plainB v = true) : ren F v = v := by
  unfold plainB at h
  split at h <;> first | (cases h; done) | (simp; done) | (rw [ren_agg, plain_cells F h]; done) | (rw [ren_tuple, plain_parts F h])
structure Blk where
  cells : List Value
  elem : TypeId
  ro : Bool := false
  grow : Option Nat := some 0
structure AHeap where
  get : Nat → Option Blk
  next : Nat
def AHeap.none : AHeap := ⟨fun _ => Option.none, 0⟩
def AHeap.add (h : AHeap) (b : Blk) : AHeap := ⟨fun n => if n = h.next then some b else h.get n, h.next + 1⟩
def AHeap.addO (h : AHeap) (b : Option Blk) : AHeap := ⟨fun n => if n = h.next then b else h.get n, h.next + 1⟩
def AHeap.put (h : AHeap) (n : Nat) (b : Blk) : AHeap := ⟨fun m => if m = n then some b else h.get m, h.next⟩
def AHeap.putO (h : AHeap) (n : Nat) (b : Option Blk) : AHeap := ⟨fun m => if m = n then b else h.get m, h.next⟩
theorem AHeap.addO_get (h : AHeap) (b : Option Blk) (n : Nat) : (h.addO b).get n = if n = h.next then b else h.get n := rfl
theorem AHeap.putO_get (h : AHeap) (m : Nat) (b : Option Blk) (n : Nat) : (h.putO m b).get n = if n = m then b else h.get n := rfl
theorem AHeap.put_get (h : AHeap) (m : Nat) (b : Blk) (n : Nat) : (h.put m b).get n = if n = m then some b else h.get n := rfl
theorem AHeap.put_next (h : AHeap) (m : Nat) (b : Blk) : (h.put m b).next = h.next := rfl
def tySize (P : Program) (t : TypeId) : Option Nat := (P.info? t).map (·.size)
def tyZero (P : Program) (t : TypeId) : Option Value := (P.info? t).bind (·.zero)
def tyAgg (P : Program) (t : TypeId) : Option Bool := (P.underlying t).map fun | .struct _ | .array _ _ => true | _ => false
def tyField (P : Program) (t : TypeId) (i : Nat) : Option (Nat × TypeId) := match P.underlying t with
  | some (.struct fs) => (fs[i]?).map fun f => (f.offset, f.type)
  | _ => none
def tySlice (P : Program) (t : TypeId) : Option TypeId := match P.underlying t with | some (.slice e) => some e | _ => none
def tyArray (P : Program) (t : TypeId) : Option (Nat × TypeId) := match P.underlying t with | some (.array n e) => some (n, e) | _ => none
def tyBytes (P : Program) (t : TypeId) : Option Nat := (P.info? t).map (·.bytes)
def placesL (P : Program) : List Field → Option (List (Nat × Nat))
  | [] => some []
  | f :: fs => match tySize P f.type, placesL P fs with
    | some s, some l => some ((f.offset, s) :: l)
    | _, _ => none
def tyPlace (P : Program) (t : TypeId) : Option (Nat → Option (Nat × Nat)) := match P.underlying t with
  | some (.struct fs) => (placesL P fs.toList).map fun l i => l[i]?
  | some (.array _ e) => (tySize P e).map fun s i => some (i * s, s)
  | _ => none
def partA (P : Program) (t : TypeId) (cs : Array Value) (off : Nat) : Option Value := match tyAgg P t, tySize P t with
  | some true, some s => some (.agg (cs.extract off (off + s)))
  | some false, _ => cs[off]?
  | _, _ => none
def loadA (P : Program) (h : AHeap) (t : TypeId) (a : Addr) : Option Value := match h.get a.block, tyAgg P t, tySize P t with
  | some b, some true, some s => if a.spot = none ∧ a.off = 0 ∧ b.cells.length = s then some (.agg b.cells.toArray) else if a.spot = none ∧ a.off + s ≤ b.cells.length then some (.agg ((b.cells.drop a.off).take s).toArray) else none
  | some b, some false, some _ => if a.spot = none then b.cells[a.off]? else none
  | _, _, _ => none
def cellB : Value → Bool
  | .agg _ | .tuple _ => false
  | _ => true
def spliceA (l : List Value) (off : Nat) (vs : List Value) : List Value := l.take off ++ vs ++ l.drop (off + vs.length)
def storeA (P : Program) (h : AHeap) (t : TypeId) (a : Addr) (v : Value) : Option AHeap := match h.get a.block, tySize P t with
  | some b, some s =>
    if a.spot = none ∧ b.ro = false then
      (match v with
      | .agg cs => if cs.size = s ∧ a.off + s ≤ b.cells.length ∧ cs.toList.all cellB = true then some (h.put a.block { b with cells := spliceA b.cells a.off cs.toList }) else none
      | .tuple _ => none
      | v => if s = 1 ∧ a.off < b.cells.length then some (h.put a.block { b with cells := b.cells.set a.off v }) else none)
    else none
  | _, _ => none
def intA (op : BinOp) (k : IntKind) (x y : Int) : Option Value := match op with
  | .add => some (.int k (k.wrap (x + y)))
  | .sub => some (.int k (k.wrap (x - y)))
  | .mul => some (.int k (k.wrap (x * y)))
  | .quo => if y = 0 then none else some (.int k (k.wrap (x.tdiv y)))
  | .rem => if y = 0 then none else some (.int k (x.tmod y))
  | .and => some (.int k (k.wrap (BitVec.ofInt k.bits x &&& BitVec.ofInt k.bits y).toNat))
  | .or => some (.int k (k.wrap (BitVec.ofInt k.bits x ||| BitVec.ofInt k.bits y).toNat))
  | .xor => some (.int k (k.wrap (BitVec.ofInt k.bits x ^^^ BitVec.ofInt k.bits y).toNat))
  | .andNot => some (.int k (k.wrap (BitVec.ofInt k.bits x &&& ~~~ BitVec.ofInt k.bits y).toNat))
  | .eql => some (.bool (x == y))
  | .neq => some (.bool (x != y))
  | .lss => some (.bool (decide (x < y)))
  | .leq => some (.bool (decide (x ≤ y)))
  | .gtr => some (.bool (decide (x > y)))
  | .geq => some (.bool (decide (x ≥ y)))
  | _ => none
def shiftA (op : BinOp) (k : IntKind) (x y : Int) : Option Value := match op with
  | .shl => if y < 0 then none else some (.int k (k.wrap (x * 2 ^ min y.toNat k.bits)))
  | .shr => if y < 0 then none else some (.int k (x.fdiv (2 ^ min y.toNat k.bits)))
  | _ => none
def binA (op : BinOp) (x y : Value) : Option Value := match x, y with
  | .int k a, .int k' b => (match op with
    | .shl | .shr => shiftA op k a b
    | _ => if k = k' then intA op k a b else none)
  | _, _ => none
def unA (op : UnOp) (x : Value) : Option Value := match op, x with
  | .neg, .int k n => some (.int k (k.wrap (0 - n)))
  | .xor, .int k n => some (.int k (k.wrap (BitVec.ofInt k.bits (if k.signed then -1 else k.max) ^^^ BitVec.ofInt k.bits n).toNat))
  | .not, .bool b => some (.bool !b)
  | _, _ => none
def evA (tmps : List Value) : Operand → Value
  | .tmp t => tmps.getD t undef
  | .const v => v
  | .global _ => undef
  | .func f => .func (.func f) #[] #[]
def operB : Operand → Bool
  | .tmp _ | .func _ => true
  | .const v => plainB v
  | .global _ => false
def methA (P : Program) (t : TypeId) (name : String) : Option FuncId := match P.info? t, P.underlying t with
  | some i, some (.pointer _) => (match i.methods.find? (·.name == name) with
    | some m => if m.path.isEmpty then (match m.func with | some (f, true) => some f | _ => none) else none
    | none => none)
  | _, _ => none
def eqNilA (P : Program) (t : TypeId) (y : Operand) (a b : Value) : Option Bool := match P.underlying t, a, b with
  | some (.slice _), .slice a _ _, .slice none _ _ => some a.isNone
  | some (.pointer _), .pointer a, .pointer none => some a.isNone
  | some (.interface _), .iface _ _, .nilIface => some false
  | some (.interface _), .nilIface, .nilIface => (match y with | .const _ => some true | _ => none)
  | some (.func _ _ _), .func _ _ _, .nilFunc => some false
  | some (.func _ _ _), .nilFunc, .nilFunc => some true
  | _, _, _ => none
def eqFieldsA (P : Program) (xs ys : Array Value) : List Field → Option Bool
  | [] => some true
  | f :: fs => if f.name ≠ "_" ∧ tyAgg P f.type = some false then (match xs[f.offset]?, ys[f.offset]?, P.underlying f.type, eqFieldsA P xs ys fs with
    | some (.int k a), some (.int k' b), some (.int _), some r => if k = k' then some (a == b && r) else none
    | some (.bool a), some (.bool b), some .bool, some r => some (a == b && r)
    | some (.string a), some (.string b), some .string, some r => some (a == b && r)
    | _, _, _, _ => none) else none
def tyEqOK (P : Program) (t : TypeId) : Bool := !P.stoodInHeld t && !P.eqGuardType P.depth t
def tyFieldsL (P : Program) (t : TypeId) : Option (List Field) := match P.underlying t with | some (.struct fs) => some fs.toList | _ => none
def tyBool (P : Program) (t : TypeId) : Bool := match P.underlying t with | some .bool => true | _ => false
def tyText (P : Program) (t : TypeId) : Bool := match P.underlying t with | some .string => true | _ => false
def eqFlatA (P : Program) (t : TypeId) (a b : Value) : Option Bool := match a, b with
  | .agg xs, .agg ys => (match tyFieldsL P t with
    | some fs => if tyEqOK P t = true then eqFieldsA P xs ys fs else none
    | none => none)
  | .bool a, .bool b => if tyBool P t = true then some (a == b) else none
  | .string a, .string b => if tyText P t = true then some (a == b) else none
  | _, _ => none
def binOpA (P : Program) (op : BinOp) (t : TypeId) (y : Operand) (a b : Value) : Option Value := match binA op a b with
  | some v => some v
  | none => (match eqNilA P t y a b with
    | some r => (match op with
      | .eql => some (.bool r)
      | .neq => some (.bool !r)
      | _ => none)
    | none => (match op, eqFlatA P t a b with
      | .eql, some r => some (.bool r)
      | .neq, some r => some (.bool !r)
      | _, _ => none))
def fillA (place : Nat → Option (Nat × Nat)) (cells : List Value) : List (Nat × Value) → Option (List Value)
  | [] => some cells
  | (i, v) :: rest => match place i with
    | none => none
    | some (off, size) => if v.cells.size ≠ size ∨ off + v.cells.size > cells.length then none else fillA place (spliceA cells off v.cells.toList) rest
def nilCheckA (P : Program) : Value → Option Value
  | .pointer (some a) => some (.pointer (some a))
  | .func (.func f) xs ys => some (.func (.func f) xs ys)
  | .func (.method name) xs ys => (match (xs[0]? : Option Value) with
    | some (.iface t (.pointer _)) => (match methA P t name with | some _ => some (.func (.method name) xs ys) | none => none)
    | _ => none)
  | .iface t v => some (.iface t v)
  | _ => none
def fieldAddrA (P : Program) (t : TypeId) (x : Value) (i : Nat) : Option Value := match x, tyField P t i with
  | .pointer (some a), some (off, ft) => (match tySize P ft with
    | some (_ + 1) => if a.spot = none then some (.pointer (some ⟨a.block, a.off + off, none⟩)) else none
    | _ => none)
  | _, _ => none
def indexAddrA (P : Program) (t : TypeId) (x i : Value) : Option Value := match x, i with
  | .slice (some a) len _, .int _ n => (match tySlice P t with
    | some el => (match tySize P el with
      | some s => if a.spot = none ∧ 0 ≤ n ∧ n < len then some (.pointer (some ⟨a.block, a.off + n.toNat * s, none⟩)) else none
      | none => none)
    | none => none)
  | .pointer (some a), .int _ n => (match tyArray P t with
    | some (len, el) => (match tySize P el with
      | some s => if a.spot = none ∧ 0 ≤ n ∧ n < len then some (.pointer (some ⟨a.block, a.off + n.toNat * s, none⟩)) else none
      | none => none)
    | none => none)
  | _, _ => none
def tyConv (P : Program) (src dst : TypeId) : Option IntKind := match P.underlying src, P.underlying dst with
  | some _, some (.int k) => some k
  | _, _ => none
def convertA (P : Program) (src dst : TypeId) (x : Value) : Option Value := match x, tyConv P src dst with
  | .int _ n, some k => some (.int k (k.wrap n))
  | _, _ => none
def fieldA (P : Program) (t : TypeId) (x : Value) (i : Nat) : Option Value := match x, tyField P t i with
  | .agg cs, some (off, ft) => partA P ft cs off
  | _, _ => none
def indexA (P : Program) (t : TypeId) (x i : Value) : Option Value := match x, i, tyArray P t with
  | .agg cs, .int _ n, some (len, el) => (match tySize P el with
    | some s => if 0 ≤ n ∧ n < len then partA P el cs (n.toNat * s) else none
    | none => none)
  | .string s, .int _ n, none => (match P.underlying t with
    | some .string => if 0 ≤ n then (s[n.toNat]?).map (fun b => .int .u8 b.toNat) else none
    | _ => none)
  | _, _, _ => none
def lenA (P : Program) (t : TypeId) (x : Value) : Option Value := match x, tySlice P t with
  | .slice _ n _, some _ => some (.int .i64 n)
  | _, _ => none
def minA : List Value → Value → Option Value
  | [], v => some v
  | .int _ y :: l, .int k x => minA l (.int k (if y < x then y else x))
  | _, _ => none
def maxA : List Value → Value → Option Value
  | [], v => some v
  | .int _ y :: l, .int k x => maxA l (.int k (if y > x then y else x))
  | _, _ => none
def builtA (P : Program) (e : Operand → Value) (c : Call) : Option Value := match c.callee with
  | .builtin .len => (match c.args.toList, c.argTypes.toList with | [x], [t] => lenA P t (e x) | _, _ => none)
  | .builtin .min => (match c.args.toList with | x :: l => minA (l.map e) (e x) | _ => none)
  | .builtin .max => (match c.args.toList with | x :: l => maxA (l.map e) (e x) | _ => none)
  | _ => none
def arrayAtA (P : Program) (t : TypeId) (x : Value) : Option Value := match x, tyArray P t with
  | .slice (some a) len _, some (n, _) => if len < n then none else some (.pointer (some a))
  | _, _ => none
def boundA : Option Value → Nat → Option Nat
  | none, d => some d
  | some (.int _ n), _ => if 0 ≤ n then some n.toNat else none
  | _, _ => none
def sliceA (P : Program) (h : AHeap) (t : TypeId) (x : Value) (lo hi mx : Option Value) : Option Value := match mx, tySlice P t, tyArray P t, x with
  | none, some el, _, .slice (some a) len cap => (match boundA lo 0, boundA hi len, tySize P el with
    | some l, some r, some s => if l ≤ r ∧ r ≤ cap ∧ a.spot = none then
        (if l < cap ∨ l = 0 then (if l = 0 then some (.slice (some a) r cap) else some (.slice (some ⟨a.block, a.off + l * s, none⟩) (r - l) (cap - l)))
         else (match h.get a.block with | some b => if b.grow = some 0 then some (.slice (some a) 0 0) else none | none => none)) else none
    | _, _, _ => none)
  | none, some el, _, .slice none 0 0 => (match boundA lo 0, boundA hi 0, tySize P el with
    | some 0, some 0, some _ => some (.slice none 0 0)
    | _, _, _ => none)
  | none, none, some (n, el), .pointer (some a) => (match boundA lo 0, boundA hi n, tySize P el, h.get a.block with
    | some l, some r, some s, some b => if l ≤ r ∧ r ≤ n ∧ a.spot = none ∧ b.grow = some 0 then
        (if n = l then some (.slice (some a) 0 0) else some (.slice (some ⟨a.block, a.off + l * s, none⟩) (r - l) (n - l))) else none
    | _, _, _, _ => none)
  | _, _, _, _ => none
def buildA (P : Program) (t : TypeId) (parts : List (Nat × Value)) : Option Value := match tyZero P t, tyPlace P t with
  | some z, some pl => if plainB z then (fillA pl z.cells.toList parts).map fun cs => .agg cs.toArray else none
  | _, _ => none
def valA (P : Program) (e : Operand → Value) (h : AHeap) : Op → Option Value
  | .move x | .assign x => some (e x)
  | .pick c a b => (match e c with | .bool t => some (if t then e a else e b) | _ => none)
  | .extract t i => (match e t with | .tuple vs => vs[i]? | _ => none)
  | .binOp op t x y _ => binOpA P op t y (e x) (e y)
  | .unOp op _ x => unA op (e x)
  | .convert s d x => convertA P s d (e x)
  | .field t x i => fieldA P t (e x) i
  | .index t x i => indexA P t (e x) (e i)
  | .makeFunc fn xs ys => some (.func fn (xs.map e) (ys.map e))
  | .makeInterface t x => (match P.underlying t with | some (.interface _) => none | some _ => some (.iface t (e x)) | none => none)
  | .nilCheck x => nilCheckA P (e x)
  | .load t x => (match e x with | .pointer (some a) => loadA P h t a | _ => none)
  | .fieldAddr t x i => fieldAddrA P t (e x) i
  | .indexAddr t x i => indexAddrA P t (e x) (e i)
  | .call c => builtA P e c
  | .build t ps => buildA P t (ps.toList.map fun p => (p.1, e p.2))
  | .slice t x lo hi mx => sliceA P h t (e x) (lo.map e) (hi.map e) (mx.map e)
  | .sliceToArrayPointer t x => arrayAtA P t (e x)
  | _ => none
def callA (P : Program) (e : Operand → Value) : Op → Option (FuncId × Array Value)
  | .call { callee := .value f, args, .. } => (match e f with
    | .func (.func g) xs ys => some (g, xs ++ args.map e ++ ys)
    | .func (.method name) xs _ => (match xs.toList with
      | [.iface t (.pointer p)] => (match methA P t name with | some g => some (g, #[.pointer p] ++ args.map e) | none => none)
      | _ => none)
    | _ => none)
  | .call { callee := .invoke r name, args, .. } => (match e r with
    | .iface t (.pointer p) => (match methA P t name with | some f => some (f, #[.pointer p] ++ args.map e) | none => none)
    | _ => none)
  | _ => none
def zerosL (z : List Value) : Nat → List Value
  | 0 => []
  | n + 1 => z ++ zerosL z n
def cellsA (h : AHeap) (s : Nat) : Value → Option (List Value)
  | .slice none 0 0 => some []
  | .slice (some a) n _ => if n = 0 then some [] else if a.spot = none then (match h.get a.block with
    | some b => if a.off + n * s ≤ b.cells.length then some ((b.cells.drop a.off).take (n * s)) else none
    | none => none) else none
  | _ => none
def appendA (P : Program) (h : AHeap) (t : TypeId) (x y : Value) : Option (List Value × TypeId × Nat × Bool) := match tySlice P t with
  | some el => (match tySize P el, tyBytes P el, tyZero P el, cellsA h ((tySize P el).getD 0) x, cellsA h ((tySize P el).getD 0) y, x, y with
    | some (s + 1), some bs, some z, some olds, some news, .slice a sl sc, .slice _ n _ =>
      if plainB z = true ∧ z.cells.size = s + 1 ∧ bs ≤ 1048576 ∧ sc < sl + n ∧ sl + n ≤ 16777216 then (match a with
        | none => some (olds ++ news, el, sl + n, true)
        | some a => (match h.get a.block with
          | some b => if b.grow = some 0 then some (olds ++ news, el, sl + n, true)
            else if b.ro = false ∧ b.grow = some (s + 1) ∧ b.elem = el ∧ a.spot = none ∧ a.off + sc * (s + 1) = b.cells.length ∧ sl ≤ sc ∧ news.all cellB = true then some (olds ++ news, el, sl + n, false) else none
          | none => none))
      else none
    | _, _, _, _, _, _, _ => none)
  | none => none
def endA (P : Program) (h : AHeap) (t : TypeId) (x : Value) (lo hi : Option Value) (n : Nat) : Option (Value × Option Blk) := match tySlice P t, x with
  | some el, .slice (some a) len cap => (match boundA lo 0, boundA hi len, tySize P el, h.get a.block with
    | some l, some r, some _, b => if l = r ∧ r = cap ∧ 0 < l ∧ a.spot = none ∧ (b.bind (·.grow)) ≠ some 0 then some (.slice (some ⟨n, 0, none⟩) 0 0, none) else none
    | _, _, _, _ => none)
  | _, _ => none
def newA (P : Program) (e : Operand → Value) (h : AHeap) (n : Nat) : Op → Option (Value × Option Blk)
  | .alloc t => (match tyZero P t with | some z => if plainB z then some (.pointer (some ⟨n, 0, none⟩), some ⟨z.cells.toList, t, false, some 0⟩) else none | none => none)
  | .box t x => some (.pointer (some ⟨n, 0, none⟩), some ⟨(e x).cells.toList, t, false, some 0⟩)
  | .buildSlice t len ps => (match tySlice P t with
    | some el => (match tySize P el, tyZero P el with
      | some s, some z => if plainB z = true ∧ z.cells.size = s ∧ len * s ≤ 16777216 then
          (fillA (fun i => some (i * s, s)) (zerosL z.cells.toList len) (ps.toList.map fun p => (p.1, e p.2))).map fun cs => (.slice (some ⟨n, 0, none⟩) len len, some ⟨cs, el, false, some 0⟩)
        else none
      | _, _ => none)
    | none => none)
  | .makeSlice t l c => (match tySlice P t, e l, e c with
    | some el, .int _ l, .int _ c => (match tySize P el, tyZero P el, tyBytes P el with
      | some s, some z, some bs => if plainB z = true ∧ z.cells.size = s ∧ bs ≤ 1048576 ∧ 0 ≤ l ∧ l ≤ c ∧ c ≤ 16777216 then some (.slice (some ⟨n, 0, none⟩) l.toNat c.toNat, some ⟨zerosL z.cells.toList c.toNat, el, false, some 0⟩) else none
      | _, _, _ => none)
    | _, _, _ => none)
  | .call { callee := .builtin .append, args, argTypes } => (match args.toList, argTypes.toList with
    | [s, x], [t, t'] => if t = t' then (match appendA P h t (e s) (e x) with
      | some (news, el, need, true) => some (.slice (some ⟨n, 0, none⟩) need need, some ⟨news, el, false, tySize P el⟩)
      | _ => none) else none
    | _, _ => none)
  | .slice t x lo hi none => endA P h t (e x) (lo.map e) (hi.map e) n
  | _ => none
def wrA (P : Program) (e : Operand → Value) (h : AHeap) : Op → Option (Value × AHeap)
  | .store t x y => (match e x with | .pointer (some a) => (storeA P h t a (e y)).map fun h' => (undef, h') | _ => none)
  | .call { callee := .builtin .append, args, argTypes } => (match args.toList, argTypes.toList with
    | [x, y], [t, t'] => if t = t' then (match e x, tySlice P t, e y with
      | .slice none 0 0, some el, .slice _ 0 _ => (match tySize P el with | some _ => some (.slice none 0 0, h) | none => none)
      | .slice (some a) sl sc, some el, .slice b n c => (match tySize P el with
        | some s => if sl + n ≤ sc then (match n, cellsA h s (.slice b n c), h.get a.block with
            | 0, _, _ => some (.slice (some a) sl sc, h)
            | _, some news, some bk => if bk.ro = false ∧ a.spot = none ∧ a.off + sl * s + news.length ≤ bk.cells.length ∧ news.length = n * s ∧ news.all cellB = true then
                some (.slice (some a) (sl + n) sc, h.put a.block { bk with cells := spliceA bk.cells (a.off + sl * s) news }) else none
            | _, _, _ => none)
          else (match appendA P h t (e x) (e y) with
            | some (cs, el, need, false) => some (.slice (some ⟨h.next, 0, none⟩) need need, (h.putO a.block none).addO (some ⟨cs, el, false, tySize P el⟩))
            | _ => none)
        | none => none)
      | _, _, _ => none) else none
    | _, _ => none)
  | _ => none
end Go.Proofs.Ytjdbknnacaacaaa
