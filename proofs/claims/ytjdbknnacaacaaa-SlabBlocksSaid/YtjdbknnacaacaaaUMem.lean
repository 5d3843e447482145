/-
  Package mem: shared words and bytes. What a memory is in a world (MemAt); contracts of its functions.
  Conditions: the memory is there.
-/
import Derived.Test.YtjdbknnacaacaaaULin
import Derived.Laws.EntriesVeiled
import Derived.BigRegion
namespace Go.Proofs.Ytjdbknnacaacaaa
open Go Go.RowKit
set_option linter.unusedSimpArgs false
set_option linter.unusedVariables false
def wcells (ws : List UInt64) : Array Value := (ws.map fun x => Value.int .u64 (x.toNat : Int)).toArray
def bcells (bs : List UInt8) : Array Value := (bs.map fun x => Value.int .u8 (x.toNat : Int)).toArray
theorem wcells_at {ws : List UInt64} {i : Nat} (h : i < ws.length) : (wcells ws)[i]? = some (.int .u64 (ws[i].toNat : Int)) := by simp [wcells, h]
theorem bcells_at {bs : List UInt8} {i : Nat} (h : i < bs.length) : (bcells bs)[i]? = some (.int .u8 (bs[i].toNat : Int)) := by simp [bcells, h]
theorem wcells_size (ws : List UInt64) : (wcells ws).size = ws.length := by simp [wcells]
theorem bcells_size (bs : List UInt8) : (bcells bs).size = bs.length := by simp [bcells]
theorem wcells_in {ws : List UInt64} {p : Array Value} {i : Nat} (h : i < ws.length) : (wcells ws ++ p)[i]? = some (.int .u64 (ws[i].toNat : Int)) := by
  rw [Array.getElem?_append_left (by rw [wcells_size]; exact h), wcells_at h]
theorem bcells_in {bs : List UInt8} {p : Array Value} {i : Nat} (h : i < bs.length) : (bcells bs ++ p)[i]? = some (.int .u8 (bs[i].toNat : Int)) := by
  rw [Array.getElem?_append_left (by rw [bcells_size]; exact h), bcells_at h]
theorem wcells_set (ws : List UInt64) (i : Nat) (x : UInt64) : (wcells ws).setIfInBounds i (.int .u64 (x.toNat : Int)) = wcells (ws.set i x) := by
  simp [wcells, List.map_set]
theorem bcells_set (bs : List UInt8) (i : Nat) (x : UInt8) : (bcells bs).setIfInBounds i (.int .u8 (x.toNat : Int)) = bcells (bs.set i x) := by
  simp [bcells, List.map_set]
theorem wset_in {ws : List UInt64} {p : Array Value} {i : Nat} (h : i < ws.length) (x : UInt64) : (wcells ws ++ p).setIfInBounds i (.int .u64 (x.toNat : Int)) = wcells (ws.set i x) ++ p := by
  rw [Array.setIfInBounds_append_left (by rw [wcells_size]; exact h), wcells_set]
theorem bset_in {bs : List UInt8} {p : Array Value} {i : Nat} (h : i < bs.length) (x : UInt8) : (bcells bs ++ p).setIfInBounds i (.int .u8 (x.toNat : Int)) = bcells (bs.set i x) ++ p := by
  rw [Array.setIfInBounds_append_left (by rw [bcells_size]; exact h), bcells_set]
structure MemId where
  m : Nat
  bw : Nat
  bb : Nat
  pw : Array Value := #[]
  pb : Array Value := #[]
def memC (M : MemId) (ws : List UInt64) (bs : List UInt8) : Array Value :=
  #[.slice (some ⟨M.bw, 0, none⟩) ws.length (ws.length + M.pw.size), .slice (some ⟨M.bb, 0, none⟩) bs.length (bs.length + M.pb.size)]
structure MemAt (w : World) (M : MemId) (ws : List UInt64) (bs : List UInt8) : Prop where
  hm : blk w M.m = some (.cells (memC M ws bs) 153 (0, 0))
  hw : blk w M.bw = some (.cells (wcells ws ++ M.pw) 30 (0, 0))
  hb : blk w M.bb = some (.cells (bcells bs ++ M.pb) 5 (0, 0))
  wl : ws.length ≤ 2097152
  bl : bs.length ≤ 1048576
theorem cells_type {w : World} {a b : Nat} {c d : Array Value} {s t : TypeId} {f g : Nat × Nat} (h : blk w a = some (.cells c s f)) (k : blk w b = some (.cells d t g)) (hne : s ≠ t) : a ≠ b := by
  rintro rfl
  rw [h] at k
  injection k with k
  injection k with _ k _
  exact hne k
theorem MemAt.ext {w w' : World} {M : MemId} {ws : List UInt64} {bs : List UInt8} {X : List Nat} (h : MemAt w M ws bs) (k : Ext X w w') (h1 : M.m ∉ X) (h2 : M.bw ∉ X) (h3 : M.bb ∉ X) : MemAt w' M ws bs :=
  ⟨k.blk h.hm h1, k.blk h.hw h2, k.blk h.hb h3, h.wl, h.bl⟩
theorem MemAt.ext0 {w w' : World} {M : MemId} {ws : List UInt64} {bs : List UInt8} (h : MemAt w M ws bs) (k : Ext [] w w') : MemAt w' M ws bs := h.ext k (by simp) (by simp) (by simp)
theorem MemAt.ne_mw {w : World} {M : MemId} {ws : List UInt64} {bs : List UInt8} (h : MemAt w M ws bs) : M.m ≠ M.bw := cells_type h.hm h.hw (by decide)
theorem MemAt.ne_mb {w : World} {M : MemId} {ws : List UInt64} {bs : List UInt8} (h : MemAt w M ws bs) : M.m ≠ M.bb := cells_type h.hm h.hb (by decide)
theorem MemAt.ne_wb {w : World} {M : MemId} {ws : List UInt64} {bs : List UInt8} (h : MemAt w M ws bs) : M.bw ≠ M.bb := cells_type h.hw h.hb (by decide)
theorem MemAt.c0 {w : World} {M : MemId} {ws : List UInt64} {bs : List UInt8} (h : MemAt w M ws bs) : w.cell? ⟨M.m, 0, none⟩ = some (.slice (some ⟨M.bw, 0, none⟩) ws.length (ws.length + M.pw.size)) := blk_cell h.hm 0
theorem MemAt.c1 {w : World} {M : MemId} {ws : List UInt64} {bs : List UInt8} (h : MemAt w M ws bs) : w.cell? ⟨M.m, 1, none⟩ = some (.slice (some ⟨M.bb, 0, none⟩) bs.length (bs.length + M.pb.size)) := blk_cell h.hm 1
theorem MemAt.cw {w : World} {M : MemId} {ws : List UInt64} {bs : List UInt8} (h : MemAt w M ws bs) {i : Nat} (hi : i < ws.length) : w.cell? ⟨M.bw, i, none⟩ = some (.int .u64 (ws[i].toNat : Int)) := (blk_cell h.hw i).trans (wcells_in hi)
theorem MemAt.cb {w : World} {M : MemId} {ws : List UInt64} {bs : List UInt8} (h : MemAt w M ws bs) {i : Nat} (hi : i < bs.length) : w.cell? ⟨M.bb, i, none⟩ = some (.int .u8 (bs[i].toNat : Int)) := (blk_cell h.hb i).trans (bcells_in hi)
theorem MemAt.setW {w : World} {M : MemId} {ws : List UInt64} {bs : List UInt8} (h : MemAt w M ws bs) (i : Nat) (x : UInt64) (hi : i < ws.length) : MemAt (w.setCell ⟨M.bw, i, none⟩ (.int .u64 (x.toNat : Int))) M (ws.set i x) bs :=
  ⟨by rw [blk_set _ _ _ _ h.ne_mw, h.hm]; simp [memC], by rw [blk_setCell h.hw, wset_in hi], by rw [blk_set _ _ _ _ h.ne_wb.symm, h.hb], by simpa using h.wl, h.bl⟩
theorem MemAt.setB {w : World} {M : MemId} {ws : List UInt64} {bs : List UInt8} (h : MemAt w M ws bs) (i : Nat) (x : UInt8) (hi : i < bs.length) : MemAt (w.setCell ⟨M.bb, i, none⟩ (.int .u8 (x.toNat : Int))) M ws (bs.set i x) :=
  ⟨by rw [blk_set _ _ _ _ h.ne_mb, h.hm]; simp [memC], by rw [blk_set _ _ _ _ h.ne_wb, h.hw], by rw [blk_setCell h.hb, bset_in hi], h.wl, by simpa using h.bl⟩
theorem MemAt.drew {w : World} {M : MemId} {ws : List UInt64} {bs : List UInt8} (h : MemAt w M ws bs) : MemAt w.drew M ws bs := ⟨h.hm, h.hw, h.hb, h.wl, h.bl⟩
theorem MemAt.alloc {w : World} {M : MemId} {ws : List UInt64} {bs : List UInt8} (h : MemAt w M ws bs) (o : Obj) : MemAt (w.alloc o) M ws bs := h.ext0 ((Ext.refl [] w).alloc o)
def accV (k at' : Int) (A B : UInt64) : Value := .agg #[.int .u8 k, .int .i64 at', .int .u64 (A.toNat : Int), .int .u64 (B.toNat : Int)]
theorem u64_add (a b : UInt64) : IntKind.u64.wrap ((a.toNat : Int) + (b.toNat : Int)) = ((a + b).toNat : Int) := by
  have h := UInt64.toNat_add a b
  rw [IntKind.wrap_u64]; omega
theorem u64_eq (a b : UInt64) : ((a.toNat : Int) == (b.toNat : Int)) = (a == b) := by
  rw [Bool.eq_iff_iff]; simp only [beq_iff_eq]
  constructor
  · intro h; exact UInt64.toNat_inj.1 (by omega)
  · rintro rfl; rfl
theorem u64_ne (a b : UInt64) : ((a.toNat : Int) != (b.toNat : Int)) = (a != b) := by
  simp only [bne, u64_eq]
theorem Ext.cell' {X : List Nat} {a b : World} (h : Ext X a b) {p : Addr} {v : Value} (hc : a.cell? p = some v) (hx : p.block ∉ X) : b.cell? p = some v :=
  (h.cell (World.block_lt_of_cell? _ _ hc) hx).trans hc
set_option maxHeartbeats 400000 in
theorem mWords_any (M : MemId) (ws : List UInt64) (bs : List UInt8) (w : World) (h : MemAt w M ws bs) :
    Calls Try.prog 109 #[.pointer (some ⟨M.m, 0, none⟩)] w (Ret (.int .i64 (ws.length : Int)) (Ext [] w)) := by
  have hc := h.c0
  have H := hid h
  clear h
  go_enter Try.func109, Try.ntmps109
  go_wp2
  go_ret
  exact ⟨rfl, Ext.refl _ _⟩
set_option maxHeartbeats 400000 in
theorem mBytes_any (M : MemId) (ws : List UInt64) (bs : List UInt8) (w : World) (h : MemAt w M ws bs) :
    Calls Try.prog 110 #[.pointer (some ⟨M.m, 0, none⟩)] w (Ret (.int .i64 (bs.length : Int)) (Ext [] w)) := by
  have hc := h.c1
  have H := hid h
  clear h
  go_enter Try.func110, Try.ntmps110
  go_wp2
  go_ret
  exact ⟨rfl, Ext.refl _ _⟩
theorem kinds_any (w : World) : Calls Try.prog 125 #[] w (Ret (.agg #[.nilFunc, .func (.func 139) #[] #[], .func (.func 140) #[] #[], .func (.func 141) #[] #[], .func (.func 142) #[] #[]]) (Ext [] w)) := by
  go_enter Try.func125, Try.ntmps125
  go_wp2
  refine bodyPost_ret (v := .agg #[.nilFunc, .func (.func 139) #[] #[], .func (.func 140) #[] #[], .func (.func 141) #[] #[], .func (.func 142) #[] #[]]) (by simp [results, Try.results125, go_sem]) rfl ⟨rfl, (Ext.refl [] _).alloc _⟩
theorem kindsAt1 (w : World) : (Instr.index 168 (.agg #[.nilFunc, .func (.func 139) #[] #[], .func (.func 140) #[] #[], .func (.func 141) #[] #[], .func (.func 142) #[] #[]]) (.int .u8 1)).run Try.prog w = .ok (.func (.func 139) #[] #[]) w := by kernel_rfl
theorem kindsAt2 (w : World) : (Instr.index 168 (.agg #[.nilFunc, .func (.func 139) #[] #[], .func (.func 140) #[] #[], .func (.func 141) #[] #[], .func (.func 142) #[] #[]]) (.int .u8 2)).run Try.prog w = .ok (.func (.func 140) #[] #[]) w := by kernel_rfl
theorem kindsAt3 (w : World) : (Instr.index 168 (.agg #[.nilFunc, .func (.func 139) #[] #[], .func (.func 140) #[] #[], .func (.func 141) #[] #[], .func (.func 142) #[] #[]]) (.int .u8 3)).run Try.prog w = .ok (.func (.func 141) #[] #[]) w := by kernel_rfl
theorem kindsAt4 (w : World) : (Instr.index 168 (.agg #[.nilFunc, .func (.func 139) #[] #[], .func (.func 140) #[] #[], .func (.func 141) #[] #[], .func (.func 142) #[] #[]]) (.int .u8 4)).run Try.prog w = .ok (.func (.func 142) #[] #[]) w := by kernel_rfl
attribute [local go_sem] kindsAt1 kindsAt2 kindsAt3 kindsAt4
theorem kind1_any (x A B : UInt64) (k a : Int) (w : World) : Calls Try.prog 139 #[.int .u64 (x.toNat : Int), (.agg #[.int .u8 k, .int .i64 a, .int .u64 (A.toNat : Int), .int .u64 (B.toNat : Int)])] w (Ret (.tuple #[.int .u64 (x.toNat : Int), .int .u64 (x.toNat : Int)]) (Ext [] w)) := by
  go_enter Try.func139, Try.ntmps139
  go_wp2
  go_ret2
  exact ⟨rfl, (Ext.refl [] _).alloc _⟩
theorem kind2_any (x A B : UInt64) (k a : Int) (w : World) : Calls Try.prog 140 #[.int .u64 (x.toNat : Int), (.agg #[.int .u8 k, .int .i64 a, .int .u64 (A.toNat : Int), .int .u64 (B.toNat : Int)])] w (Ret (.tuple #[.int .u64 (A.toNat : Int), .int .u64 0]) (Ext [] w)) := by
  go_enter Try.func140, Try.ntmps140
  go_wp2
  go_ret2
  exact ⟨rfl, (Ext.refl [] _).alloc _⟩
theorem kind3_hit (x B : UInt64) (k a : Int) (w : World) : Calls Try.prog 141 #[.int .u64 (x.toNat : Int), (.agg #[.int .u8 k, .int .i64 a, .int .u64 (x.toNat : Int), .int .u64 (B.toNat : Int)])] w (Ret (.tuple #[.int .u64 (B.toNat : Int), .int .u64 1]) (Ext [] w)) := by
  go_enter Try.func141, Try.ntmps141
  go_wp2
  go_ret2
  exact ⟨rfl, (Ext.refl [] _).alloc _⟩
theorem kind3_miss (x A B : UInt64) (k a : Int) (w : World) (h : x ≠ A) : Calls Try.prog 141 #[.int .u64 (x.toNat : Int), (.agg #[.int .u8 k, .int .i64 a, .int .u64 (A.toNat : Int), .int .u64 (B.toNat : Int)])] w (Ret (.tuple #[.int .u64 (x.toNat : Int), .int .u64 0]) (Ext [] w)) := by
  have hn : ((x.toNat : Int) != (A.toNat : Int)) = true := by rw [u64_ne]; simpa using h
  go_enter Try.func141, Try.ntmps141
  go_wp2
  go_ret2
  exact ⟨rfl, (Ext.refl [] _).alloc _⟩
theorem kind4_any (x A B : UInt64) (k a : Int) (w : World) : Calls Try.prog 142 #[.int .u64 (x.toNat : Int), (.agg #[.int .u8 k, .int .i64 a, .int .u64 (A.toNat : Int), .int .u64 (B.toNat : Int)])] w (Ret (.tuple #[.int .u64 ((x + A).toNat : Int), .int .u64 (x.toNat : Int)]) (Ext [] w)) := by
  have hs := u64_add x A
  go_enter Try.func142, Try.ntmps142
  go_wp2
  go_ret2
  exact ⟨rfl, (Ext.refl [] _).alloc _⟩
end Go.Proofs.Ytjdbknnacaacaaa
namespace Go.Proofs.Ytjdbknnacaacaaa
open Go Go.RowKit
set_option linter.unusedSimpArgs false
set_option linter.unusedVariables false
attribute [local go_sem] kindsAt1 kindsAt2 kindsAt3 kindsAt4
set_option maxRecDepth 100000 in
set_option maxHeartbeats 2000000 in
theorem do_load (M : MemId) (ws : List UInt64) (bs : List UInt8) (n : Nat) (A B : UInt64) (w : World) (h : MemAt w M ws bs) (hn : n < ws.length) :
    Calls Try.prog 79 #[.pointer (some ⟨M.m, 0, none⟩), accV 1 n A B] w (fun e w' => e = .returned (.tuple #[.int .u64 (ws[n].toNat : Int), .bool true]) ∧ MemAt w' M (ws.set n (ws[n])) bs ∧ Ext [M.bw] w w') := by
  have hE := Ext.refl []
  have d0 := h.c0
  have hl := h.wl
  have n1 : (decide ((n : Int) < 0)) = false := by simp
  have n2 : (decide ((ws.length : Int) ≤ (n : Int))) = false := by simp; omega
  unfold accV
  go_enter Try.func79, Try.ntmps79
  go_wp2_with fail
  have L0 := blk_lt h.hm
  have L1 := blk_lt h.hw
  refine wp_region_lit_lin [] [0,1,2,3,4,5,6,7,8,9] (Ext [] _) (Ext []) Try.mix (by kernel_rfl) (Ext.refl []) (fun _ _ _ => Ext.trans') (fun _ _ => Ext.trans') ((Ext.refl _ _).drew) (fun X _ f hf => ?_)
  have g3 : ∀ x i, (f x).cell? ⟨w.heap.size, i, none⟩ = (#[.int .u8 1, .int .i64 n, .int .u64 (A.toNat : Int), .int .u64 (B.toNat : Int)] : Array Value)[i]? := fun x i => blk_cell ((hf x).blk (blk_new _ _) (by simp)) i
  have HM : ∀ x, MemAt (f x) M ws bs := fun x => (h.alloc _).ext0 (hf x)
  have HM' := hid HM
  clear HM hf
  repeat (refine lexX_step rfl rfl (fun K hK => ?_); go_simp; (try go_bits); (try (simp only [↓IntWalk.iteOmega]; go_simp)); (refine hK _ ?_; clear hK K))
  refine lexX_step rfl rfl (fun K hK => ?_); go_simp; refine ⟨_, fun x => ret_of (mWords_any M ws bs (f x) (HM'.out x)), hK _ ?_⟩; clear hK K
  repeat (refine lexX_step rfl rfl (fun K hK => ?_); go_simp; (try go_bits); (try (simp only [↓IntWalk.iteOmega]; go_simp)); (refine hK _ ?_; clear hK K))
  clear g3 HM'
  refine lexX_nil (fun w1 hw1 => ?_)
  have hx := ((Ext.refl [] w).alloc (.cells #[.int .u8 1, .int .i64 n, .int .u64 (A.toNat : Int), .int .u64 (B.toNat : Int)] 120)).trans' hw1.of_drew
  have g1 : blk w1 w.heap.size = some (.cells #[.int .u8 1, .int .i64 n, .int .u64 (A.toNat : Int), .int .u64 (B.toNat : Int)] 120 (0, 0)) := hw1.of_drew.blk (blk_new _ _) (by simp)
  have h1 := h.ext0 hx
  have HX := hid hx
  clear hx hw1
  have G1 := hid g1
  have H1 := hid h1
  clear g1 h1
  go_wp2_with fail
  refine wp_region_lit_lin [] [0,1,2,3,4,5,6,7,8,9,10,11,12,13,14,15,16,17,18] (Ext [] _) (Ext []) Try.mix (by kernel_rfl) (Ext.refl []) (fun _ _ _ => Ext.trans') (fun _ _ => Ext.trans') ((Ext.refl _ _).drew) (fun X _ f hf => ?_)
  have g3 : ∀ x i, (f x).cell? ⟨w.heap.size, i, none⟩ = (#[.int .u8 1, .int .i64 n, .int .u64 (A.toNat : Int), .int .u64 (B.toNat : Int)] : Array Value)[i]? := fun x i => blk_cell ((hf x).blk G1.out (by simp)) i
  have g0 : ∀ x, (f x).cell? ⟨M.m, 0, none⟩ = some (.slice (some ⟨M.bw, 0, none⟩) ws.length (ws.length + M.pw.size)) := fun x => (H1.out.ext0 (hf x)).c0
  have gw : ∀ x, (f x).cell? ⟨M.bw, n, none⟩ = some (.int .u64 (ws[n].toNat : Int)) := fun x => (H1.out.ext0 (hf x)).cw hn
  clear hf
  repeat (refine lexX_step rfl rfl (fun K hK => ?_); go_simp; (try go_bits); (try (simp only [↓IntWalk.iteOmega]; go_simp)); (refine hK _ ?_; clear hK K))
  refine lexX_step rfl rfl (fun K hK => ?_); go_simp; refine ⟨_, fun x => ret_of (kinds_any (f x)), hK _ ?_⟩; clear hK K
  repeat (refine lexX_step rfl rfl (fun K hK => ?_); go_simp; (try go_bits); (try (simp only [↓IntWalk.iteOmega]; go_simp)); (refine hK _ ?_; clear hK K))
  refine lexX_step rfl rfl (fun K hK => ?_); go_simp; refine ⟨_, fun x => ret_of (kind1_any ws[n] A B 1 n (f x)), hK _ ?_⟩; clear hK K
  repeat (refine lexX_step rfl rfl (fun K hK => ?_); go_simp; (try go_bits); (try (simp only [↓IntWalk.iteOmega]; go_simp)); (refine hK _ ?_; clear hK K))
  refine lexX_nil (fun w2 hw2 => ?_)
  have x2 := (HX.out.trans' hw2.of_drew).mono (Y := [M.bw]) (by simp)
  have h2 := H1.out.ext0 hw2.of_drew
  have g2 := hw2.of_drew.blk G1.out (by simp)
  clear hw2 g3 g0 gw H1 G1 HX
  have HX := hid x2
  have H2 := hid h2
  have G2 := hid g2
  clear x2 h2 g2
  go_wp2_with fail
  refine wp_region_lit_lin [8] [0,1,2,3,4,5,6,7,8] (Ext [M.bw] _) (Ext []) Try.mix (by kernel_rfl) (Ext.refl []) (fun _ _ _ => Ext.trans') (fun _ _ h k => h.trans0 k) ((Ext.refl _ _).drew) (fun X _ f hf => ?_)
  have g3 : ∀ x i, (f x).cell? ⟨w.heap.size, i, none⟩ = (#[.int .u8 1, .int .i64 n, .int .u64 (A.toNat : Int), .int .u64 (B.toNat : Int)] : Array Value)[i]? := fun x i => blk_cell ((hf x).blk G2.out (by simp; omega)) i
  have g0 : ∀ x, (f x).cell? ⟨M.m, 0, none⟩ = some (.slice (some ⟨M.bw, 0, none⟩) ws.length (ws.length + M.pw.size)) := fun x => (hf x).cell' H2.out.c0 (by simpa using H2.out.ne_mw)
  clear hf
  repeat (refine lexX_step rfl rfl (fun K hK => ?_); go_simp; (try go_bits); (try (simp only [↓IntWalk.iteOmega]; go_simp)); (refine hK _ ?_; clear hK K))
  refine lexX_effp rfl rfl rfl (fun w3 hw3 K hK => ?_)
  have h3 := H2.out.ext0 hw3.of_drew
  have q1 := h3.cw hn
  have q2 := blk_free h3.hw n
  go_simp
  refine ⟨(hw3.of_drew.mono (Y := [M.bw]) (by simp)).setCell (.inl (by simp)) _, hK _ _ ?_⟩
  clear hK K
  refine lexX_nil (fun w4 hw4 => ?_)
  have h4 := (h3.setW n (ws[n]) hn).ext0 hw4
  have x4 := ((HX.out.trans0 hw3.of_drew).setCell (p := ⟨M.bw, n, none⟩) (.inl (by simp)) (.int .u64 ((ws[n]).toNat : Int))).trans0 hw4
  clear hw4 h3 q1 q2 hw3 g3 g0 HX H2 G2
  have HX := hid x4
  have H4 := hid h4
  clear x4 h4
  go_wp2
  go_ret2
  exact ⟨rfl, H4.out, HX.out⟩
set_option maxRecDepth 100000 in
set_option maxHeartbeats 2000000 in
theorem do_store (M : MemId) (ws : List UInt64) (bs : List UInt8) (n : Nat) (A B : UInt64) (w : World) (h : MemAt w M ws bs) (hn : n < ws.length) :
    Calls Try.prog 79 #[.pointer (some ⟨M.m, 0, none⟩), accV 2 n A B] w (fun e w' => e = .returned (.tuple #[.int .u64 0, .bool true]) ∧ MemAt w' M (ws.set n (A)) bs ∧ Ext [M.bw] w w') := by
  have hE := Ext.refl []
  have d0 := h.c0
  have hl := h.wl
  have n1 : (decide ((n : Int) < 0)) = false := by simp
  have n2 : (decide ((ws.length : Int) ≤ (n : Int))) = false := by simp; omega
  unfold accV
  go_enter Try.func79, Try.ntmps79
  go_wp2_with fail
  have L0 := blk_lt h.hm
  have L1 := blk_lt h.hw
  refine wp_region_lit_lin [] [0,1,2,3,4,5,6,7,8,9] (Ext [] _) (Ext []) Try.mix (by kernel_rfl) (Ext.refl []) (fun _ _ _ => Ext.trans') (fun _ _ => Ext.trans') ((Ext.refl _ _).drew) (fun X _ f hf => ?_)
  have g3 : ∀ x i, (f x).cell? ⟨w.heap.size, i, none⟩ = (#[.int .u8 2, .int .i64 n, .int .u64 (A.toNat : Int), .int .u64 (B.toNat : Int)] : Array Value)[i]? := fun x i => blk_cell ((hf x).blk (blk_new _ _) (by simp)) i
  have HM : ∀ x, MemAt (f x) M ws bs := fun x => (h.alloc _).ext0 (hf x)
  have HM' := hid HM
  clear HM hf
  repeat (refine lexX_step rfl rfl (fun K hK => ?_); go_simp; (try go_bits); (try (simp only [↓IntWalk.iteOmega]; go_simp)); (refine hK _ ?_; clear hK K))
  refine lexX_step rfl rfl (fun K hK => ?_); go_simp; refine ⟨_, fun x => ret_of (mWords_any M ws bs (f x) (HM'.out x)), hK _ ?_⟩; clear hK K
  repeat (refine lexX_step rfl rfl (fun K hK => ?_); go_simp; (try go_bits); (try (simp only [↓IntWalk.iteOmega]; go_simp)); (refine hK _ ?_; clear hK K))
  clear g3 HM'
  refine lexX_nil (fun w1 hw1 => ?_)
  have hx := ((Ext.refl [] w).alloc (.cells #[.int .u8 2, .int .i64 n, .int .u64 (A.toNat : Int), .int .u64 (B.toNat : Int)] 120)).trans' hw1.of_drew
  have g1 : blk w1 w.heap.size = some (.cells #[.int .u8 2, .int .i64 n, .int .u64 (A.toNat : Int), .int .u64 (B.toNat : Int)] 120 (0, 0)) := hw1.of_drew.blk (blk_new _ _) (by simp)
  have h1 := h.ext0 hx
  have HX := hid hx
  clear hx hw1
  have G1 := hid g1
  have H1 := hid h1
  clear g1 h1
  go_wp2_with fail
  refine wp_region_lit_lin [] [0,1,2,3,4,5,6,7,8,9,10,11,12,13,14,15,16,17,18] (Ext [] _) (Ext []) Try.mix (by kernel_rfl) (Ext.refl []) (fun _ _ _ => Ext.trans') (fun _ _ => Ext.trans') ((Ext.refl _ _).drew) (fun X _ f hf => ?_)
  have g3 : ∀ x i, (f x).cell? ⟨w.heap.size, i, none⟩ = (#[.int .u8 2, .int .i64 n, .int .u64 (A.toNat : Int), .int .u64 (B.toNat : Int)] : Array Value)[i]? := fun x i => blk_cell ((hf x).blk G1.out (by simp)) i
  have g0 : ∀ x, (f x).cell? ⟨M.m, 0, none⟩ = some (.slice (some ⟨M.bw, 0, none⟩) ws.length (ws.length + M.pw.size)) := fun x => (H1.out.ext0 (hf x)).c0
  have gw : ∀ x, (f x).cell? ⟨M.bw, n, none⟩ = some (.int .u64 (ws[n].toNat : Int)) := fun x => (H1.out.ext0 (hf x)).cw hn
  clear hf
  repeat (refine lexX_step rfl rfl (fun K hK => ?_); go_simp; (try go_bits); (try (simp only [↓IntWalk.iteOmega]; go_simp)); (refine hK _ ?_; clear hK K))
  refine lexX_step rfl rfl (fun K hK => ?_); go_simp; refine ⟨_, fun x => ret_of (kinds_any (f x)), hK _ ?_⟩; clear hK K
  repeat (refine lexX_step rfl rfl (fun K hK => ?_); go_simp; (try go_bits); (try (simp only [↓IntWalk.iteOmega]; go_simp)); (refine hK _ ?_; clear hK K))
  refine lexX_step rfl rfl (fun K hK => ?_); go_simp; refine ⟨_, fun x => ret_of (kind2_any ws[n] A B 2 n (f x)), hK _ ?_⟩; clear hK K
  repeat (refine lexX_step rfl rfl (fun K hK => ?_); go_simp; (try go_bits); (try (simp only [↓IntWalk.iteOmega]; go_simp)); (refine hK _ ?_; clear hK K))
  refine lexX_nil (fun w2 hw2 => ?_)
  have x2 := (HX.out.trans' hw2.of_drew).mono (Y := [M.bw]) (by simp)
  have h2 := H1.out.ext0 hw2.of_drew
  have g2 := hw2.of_drew.blk G1.out (by simp)
  clear hw2 g3 g0 gw H1 G1 HX
  have HX := hid x2
  have H2 := hid h2
  have G2 := hid g2
  clear x2 h2 g2
  go_wp2_with fail
  refine wp_region_lit_lin [8] [0,1,2,3,4,5,6,7,8] (Ext [M.bw] _) (Ext []) Try.mix (by kernel_rfl) (Ext.refl []) (fun _ _ _ => Ext.trans') (fun _ _ h k => h.trans0 k) ((Ext.refl _ _).drew) (fun X _ f hf => ?_)
  have g3 : ∀ x i, (f x).cell? ⟨w.heap.size, i, none⟩ = (#[.int .u8 2, .int .i64 n, .int .u64 (A.toNat : Int), .int .u64 (B.toNat : Int)] : Array Value)[i]? := fun x i => blk_cell ((hf x).blk G2.out (by simp; omega)) i
  have g0 : ∀ x, (f x).cell? ⟨M.m, 0, none⟩ = some (.slice (some ⟨M.bw, 0, none⟩) ws.length (ws.length + M.pw.size)) := fun x => (hf x).cell' H2.out.c0 (by simpa using H2.out.ne_mw)
  clear hf
  repeat (refine lexX_step rfl rfl (fun K hK => ?_); go_simp; (try go_bits); (try (simp only [↓IntWalk.iteOmega]; go_simp)); (refine hK _ ?_; clear hK K))
  refine lexX_effp rfl rfl rfl (fun w3 hw3 K hK => ?_)
  have h3 := H2.out.ext0 hw3.of_drew
  have q1 := h3.cw hn
  have q2 := blk_free h3.hw n
  go_simp
  refine ⟨(hw3.of_drew.mono (Y := [M.bw]) (by simp)).setCell (.inl (by simp)) _, hK _ _ ?_⟩
  clear hK K
  refine lexX_nil (fun w4 hw4 => ?_)
  have h4 := (h3.setW n (A) hn).ext0 hw4
  have x4 := ((HX.out.trans0 hw3.of_drew).setCell (p := ⟨M.bw, n, none⟩) (.inl (by simp)) (.int .u64 ((A).toNat : Int))).trans0 hw4
  clear hw4 h3 q1 q2 hw3 g3 g0 HX H2 G2
  have HX := hid x4
  have H4 := hid h4
  clear x4 h4
  go_wp2
  go_ret2
  exact ⟨rfl, H4.out, HX.out⟩
set_option maxRecDepth 100000 in
set_option maxHeartbeats 2000000 in
theorem do_cash (M : MemId) (ws : List UInt64) (bs : List UInt8) (n : Nat) (B : UInt64) (w : World) (h : MemAt w M ws bs) (hn : n < ws.length) :
    Calls Try.prog 79 #[.pointer (some ⟨M.m, 0, none⟩), accV 3 n ws[n] B] w (fun e w' => e = .returned (.tuple #[.int .u64 1, .bool true]) ∧ MemAt w' M (ws.set n (B)) bs ∧ Ext [M.bw] w w') := by
  have hE := Ext.refl []
  have d0 := h.c0
  have hl := h.wl
  have n1 : (decide ((n : Int) < 0)) = false := by simp
  have n2 : (decide ((ws.length : Int) ≤ (n : Int))) = false := by simp; omega
  unfold accV
  go_enter Try.func79, Try.ntmps79
  go_wp2_with fail
  have L0 := blk_lt h.hm
  have L1 := blk_lt h.hw
  refine wp_region_lit_lin [] [0,1,2,3,4,5,6,7,8,9] (Ext [] _) (Ext []) Try.mix (by kernel_rfl) (Ext.refl []) (fun _ _ _ => Ext.trans') (fun _ _ => Ext.trans') ((Ext.refl _ _).drew) (fun X _ f hf => ?_)
  have g3 : ∀ x i, (f x).cell? ⟨w.heap.size, i, none⟩ = (#[.int .u8 3, .int .i64 n, .int .u64 (ws[n].toNat : Int), .int .u64 (B.toNat : Int)] : Array Value)[i]? := fun x i => blk_cell ((hf x).blk (blk_new _ _) (by simp)) i
  have HM : ∀ x, MemAt (f x) M ws bs := fun x => (h.alloc _).ext0 (hf x)
  have HM' := hid HM
  clear HM hf
  repeat (refine lexX_step rfl rfl (fun K hK => ?_); go_simp; (try go_bits); (try (simp only [↓IntWalk.iteOmega]; go_simp)); (refine hK _ ?_; clear hK K))
  refine lexX_step rfl rfl (fun K hK => ?_); go_simp; refine ⟨_, fun x => ret_of (mWords_any M ws bs (f x) (HM'.out x)), hK _ ?_⟩; clear hK K
  repeat (refine lexX_step rfl rfl (fun K hK => ?_); go_simp; (try go_bits); (try (simp only [↓IntWalk.iteOmega]; go_simp)); (refine hK _ ?_; clear hK K))
  clear g3 HM'
  refine lexX_nil (fun w1 hw1 => ?_)
  have hx := ((Ext.refl [] w).alloc (.cells #[.int .u8 3, .int .i64 n, .int .u64 (ws[n].toNat : Int), .int .u64 (B.toNat : Int)] 120)).trans' hw1.of_drew
  have g1 : blk w1 w.heap.size = some (.cells #[.int .u8 3, .int .i64 n, .int .u64 (ws[n].toNat : Int), .int .u64 (B.toNat : Int)] 120 (0, 0)) := hw1.of_drew.blk (blk_new _ _) (by simp)
  have h1 := h.ext0 hx
  have HX := hid hx
  clear hx hw1
  have G1 := hid g1
  have H1 := hid h1
  clear g1 h1
  go_wp2_with fail
  refine wp_region_lit_lin [] [0,1,2,3,4,5,6,7,8,9,10,11,12,13,14,15,16,17,18] (Ext [] _) (Ext []) Try.mix (by kernel_rfl) (Ext.refl []) (fun _ _ _ => Ext.trans') (fun _ _ => Ext.trans') ((Ext.refl _ _).drew) (fun X _ f hf => ?_)
  have g3 : ∀ x i, (f x).cell? ⟨w.heap.size, i, none⟩ = (#[.int .u8 3, .int .i64 n, .int .u64 (ws[n].toNat : Int), .int .u64 (B.toNat : Int)] : Array Value)[i]? := fun x i => blk_cell ((hf x).blk G1.out (by simp)) i
  have g0 : ∀ x, (f x).cell? ⟨M.m, 0, none⟩ = some (.slice (some ⟨M.bw, 0, none⟩) ws.length (ws.length + M.pw.size)) := fun x => (H1.out.ext0 (hf x)).c0
  have gw : ∀ x, (f x).cell? ⟨M.bw, n, none⟩ = some (.int .u64 (ws[n].toNat : Int)) := fun x => (H1.out.ext0 (hf x)).cw hn
  clear hf
  repeat (refine lexX_step rfl rfl (fun K hK => ?_); go_simp; (try go_bits); (try (simp only [↓IntWalk.iteOmega]; go_simp)); (refine hK _ ?_; clear hK K))
  refine lexX_step rfl rfl (fun K hK => ?_); go_simp; refine ⟨_, fun x => ret_of (kinds_any (f x)), hK _ ?_⟩; clear hK K
  repeat (refine lexX_step rfl rfl (fun K hK => ?_); go_simp; (try go_bits); (try (simp only [↓IntWalk.iteOmega]; go_simp)); (refine hK _ ?_; clear hK K))
  refine lexX_step rfl rfl (fun K hK => ?_); go_simp; refine ⟨_, fun x => ret_of (kind3_hit ws[n] B 3 n (f x)), hK _ ?_⟩; clear hK K
  repeat (refine lexX_step rfl rfl (fun K hK => ?_); go_simp; (try go_bits); (try (simp only [↓IntWalk.iteOmega]; go_simp)); (refine hK _ ?_; clear hK K))
  refine lexX_nil (fun w2 hw2 => ?_)
  have x2 := (HX.out.trans' hw2.of_drew).mono (Y := [M.bw]) (by simp)
  have h2 := H1.out.ext0 hw2.of_drew
  have g2 := hw2.of_drew.blk G1.out (by simp)
  clear hw2 g3 g0 gw H1 G1 HX
  have HX := hid x2
  have H2 := hid h2
  have G2 := hid g2
  clear x2 h2 g2
  go_wp2_with fail
  refine wp_region_lit_lin [8] [0,1,2,3,4,5,6,7,8] (Ext [M.bw] _) (Ext []) Try.mix (by kernel_rfl) (Ext.refl []) (fun _ _ _ => Ext.trans') (fun _ _ h k => h.trans0 k) ((Ext.refl _ _).drew) (fun X _ f hf => ?_)
  have g3 : ∀ x i, (f x).cell? ⟨w.heap.size, i, none⟩ = (#[.int .u8 3, .int .i64 n, .int .u64 (ws[n].toNat : Int), .int .u64 (B.toNat : Int)] : Array Value)[i]? := fun x i => blk_cell ((hf x).blk G2.out (by simp; omega)) i
  have g0 : ∀ x, (f x).cell? ⟨M.m, 0, none⟩ = some (.slice (some ⟨M.bw, 0, none⟩) ws.length (ws.length + M.pw.size)) := fun x => (hf x).cell' H2.out.c0 (by simpa using H2.out.ne_mw)
  clear hf
  repeat (refine lexX_step rfl rfl (fun K hK => ?_); go_simp; (try go_bits); (try (simp only [↓IntWalk.iteOmega]; go_simp)); (refine hK _ ?_; clear hK K))
  refine lexX_effp rfl rfl rfl (fun w3 hw3 K hK => ?_)
  have h3 := H2.out.ext0 hw3.of_drew
  have q1 := h3.cw hn
  have q2 := blk_free h3.hw n
  go_simp
  refine ⟨(hw3.of_drew.mono (Y := [M.bw]) (by simp)).setCell (.inl (by simp)) _, hK _ _ ?_⟩
  clear hK K
  refine lexX_nil (fun w4 hw4 => ?_)
  have h4 := (h3.setW n (B) hn).ext0 hw4
  have x4 := ((HX.out.trans0 hw3.of_drew).setCell (p := ⟨M.bw, n, none⟩) (.inl (by simp)) (.int .u64 ((B).toNat : Int))).trans0 hw4
  clear hw4 h3 q1 q2 hw3 g3 g0 HX H2 G2
  have HX := hid x4
  have H4 := hid h4
  clear x4 h4
  go_wp2
  go_ret2
  exact ⟨rfl, H4.out, HX.out⟩
set_option maxRecDepth 100000 in
set_option maxHeartbeats 2000000 in
theorem do_casm (M : MemId) (ws : List UInt64) (bs : List UInt8) (n : Nat) (A B : UInt64) (w : World) (h : MemAt w M ws bs) (hn : n < ws.length) (hx : ws[n] ≠ A) :
    Calls Try.prog 79 #[.pointer (some ⟨M.m, 0, none⟩), accV 3 n A B] w (fun e w' => e = .returned (.tuple #[.int .u64 0, .bool true]) ∧ MemAt w' M (ws.set n (ws[n])) bs ∧ Ext [M.bw] w w') := by
  have hE := Ext.refl []
  have HN := hid hx
  clear hx
  have d0 := h.c0
  have hl := h.wl
  have n1 : (decide ((n : Int) < 0)) = false := by simp
  have n2 : (decide ((ws.length : Int) ≤ (n : Int))) = false := by simp; omega
  unfold accV
  go_enter Try.func79, Try.ntmps79
  go_wp2_with fail
  have L0 := blk_lt h.hm
  have L1 := blk_lt h.hw
  refine wp_region_lit_lin [] [0,1,2,3,4,5,6,7,8,9] (Ext [] _) (Ext []) Try.mix (by kernel_rfl) (Ext.refl []) (fun _ _ _ => Ext.trans') (fun _ _ => Ext.trans') ((Ext.refl _ _).drew) (fun X _ f hf => ?_)
  have g3 : ∀ x i, (f x).cell? ⟨w.heap.size, i, none⟩ = (#[.int .u8 3, .int .i64 n, .int .u64 (A.toNat : Int), .int .u64 (B.toNat : Int)] : Array Value)[i]? := fun x i => blk_cell ((hf x).blk (blk_new _ _) (by simp)) i
  have HM : ∀ x, MemAt (f x) M ws bs := fun x => (h.alloc _).ext0 (hf x)
  have HM' := hid HM
  clear HM hf
  repeat (refine lexX_step rfl rfl (fun K hK => ?_); go_simp; (try go_bits); (try (simp only [↓IntWalk.iteOmega]; go_simp)); (refine hK _ ?_; clear hK K))
  refine lexX_step rfl rfl (fun K hK => ?_); go_simp; refine ⟨_, fun x => ret_of (mWords_any M ws bs (f x) (HM'.out x)), hK _ ?_⟩; clear hK K
  repeat (refine lexX_step rfl rfl (fun K hK => ?_); go_simp; (try go_bits); (try (simp only [↓IntWalk.iteOmega]; go_simp)); (refine hK _ ?_; clear hK K))
  clear g3 HM'
  refine lexX_nil (fun w1 hw1 => ?_)
  have hx := ((Ext.refl [] w).alloc (.cells #[.int .u8 3, .int .i64 n, .int .u64 (A.toNat : Int), .int .u64 (B.toNat : Int)] 120)).trans' hw1.of_drew
  have g1 : blk w1 w.heap.size = some (.cells #[.int .u8 3, .int .i64 n, .int .u64 (A.toNat : Int), .int .u64 (B.toNat : Int)] 120 (0, 0)) := hw1.of_drew.blk (blk_new _ _) (by simp)
  have h1 := h.ext0 hx
  have HX := hid hx
  clear hx hw1
  have G1 := hid g1
  have H1 := hid h1
  clear g1 h1
  go_wp2_with fail
  refine wp_region_lit_lin [] [0,1,2,3,4,5,6,7,8,9,10,11,12,13,14,15,16,17,18] (Ext [] _) (Ext []) Try.mix (by kernel_rfl) (Ext.refl []) (fun _ _ _ => Ext.trans') (fun _ _ => Ext.trans') ((Ext.refl _ _).drew) (fun X _ f hf => ?_)
  have g3 : ∀ x i, (f x).cell? ⟨w.heap.size, i, none⟩ = (#[.int .u8 3, .int .i64 n, .int .u64 (A.toNat : Int), .int .u64 (B.toNat : Int)] : Array Value)[i]? := fun x i => blk_cell ((hf x).blk G1.out (by simp)) i
  have g0 : ∀ x, (f x).cell? ⟨M.m, 0, none⟩ = some (.slice (some ⟨M.bw, 0, none⟩) ws.length (ws.length + M.pw.size)) := fun x => (H1.out.ext0 (hf x)).c0
  have gw : ∀ x, (f x).cell? ⟨M.bw, n, none⟩ = some (.int .u64 (ws[n].toNat : Int)) := fun x => (H1.out.ext0 (hf x)).cw hn
  clear hf
  repeat (refine lexX_step rfl rfl (fun K hK => ?_); go_simp; (try go_bits); (try (simp only [↓IntWalk.iteOmega]; go_simp)); (refine hK _ ?_; clear hK K))
  refine lexX_step rfl rfl (fun K hK => ?_); go_simp; refine ⟨_, fun x => ret_of (kinds_any (f x)), hK _ ?_⟩; clear hK K
  repeat (refine lexX_step rfl rfl (fun K hK => ?_); go_simp; (try go_bits); (try (simp only [↓IntWalk.iteOmega]; go_simp)); (refine hK _ ?_; clear hK K))
  refine lexX_step rfl rfl (fun K hK => ?_); go_simp; refine ⟨_, fun x => ret_of (kind3_miss ws[n] A B 3 n (f x) HN.out), hK _ ?_⟩; clear hK K
  repeat (refine lexX_step rfl rfl (fun K hK => ?_); go_simp; (try go_bits); (try (simp only [↓IntWalk.iteOmega]; go_simp)); (refine hK _ ?_; clear hK K))
  refine lexX_nil (fun w2 hw2 => ?_)
  have x2 := (HX.out.trans' hw2.of_drew).mono (Y := [M.bw]) (by simp)
  have h2 := H1.out.ext0 hw2.of_drew
  have g2 := hw2.of_drew.blk G1.out (by simp)
  clear hw2 g3 g0 gw H1 G1 HX
  have HX := hid x2
  have H2 := hid h2
  have G2 := hid g2
  clear x2 h2 g2
  go_wp2_with fail
  refine wp_region_lit_lin [8] [0,1,2,3,4,5,6,7,8] (Ext [M.bw] _) (Ext []) Try.mix (by kernel_rfl) (Ext.refl []) (fun _ _ _ => Ext.trans') (fun _ _ h k => h.trans0 k) ((Ext.refl _ _).drew) (fun X _ f hf => ?_)
  have g3 : ∀ x i, (f x).cell? ⟨w.heap.size, i, none⟩ = (#[.int .u8 3, .int .i64 n, .int .u64 (A.toNat : Int), .int .u64 (B.toNat : Int)] : Array Value)[i]? := fun x i => blk_cell ((hf x).blk G2.out (by simp; omega)) i
  have g0 : ∀ x, (f x).cell? ⟨M.m, 0, none⟩ = some (.slice (some ⟨M.bw, 0, none⟩) ws.length (ws.length + M.pw.size)) := fun x => (hf x).cell' H2.out.c0 (by simpa using H2.out.ne_mw)
  clear hf
  repeat (refine lexX_step rfl rfl (fun K hK => ?_); go_simp; (try go_bits); (try (simp only [↓IntWalk.iteOmega]; go_simp)); (refine hK _ ?_; clear hK K))
  refine lexX_effp rfl rfl rfl (fun w3 hw3 K hK => ?_)
  have h3 := H2.out.ext0 hw3.of_drew
  have q1 := h3.cw hn
  have q2 := blk_free h3.hw n
  go_simp
  refine ⟨(hw3.of_drew.mono (Y := [M.bw]) (by simp)).setCell (.inl (by simp)) _, hK _ _ ?_⟩
  clear hK K
  refine lexX_nil (fun w4 hw4 => ?_)
  have h4 := (h3.setW n (ws[n]) hn).ext0 hw4
  have x4 := ((HX.out.trans0 hw3.of_drew).setCell (p := ⟨M.bw, n, none⟩) (.inl (by simp)) (.int .u64 ((ws[n]).toNat : Int))).trans0 hw4
  clear hw4 h3 q1 q2 hw3 g3 g0 HX H2 G2
  have HX := hid x4
  have H4 := hid h4
  clear x4 h4
  go_wp2
  go_ret2
  exact ⟨rfl, H4.out, HX.out⟩
set_option maxRecDepth 100000 in
set_option maxHeartbeats 2000000 in
theorem do_add (M : MemId) (ws : List UInt64) (bs : List UInt8) (n : Nat) (A B : UInt64) (w : World) (h : MemAt w M ws bs) (hn : n < ws.length) :
    Calls Try.prog 79 #[.pointer (some ⟨M.m, 0, none⟩), accV 4 n A B] w (fun e w' => e = .returned (.tuple #[.int .u64 (ws[n].toNat : Int), .bool true]) ∧ MemAt w' M (ws.set n (ws[n] + A)) bs ∧ Ext [M.bw] w w') := by
  have hE := Ext.refl []
  have d0 := h.c0
  have hl := h.wl
  have n1 : (decide ((n : Int) < 0)) = false := by simp
  have n2 : (decide ((ws.length : Int) ≤ (n : Int))) = false := by simp; omega
  unfold accV
  go_enter Try.func79, Try.ntmps79
  go_wp2_with fail
  have L0 := blk_lt h.hm
  have L1 := blk_lt h.hw
  refine wp_region_lit_lin [] [0,1,2,3,4,5,6,7,8,9] (Ext [] _) (Ext []) Try.mix (by kernel_rfl) (Ext.refl []) (fun _ _ _ => Ext.trans') (fun _ _ => Ext.trans') ((Ext.refl _ _).drew) (fun X _ f hf => ?_)
  have g3 : ∀ x i, (f x).cell? ⟨w.heap.size, i, none⟩ = (#[.int .u8 4, .int .i64 n, .int .u64 (A.toNat : Int), .int .u64 (B.toNat : Int)] : Array Value)[i]? := fun x i => blk_cell ((hf x).blk (blk_new _ _) (by simp)) i
  have HM : ∀ x, MemAt (f x) M ws bs := fun x => (h.alloc _).ext0 (hf x)
  have HM' := hid HM
  clear HM hf
  repeat (refine lexX_step rfl rfl (fun K hK => ?_); go_simp; (try go_bits); (try (simp only [↓IntWalk.iteOmega]; go_simp)); (refine hK _ ?_; clear hK K))
  refine lexX_step rfl rfl (fun K hK => ?_); go_simp; refine ⟨_, fun x => ret_of (mWords_any M ws bs (f x) (HM'.out x)), hK _ ?_⟩; clear hK K
  repeat (refine lexX_step rfl rfl (fun K hK => ?_); go_simp; (try go_bits); (try (simp only [↓IntWalk.iteOmega]; go_simp)); (refine hK _ ?_; clear hK K))
  clear g3 HM'
  refine lexX_nil (fun w1 hw1 => ?_)
  have hx := ((Ext.refl [] w).alloc (.cells #[.int .u8 4, .int .i64 n, .int .u64 (A.toNat : Int), .int .u64 (B.toNat : Int)] 120)).trans' hw1.of_drew
  have g1 : blk w1 w.heap.size = some (.cells #[.int .u8 4, .int .i64 n, .int .u64 (A.toNat : Int), .int .u64 (B.toNat : Int)] 120 (0, 0)) := hw1.of_drew.blk (blk_new _ _) (by simp)
  have h1 := h.ext0 hx
  have HX := hid hx
  clear hx hw1
  have G1 := hid g1
  have H1 := hid h1
  clear g1 h1
  go_wp2_with fail
  refine wp_region_lit_lin [] [0,1,2,3,4,5,6,7,8,9,10,11,12,13,14,15,16,17,18] (Ext [] _) (Ext []) Try.mix (by kernel_rfl) (Ext.refl []) (fun _ _ _ => Ext.trans') (fun _ _ => Ext.trans') ((Ext.refl _ _).drew) (fun X _ f hf => ?_)
  have g3 : ∀ x i, (f x).cell? ⟨w.heap.size, i, none⟩ = (#[.int .u8 4, .int .i64 n, .int .u64 (A.toNat : Int), .int .u64 (B.toNat : Int)] : Array Value)[i]? := fun x i => blk_cell ((hf x).blk G1.out (by simp)) i
  have g0 : ∀ x, (f x).cell? ⟨M.m, 0, none⟩ = some (.slice (some ⟨M.bw, 0, none⟩) ws.length (ws.length + M.pw.size)) := fun x => (H1.out.ext0 (hf x)).c0
  have gw : ∀ x, (f x).cell? ⟨M.bw, n, none⟩ = some (.int .u64 (ws[n].toNat : Int)) := fun x => (H1.out.ext0 (hf x)).cw hn
  clear hf
  repeat (refine lexX_step rfl rfl (fun K hK => ?_); go_simp; (try go_bits); (try (simp only [↓IntWalk.iteOmega]; go_simp)); (refine hK _ ?_; clear hK K))
  refine lexX_step rfl rfl (fun K hK => ?_); go_simp; refine ⟨_, fun x => ret_of (kinds_any (f x)), hK _ ?_⟩; clear hK K
  repeat (refine lexX_step rfl rfl (fun K hK => ?_); go_simp; (try go_bits); (try (simp only [↓IntWalk.iteOmega]; go_simp)); (refine hK _ ?_; clear hK K))
  refine lexX_step rfl rfl (fun K hK => ?_); go_simp; refine ⟨_, fun x => ret_of (kind4_any ws[n] A B 4 n (f x)), hK _ ?_⟩; clear hK K
  repeat (refine lexX_step rfl rfl (fun K hK => ?_); go_simp; (try go_bits); (try (simp only [↓IntWalk.iteOmega]; go_simp)); (refine hK _ ?_; clear hK K))
  refine lexX_nil (fun w2 hw2 => ?_)
  have x2 := (HX.out.trans' hw2.of_drew).mono (Y := [M.bw]) (by simp)
  have h2 := H1.out.ext0 hw2.of_drew
  have g2 := hw2.of_drew.blk G1.out (by simp)
  clear hw2 g3 g0 gw H1 G1 HX
  have HX := hid x2
  have H2 := hid h2
  have G2 := hid g2
  clear x2 h2 g2
  go_wp2_with fail
  refine wp_region_lit_lin [8] [0,1,2,3,4,5,6,7,8] (Ext [M.bw] _) (Ext []) Try.mix (by kernel_rfl) (Ext.refl []) (fun _ _ _ => Ext.trans') (fun _ _ h k => h.trans0 k) ((Ext.refl _ _).drew) (fun X _ f hf => ?_)
  have g3 : ∀ x i, (f x).cell? ⟨w.heap.size, i, none⟩ = (#[.int .u8 4, .int .i64 n, .int .u64 (A.toNat : Int), .int .u64 (B.toNat : Int)] : Array Value)[i]? := fun x i => blk_cell ((hf x).blk G2.out (by simp; omega)) i
  have g0 : ∀ x, (f x).cell? ⟨M.m, 0, none⟩ = some (.slice (some ⟨M.bw, 0, none⟩) ws.length (ws.length + M.pw.size)) := fun x => (hf x).cell' H2.out.c0 (by simpa using H2.out.ne_mw)
  clear hf
  repeat (refine lexX_step rfl rfl (fun K hK => ?_); go_simp; (try go_bits); (try (simp only [↓IntWalk.iteOmega]; go_simp)); (refine hK _ ?_; clear hK K))
  refine lexX_effp rfl rfl rfl (fun w3 hw3 K hK => ?_)
  have h3 := H2.out.ext0 hw3.of_drew
  have q1 := h3.cw hn
  have q2 := blk_free h3.hw n
  go_simp
  refine ⟨(hw3.of_drew.mono (Y := [M.bw]) (by simp)).setCell (.inl (by simp)) _, hK _ _ ?_⟩
  clear hK K
  refine lexX_nil (fun w4 hw4 => ?_)
  have h4 := (h3.setW n (ws[n] + A) hn).ext0 hw4
  have x4 := ((HX.out.trans0 hw3.of_drew).setCell (p := ⟨M.bw, n, none⟩) (.inl (by simp)) (.int .u64 ((ws[n] + A).toNat : Int))).trans0 hw4
  clear hw4 h3 q1 q2 hw3 g3 g0 HX H2 G2
  have HX := hid x4
  have H4 := hid h4
  clear x4 h4
  go_wp2
  go_ret2
  exact ⟨rfl, H4.out, HX.out⟩
end Go.Proofs.Ytjdbknnacaacaaa
namespace Go.Proofs.Ytjdbknnacaacaaa
open Go Go.RowKit
set_option linter.unusedSimpArgs false
set_option linter.unusedVariables false
attribute [local go_sem] kindsAt1 kindsAt2 kindsAt3 kindsAt4
set_option maxRecDepth 100000 in
set_option maxHeartbeats 2000000 in
theorem do_neg1 (M : MemId) (ws : List UInt64) (bs : List UInt8) (n : Int) (A B : UInt64) (w : World) (h : MemAt w M ws bs) (hn : n < 0) :
    Calls Try.prog 79 #[.pointer (some ⟨M.m, 0, none⟩), accV 1 n A B] w (Ret (.tuple #[.int .u64 0, .bool false]) (Ext [] w)) := by
  have hE := Ext.refl []
  have hl := h.wl
  have hl' := h.bl
  have n1 : (decide (n < 0)) = true := by simpa using hn
  unfold accV
  go_enter Try.func79, Try.ntmps79
  go_wp2_with fail
  have L0 := blk_lt h.hm
  refine wp_region_lit_lin [] [0,1,2,3,4,5,6,7,8,9] (Ext [] _) (Ext []) Try.mix (by kernel_rfl) (Ext.refl []) (fun _ _ _ => Ext.trans') (fun _ _ => Ext.trans') ((Ext.refl _ _).drew) (fun X _ f hf => ?_)
  have g3 : ∀ x i, (f x).cell? ⟨w.heap.size, i, none⟩ = (#[.int .u8 1, .int .i64 n, .int .u64 (A.toNat : Int), .int .u64 (B.toNat : Int)] : Array Value)[i]? := fun x i => blk_cell ((hf x).blk (blk_new _ _) (by simp)) i
  have HM : ∀ x, MemAt (f x) M ws bs := fun x => (h.alloc _).ext0 (hf x)
  have HM' := hid HM
  clear HM hf
  repeat (refine lexX_step rfl rfl (fun K hK => ?_); go_simp; (try go_bits); (try (simp only [↓IntWalk.iteOmega]; go_simp)); (refine hK _ ?_; clear hK K))
  clear g3 HM'
  refine lexX_nil (fun w1 hw1 => ?_)
  have HX := hid (((Ext.refl [] w).alloc (.cells #[.int .u8 1, .int .i64 n, .int .u64 (A.toNat : Int), .int .u64 (B.toNat : Int)] 120)).trans' hw1.of_drew)
  clear hw1
  go_wp2
  go_ret2
  exact ⟨rfl, HX.out⟩
set_option maxRecDepth 100000 in
set_option maxHeartbeats 2000000 in
theorem do_far1 (M : MemId) (ws : List UInt64) (bs : List UInt8) (n : Int) (A B : UInt64) (w : World) (h : MemAt w M ws bs) (hn : (ws.length : Int) ≤ n) :
    Calls Try.prog 79 #[.pointer (some ⟨M.m, 0, none⟩), accV 1 n A B] w (Ret (.tuple #[.int .u64 0, .bool false]) (Ext [] w)) := by
  have hE := Ext.refl []
  have hl := h.wl
  have hl' := h.bl
  have n1 : (decide (n < 0)) = false := by simp; omega
  have n2 : (decide ((ws.length : Int) ≤ n)) = true := by simpa using hn
  unfold accV
  go_enter Try.func79, Try.ntmps79
  go_wp2_with fail
  have L0 := blk_lt h.hm
  refine wp_region_lit_lin [] [0,1,2,3,4,5,6,7,8,9] (Ext [] _) (Ext []) Try.mix (by kernel_rfl) (Ext.refl []) (fun _ _ _ => Ext.trans') (fun _ _ => Ext.trans') ((Ext.refl _ _).drew) (fun X _ f hf => ?_)
  have g3 : ∀ x i, (f x).cell? ⟨w.heap.size, i, none⟩ = (#[.int .u8 1, .int .i64 n, .int .u64 (A.toNat : Int), .int .u64 (B.toNat : Int)] : Array Value)[i]? := fun x i => blk_cell ((hf x).blk (blk_new _ _) (by simp)) i
  have HM : ∀ x, MemAt (f x) M ws bs := fun x => (h.alloc _).ext0 (hf x)
  have HM' := hid HM
  clear HM hf
  repeat (refine lexX_step rfl rfl (fun K hK => ?_); go_simp; (try go_bits); (try (simp only [↓IntWalk.iteOmega]; go_simp)); (refine hK _ ?_; clear hK K))
  refine lexX_step rfl rfl (fun K hK => ?_); go_simp; refine ⟨_, fun x => ret_of (mWords_any M ws bs (f x) (HM'.out x)), hK _ ?_⟩; clear hK K
  repeat (refine lexX_step rfl rfl (fun K hK => ?_); go_simp; (try go_bits); (try (simp only [↓IntWalk.iteOmega]; go_simp)); (refine hK _ ?_; clear hK K))
  clear g3 HM'
  refine lexX_nil (fun w1 hw1 => ?_)
  have HX := hid (((Ext.refl [] w).alloc (.cells #[.int .u8 1, .int .i64 n, .int .u64 (A.toNat : Int), .int .u64 (B.toNat : Int)] 120)).trans' hw1.of_drew)
  clear hw1
  go_wp2
  go_ret2
  exact ⟨rfl, HX.out⟩
set_option maxRecDepth 100000 in
set_option maxHeartbeats 2000000 in
theorem do_neg2 (M : MemId) (ws : List UInt64) (bs : List UInt8) (n : Int) (A B : UInt64) (w : World) (h : MemAt w M ws bs) (hn : n < 0) :
    Calls Try.prog 79 #[.pointer (some ⟨M.m, 0, none⟩), accV 2 n A B] w (Ret (.tuple #[.int .u64 0, .bool false]) (Ext [] w)) := by
  have hE := Ext.refl []
  have hl := h.wl
  have hl' := h.bl
  have n1 : (decide (n < 0)) = true := by simpa using hn
  unfold accV
  go_enter Try.func79, Try.ntmps79
  go_wp2_with fail
  have L0 := blk_lt h.hm
  refine wp_region_lit_lin [] [0,1,2,3,4,5,6,7,8,9] (Ext [] _) (Ext []) Try.mix (by kernel_rfl) (Ext.refl []) (fun _ _ _ => Ext.trans') (fun _ _ => Ext.trans') ((Ext.refl _ _).drew) (fun X _ f hf => ?_)
  have g3 : ∀ x i, (f x).cell? ⟨w.heap.size, i, none⟩ = (#[.int .u8 2, .int .i64 n, .int .u64 (A.toNat : Int), .int .u64 (B.toNat : Int)] : Array Value)[i]? := fun x i => blk_cell ((hf x).blk (blk_new _ _) (by simp)) i
  have HM : ∀ x, MemAt (f x) M ws bs := fun x => (h.alloc _).ext0 (hf x)
  have HM' := hid HM
  clear HM hf
  repeat (refine lexX_step rfl rfl (fun K hK => ?_); go_simp; (try go_bits); (try (simp only [↓IntWalk.iteOmega]; go_simp)); (refine hK _ ?_; clear hK K))
  clear g3 HM'
  refine lexX_nil (fun w1 hw1 => ?_)
  have HX := hid (((Ext.refl [] w).alloc (.cells #[.int .u8 2, .int .i64 n, .int .u64 (A.toNat : Int), .int .u64 (B.toNat : Int)] 120)).trans' hw1.of_drew)
  clear hw1
  go_wp2
  go_ret2
  exact ⟨rfl, HX.out⟩
set_option maxRecDepth 100000 in
set_option maxHeartbeats 2000000 in
theorem do_far2 (M : MemId) (ws : List UInt64) (bs : List UInt8) (n : Int) (A B : UInt64) (w : World) (h : MemAt w M ws bs) (hn : (ws.length : Int) ≤ n) :
    Calls Try.prog 79 #[.pointer (some ⟨M.m, 0, none⟩), accV 2 n A B] w (Ret (.tuple #[.int .u64 0, .bool false]) (Ext [] w)) := by
  have hE := Ext.refl []
  have hl := h.wl
  have hl' := h.bl
  have n1 : (decide (n < 0)) = false := by simp; omega
  have n2 : (decide ((ws.length : Int) ≤ n)) = true := by simpa using hn
  unfold accV
  go_enter Try.func79, Try.ntmps79
  go_wp2_with fail
  have L0 := blk_lt h.hm
  refine wp_region_lit_lin [] [0,1,2,3,4,5,6,7,8,9] (Ext [] _) (Ext []) Try.mix (by kernel_rfl) (Ext.refl []) (fun _ _ _ => Ext.trans') (fun _ _ => Ext.trans') ((Ext.refl _ _).drew) (fun X _ f hf => ?_)
  have g3 : ∀ x i, (f x).cell? ⟨w.heap.size, i, none⟩ = (#[.int .u8 2, .int .i64 n, .int .u64 (A.toNat : Int), .int .u64 (B.toNat : Int)] : Array Value)[i]? := fun x i => blk_cell ((hf x).blk (blk_new _ _) (by simp)) i
  have HM : ∀ x, MemAt (f x) M ws bs := fun x => (h.alloc _).ext0 (hf x)
  have HM' := hid HM
  clear HM hf
  repeat (refine lexX_step rfl rfl (fun K hK => ?_); go_simp; (try go_bits); (try (simp only [↓IntWalk.iteOmega]; go_simp)); (refine hK _ ?_; clear hK K))
  refine lexX_step rfl rfl (fun K hK => ?_); go_simp; refine ⟨_, fun x => ret_of (mWords_any M ws bs (f x) (HM'.out x)), hK _ ?_⟩; clear hK K
  repeat (refine lexX_step rfl rfl (fun K hK => ?_); go_simp; (try go_bits); (try (simp only [↓IntWalk.iteOmega]; go_simp)); (refine hK _ ?_; clear hK K))
  clear g3 HM'
  refine lexX_nil (fun w1 hw1 => ?_)
  have HX := hid (((Ext.refl [] w).alloc (.cells #[.int .u8 2, .int .i64 n, .int .u64 (A.toNat : Int), .int .u64 (B.toNat : Int)] 120)).trans' hw1.of_drew)
  clear hw1
  go_wp2
  go_ret2
  exact ⟨rfl, HX.out⟩
set_option maxRecDepth 100000 in
set_option maxHeartbeats 2000000 in
theorem do_neg3 (M : MemId) (ws : List UInt64) (bs : List UInt8) (n : Int) (A B : UInt64) (w : World) (h : MemAt w M ws bs) (hn : n < 0) :
    Calls Try.prog 79 #[.pointer (some ⟨M.m, 0, none⟩), accV 3 n A B] w (Ret (.tuple #[.int .u64 0, .bool false]) (Ext [] w)) := by
  have hE := Ext.refl []
  have hl := h.wl
  have hl' := h.bl
  have n1 : (decide (n < 0)) = true := by simpa using hn
  unfold accV
  go_enter Try.func79, Try.ntmps79
  go_wp2_with fail
  have L0 := blk_lt h.hm
  refine wp_region_lit_lin [] [0,1,2,3,4,5,6,7,8,9] (Ext [] _) (Ext []) Try.mix (by kernel_rfl) (Ext.refl []) (fun _ _ _ => Ext.trans') (fun _ _ => Ext.trans') ((Ext.refl _ _).drew) (fun X _ f hf => ?_)
  have g3 : ∀ x i, (f x).cell? ⟨w.heap.size, i, none⟩ = (#[.int .u8 3, .int .i64 n, .int .u64 (A.toNat : Int), .int .u64 (B.toNat : Int)] : Array Value)[i]? := fun x i => blk_cell ((hf x).blk (blk_new _ _) (by simp)) i
  have HM : ∀ x, MemAt (f x) M ws bs := fun x => (h.alloc _).ext0 (hf x)
  have HM' := hid HM
  clear HM hf
  repeat (refine lexX_step rfl rfl (fun K hK => ?_); go_simp; (try go_bits); (try (simp only [↓IntWalk.iteOmega]; go_simp)); (refine hK _ ?_; clear hK K))
  clear g3 HM'
  refine lexX_nil (fun w1 hw1 => ?_)
  have HX := hid (((Ext.refl [] w).alloc (.cells #[.int .u8 3, .int .i64 n, .int .u64 (A.toNat : Int), .int .u64 (B.toNat : Int)] 120)).trans' hw1.of_drew)
  clear hw1
  go_wp2
  go_ret2
  exact ⟨rfl, HX.out⟩
set_option maxRecDepth 100000 in
set_option maxHeartbeats 2000000 in
theorem do_far3 (M : MemId) (ws : List UInt64) (bs : List UInt8) (n : Int) (A B : UInt64) (w : World) (h : MemAt w M ws bs) (hn : (ws.length : Int) ≤ n) :
    Calls Try.prog 79 #[.pointer (some ⟨M.m, 0, none⟩), accV 3 n A B] w (Ret (.tuple #[.int .u64 0, .bool false]) (Ext [] w)) := by
  have hE := Ext.refl []
  have hl := h.wl
  have hl' := h.bl
  have n1 : (decide (n < 0)) = false := by simp; omega
  have n2 : (decide ((ws.length : Int) ≤ n)) = true := by simpa using hn
  unfold accV
  go_enter Try.func79, Try.ntmps79
  go_wp2_with fail
  have L0 := blk_lt h.hm
  refine wp_region_lit_lin [] [0,1,2,3,4,5,6,7,8,9] (Ext [] _) (Ext []) Try.mix (by kernel_rfl) (Ext.refl []) (fun _ _ _ => Ext.trans') (fun _ _ => Ext.trans') ((Ext.refl _ _).drew) (fun X _ f hf => ?_)
  have g3 : ∀ x i, (f x).cell? ⟨w.heap.size, i, none⟩ = (#[.int .u8 3, .int .i64 n, .int .u64 (A.toNat : Int), .int .u64 (B.toNat : Int)] : Array Value)[i]? := fun x i => blk_cell ((hf x).blk (blk_new _ _) (by simp)) i
  have HM : ∀ x, MemAt (f x) M ws bs := fun x => (h.alloc _).ext0 (hf x)
  have HM' := hid HM
  clear HM hf
  repeat (refine lexX_step rfl rfl (fun K hK => ?_); go_simp; (try go_bits); (try (simp only [↓IntWalk.iteOmega]; go_simp)); (refine hK _ ?_; clear hK K))
  refine lexX_step rfl rfl (fun K hK => ?_); go_simp; refine ⟨_, fun x => ret_of (mWords_any M ws bs (f x) (HM'.out x)), hK _ ?_⟩; clear hK K
  repeat (refine lexX_step rfl rfl (fun K hK => ?_); go_simp; (try go_bits); (try (simp only [↓IntWalk.iteOmega]; go_simp)); (refine hK _ ?_; clear hK K))
  clear g3 HM'
  refine lexX_nil (fun w1 hw1 => ?_)
  have HX := hid (((Ext.refl [] w).alloc (.cells #[.int .u8 3, .int .i64 n, .int .u64 (A.toNat : Int), .int .u64 (B.toNat : Int)] 120)).trans' hw1.of_drew)
  clear hw1
  go_wp2
  go_ret2
  exact ⟨rfl, HX.out⟩
set_option maxRecDepth 100000 in
set_option maxHeartbeats 2000000 in
theorem do_neg4 (M : MemId) (ws : List UInt64) (bs : List UInt8) (n : Int) (A B : UInt64) (w : World) (h : MemAt w M ws bs) (hn : n < 0) :
    Calls Try.prog 79 #[.pointer (some ⟨M.m, 0, none⟩), accV 4 n A B] w (Ret (.tuple #[.int .u64 0, .bool false]) (Ext [] w)) := by
  have hE := Ext.refl []
  have hl := h.wl
  have hl' := h.bl
  have n1 : (decide (n < 0)) = true := by simpa using hn
  unfold accV
  go_enter Try.func79, Try.ntmps79
  go_wp2_with fail
  have L0 := blk_lt h.hm
  refine wp_region_lit_lin [] [0,1,2,3,4,5,6,7,8,9] (Ext [] _) (Ext []) Try.mix (by kernel_rfl) (Ext.refl []) (fun _ _ _ => Ext.trans') (fun _ _ => Ext.trans') ((Ext.refl _ _).drew) (fun X _ f hf => ?_)
  have g3 : ∀ x i, (f x).cell? ⟨w.heap.size, i, none⟩ = (#[.int .u8 4, .int .i64 n, .int .u64 (A.toNat : Int), .int .u64 (B.toNat : Int)] : Array Value)[i]? := fun x i => blk_cell ((hf x).blk (blk_new _ _) (by simp)) i
  have HM : ∀ x, MemAt (f x) M ws bs := fun x => (h.alloc _).ext0 (hf x)
  have HM' := hid HM
  clear HM hf
  repeat (refine lexX_step rfl rfl (fun K hK => ?_); go_simp; (try go_bits); (try (simp only [↓IntWalk.iteOmega]; go_simp)); (refine hK _ ?_; clear hK K))
  clear g3 HM'
  refine lexX_nil (fun w1 hw1 => ?_)
  have HX := hid (((Ext.refl [] w).alloc (.cells #[.int .u8 4, .int .i64 n, .int .u64 (A.toNat : Int), .int .u64 (B.toNat : Int)] 120)).trans' hw1.of_drew)
  clear hw1
  go_wp2
  go_ret2
  exact ⟨rfl, HX.out⟩
set_option maxRecDepth 100000 in
set_option maxHeartbeats 2000000 in
theorem do_far4 (M : MemId) (ws : List UInt64) (bs : List UInt8) (n : Int) (A B : UInt64) (w : World) (h : MemAt w M ws bs) (hn : (ws.length : Int) ≤ n) :
    Calls Try.prog 79 #[.pointer (some ⟨M.m, 0, none⟩), accV 4 n A B] w (Ret (.tuple #[.int .u64 0, .bool false]) (Ext [] w)) := by
  have hE := Ext.refl []
  have hl := h.wl
  have hl' := h.bl
  have n1 : (decide (n < 0)) = false := by simp; omega
  have n2 : (decide ((ws.length : Int) ≤ n)) = true := by simpa using hn
  unfold accV
  go_enter Try.func79, Try.ntmps79
  go_wp2_with fail
  have L0 := blk_lt h.hm
  refine wp_region_lit_lin [] [0,1,2,3,4,5,6,7,8,9] (Ext [] _) (Ext []) Try.mix (by kernel_rfl) (Ext.refl []) (fun _ _ _ => Ext.trans') (fun _ _ => Ext.trans') ((Ext.refl _ _).drew) (fun X _ f hf => ?_)
  have g3 : ∀ x i, (f x).cell? ⟨w.heap.size, i, none⟩ = (#[.int .u8 4, .int .i64 n, .int .u64 (A.toNat : Int), .int .u64 (B.toNat : Int)] : Array Value)[i]? := fun x i => blk_cell ((hf x).blk (blk_new _ _) (by simp)) i
  have HM : ∀ x, MemAt (f x) M ws bs := fun x => (h.alloc _).ext0 (hf x)
  have HM' := hid HM
  clear HM hf
  repeat (refine lexX_step rfl rfl (fun K hK => ?_); go_simp; (try go_bits); (try (simp only [↓IntWalk.iteOmega]; go_simp)); (refine hK _ ?_; clear hK K))
  refine lexX_step rfl rfl (fun K hK => ?_); go_simp; refine ⟨_, fun x => ret_of (mWords_any M ws bs (f x) (HM'.out x)), hK _ ?_⟩; clear hK K
  repeat (refine lexX_step rfl rfl (fun K hK => ?_); go_simp; (try go_bits); (try (simp only [↓IntWalk.iteOmega]; go_simp)); (refine hK _ ?_; clear hK K))
  clear g3 HM'
  refine lexX_nil (fun w1 hw1 => ?_)
  have HX := hid (((Ext.refl [] w).alloc (.cells #[.int .u8 4, .int .i64 n, .int .u64 (A.toNat : Int), .int .u64 (B.toNat : Int)] 120)).trans' hw1.of_drew)
  clear hw1
  go_wp2
  go_ret2
  exact ⟨rfl, HX.out⟩
end Go.Proofs.Ytjdbknnacaacaaa
namespace Go.Proofs.Ytjdbknnacaacaaa
open Go Go.RowKit
set_option linter.unusedSimpArgs false
set_option linter.unusedVariables false
def MemNew (w : World) (ws : List UInt64) (bs : List UInt8) (e : Ending) (w' : World) : Prop :=
  ∃ M : MemId, e = .returned (.tuple #[.pointer (some ⟨M.m, 0, none⟩), .int .i64 0]) ∧ MemAt w' M ws bs ∧ Ext [] w w' ∧ w.heap.size ≤ M.m ∧ w.heap.size ≤ M.bw ∧ w.heap.size ≤ M.bb
theorem made_w (a : Nat) : madeCells #[.int .u64 0] (a * 1) = wcells (List.replicate a 0) := by
  apply Array.ext_getElem?
  intro j
  by_cases h : j < a
  · simp [madeCells, wcells, h, Nat.mod_one]
  · simp [madeCells, wcells, h]
theorem made_b (a : Nat) : madeCells #[.int .u8 0] (a * 1) = bcells (List.replicate a 0) := by
  apply Array.ext_getElem?
  intro j
  by_cases h : j < a
  · simp [madeCells, bcells, h, Nat.mod_one]
  · simp [madeCells, bcells, h]
theorem Try.infoU64 : (Try.prog.info? 30).map (fun i => (i.zero, i.size, i.bytes)) = some (some (.int .u64 0), 1, 8) := by kernel_rfl
theorem Try.infoU8 : (Try.prog.info? 5).map (fun i => (i.zero, i.size, i.bytes)) = some (some (.int .u8 0), 1, 1) := by kernel_rfl
theorem make_w (a : Nat) (ha : a ≤ 2097152) (v : World) : (Instr.makeSlice 116 (.int .i64 a) (.int .i64 a)).run Try.prog v = .ok (.slice (some ⟨v.heap.size, 0, none⟩) a a) (v.alloc (.cells (wcells (List.replicate a 0)) 30)) := by
  obtain ⟨i, hi, hz, hs, hb⟩ := info_parts Try.infoU64
  have h := run_make (P := Try.prog) v 116 30 i _ Try.underlying116 hi hz .i64 .i64 (a : Int) (a : Int) (by omega) (by omega) (by rw [hb]; omega) (by omega)
  rw [h, hs, ← made_w]; rfl
theorem make_b (a : Nat) (ha : a ≤ 1048576) (v : World) : (Instr.makeSlice 151 (.int .i64 a) (.int .i64 a)).run Try.prog v = .ok (.slice (some ⟨v.heap.size, 0, none⟩) a a) (v.alloc (.cells (bcells (List.replicate a 0)) 5)) := by
  obtain ⟨i, hi, hz, hs, hb⟩ := info_parts Try.infoU8
  have h := run_make (P := Try.prog) v 151 5 i _ Try.underlying151 hi hz .i64 .i64 (a : Int) (a : Int) (by omega) (by omega) (by rw [hb]; omega) (by omega)
  rw [h, hs, ← made_b]; rfl
set_option maxRecDepth 100000 in
set_option maxHeartbeats 1000000 in
theorem mNew_any (a b : Nat) (w : World) (ha : a ≤ 2097152) (hb : b ≤ 1048576) :
    Calls Try.prog 114 #[.int .i64 a, .int .i64 b] w (MemNew w (List.replicate a 0) (List.replicate b 0)) := by
  have hm1 := make_w a ha
  have hm2 := make_b b hb
  go_enter Try.func114, Try.ntmps114
  go_wp2_with fail
  go_region
  · go_wp2
    go_ret2
    refine ⟨⟨w.heap.size + 1 + 1, w.heap.size, w.heap.size + 1, #[], #[]⟩, rfl, ⟨?_, ?_, ?_, by simpa using ha, by simpa using hb⟩, ?_, by simp; omega, by simp, by simp⟩
    · simp [go_sem, memC, List.length_replicate]
    · simp [go_sem]
    · simp [go_sem]
    · exact ((((Ext.refl [] w).alloc _).alloc _).alloc _).drew
  · go_wp2
    go_ret2
    refine ⟨⟨w.heap.size + 1 + 1, w.heap.size + 1, w.heap.size, #[], #[]⟩, rfl, ⟨?_, ?_, ?_, by simpa using ha, by simpa using hb⟩, ?_, by simp; omega, by simp, by simp⟩
    · simp [go_sem, memC, List.length_replicate]
    · simp [go_sem]
    · simp [go_sem]
    · exact ((((Ext.refl [] w).alloc _).alloc _).alloc _).drew
def wAt (ws : List UInt64) (n : Int) : Option UInt64 := if n < 0 then none else ws[n.toNat]?
def kNow (k : Nat) (x A B : UInt64) : UInt64 := match k with
  | 1 => x | 2 => A | 3 => if x = A then B else x | _ => x + A
def kTold (k : Nat) (x A : UInt64) : UInt64 := match k with
  | 1 => x | 2 => 0 | 3 => if x = A then 1 else 0 | _ => x
def wT (k : Nat) (n : Int) (A : UInt64) (ws : List UInt64) : UInt64 := match wAt ws n with
  | none => 0 | some x => kTold k x A
def wS (k : Nat) (n : Int) (A B : UInt64) (ws : List UInt64) : List UInt64 := match wAt ws n with
  | none => ws | some x => ws.set n.toNat (kNow k x A B)
theorem wAt_in {ws : List UInt64} {n : Nat} (h : n < ws.length) : wAt ws n = some ws[n] := by unfold wAt; rw [if_neg (by omega)]; simp [h]
theorem wAt_neg {ws : List UInt64} {n : Int} (h : n < 0) : wAt ws n = none := if_pos h
theorem wAt_far {ws : List UInt64} {n : Int} (h : (ws.length : Int) ≤ n) : wAt ws n = none := by unfold wAt; rw [if_neg (by omega)]; simp; omega
theorem wS_length (k : Nat) (n : Int) (A B : UInt64) (ws : List UInt64) : (wS k n A B ws).length = ws.length := by unfold wS; split <;> simp
theorem set_same {ws : List UInt64} {n : Nat} (h : n < ws.length) : ws.set n ws[n] = ws := by
  apply List.ext_getElem?; intro j
  rw [List.getElem?_set]; split
  · rename_i e; subst e; simp [h]
  · rfl
def DoSaid (M : MemId) (k : Nat) (n : Int) (A B : UInt64) (ws : List UInt64) (bs : List UInt8) (w : World) (e : Ending) (w' : World) : Prop :=
  e = .returned (.tuple #[.int .u64 ((wT k n A ws).toNat : Int), .bool (wAt ws n).isSome]) ∧ MemAt w' M (wS k n A B ws) bs ∧ Ext [M.bw] w w'
theorem do_word (M : MemId) (ws : List UInt64) (bs : List UInt8) (k : Nat) (kv : Int) (n : Int) (A B : UInt64) (w : World) (h : MemAt w M ws bs) (hkv : kv = k) (hk1 : 1 ≤ k) (hk : k ≤ 4) :
    Calls Try.prog 79 #[.pointer (some ⟨M.m, 0, none⟩), accV kv n A B] w (DoSaid M k n A B ws bs w) := by
  subst hkv
  by_cases h0 : n < 0
  · have hn := wAt_neg (ws := ws) h0
    have key : Calls Try.prog 79 #[.pointer (some ⟨M.m, 0, none⟩), accV k n A B] w (Ret (.tuple #[.int .u64 0, .bool false]) (Ext [] w)) := by
      match k, hk1, hk with
      | 1, _, _ => exact do_neg1 M ws bs n A B w h h0
      | 2, _, _ => exact do_neg2 M ws bs n A B w h h0
      | 3, _, _ => exact do_neg3 M ws bs n A B w h h0
      | 4, _, _ => exact do_neg4 M ws bs n A B w h h0
    refine key.mono fun e w' ⟨he, hx⟩ => ⟨?_, ?_, hx.mono (by simp)⟩
    · simp only [wT, hn]; exact he
    · simp only [wS, hn]; exact h.ext0 hx
  by_cases h1 : (ws.length : Int) ≤ n
  · have hn := wAt_far h1
    have key : Calls Try.prog 79 #[.pointer (some ⟨M.m, 0, none⟩), accV k n A B] w (Ret (.tuple #[.int .u64 0, .bool false]) (Ext [] w)) := by
      match k, hk1, hk with
      | 1, _, _ => exact do_far1 M ws bs n A B w h h1
      | 2, _, _ => exact do_far2 M ws bs n A B w h h1
      | 3, _, _ => exact do_far3 M ws bs n A B w h h1
      | 4, _, _ => exact do_far4 M ws bs n A B w h h1
    refine key.mono fun e w' ⟨he, hx⟩ => ⟨?_, ?_, hx.mono (by simp)⟩
    · simp only [wT, hn]; exact he
    · simp only [wS, hn]; exact h.ext0 hx
  · obtain ⟨m, rfl⟩ := Int.eq_ofNat_of_zero_le (show 0 ≤ n by omega)
    have hm : m < ws.length := by omega
    have hn := wAt_in hm
    unfold DoSaid
    simp only [wT, wS, hn, Int.toNat_natCast, Option.isSome_some]
    match k, hk1, hk with
    | 1, _, _ => exact do_load M ws bs m A B w h hm
    | 2, _, _ => exact do_store M ws bs m A B w h hm
    | 3, _, _ =>
      by_cases hx : ws[m] = A
      · subst hx
        simp only [kTold, kNow, if_true]
        exact do_cash M ws bs m B w h hm
      · simp only [kTold, kNow, hx, if_false]
        exact do_casm M ws bs m A B w h hm hx
    | 4, _, _ => exact do_add M ws bs m A B w h hm
set_option maxHeartbeats 1000000 in
theorem mWord_any (M : MemId) (ws : List UInt64) (bs : List UInt8) (n : Int) (w : World) (h : MemAt w M ws bs) :
    Calls Try.prog 25 #[.pointer (some ⟨M.m, 0, none⟩), .int .i64 n] w (fun e w' => e = .returned (.int .u64 ((wT 1 n 0 ws).toNat : Int)) ∧ MemAt w' M ws bs ∧ Ext [M.bw] w w') := by
  have hs : wS 1 n 0 0 ws = ws := by
    unfold wS
    split
    · rfl
    · rename_i x hx
      unfold wAt at hx
      split at hx
      · cases hx
      · obtain ⟨hl, rfl⟩ := List.getElem?_eq_some_iff.1 hx
        exact set_same hl
  have H := hid (do_word M ws bs 1 1 n 0 0 w h rfl (by omega) (by omega))
  have HS := hid hs
  clear h hs
  go_enter Try.func25, Try.ntmps25
  go_wp2_with fail
  refine H.out.mono ?_
  rintro e w1 ⟨rfl, h1, x1⟩
  rw [HS.out] at h1
  have H1 := hid h1
  have X1 := hid x1
  clear h1 x1
  go_wp2
  go_ret
  exact ⟨rfl, H1.out, X1.out⟩
end Go.Proofs.Ytjdbknnacaacaaa
namespace Go.Proofs.Ytjdbknnacaacaaa
open Go Go.RowKit
set_option linter.unusedSimpArgs false
set_option linter.unusedVariables false
def pgU (k n : Nat) : UInt64 := UInt64.ofNat (k + n * 8)
theorem pgU_nat {k n : Nat} (hk : k < 8388608) (hn : n < 1024) : (pgU k n).toNat = k + n * 8 := by unfold pgU; simp; omega
def kd (w : UInt64) : Nat := w.toNat / 2 ^ 0 % 2 ^ 3
def ln (w : UInt64) : Nat := w.toNat / 2 ^ 3 % 2 ^ 10
theorem ln_pgU {k n : Nat} (hk : k < 8388608 ∧ k % 8192 < 8) (hn : n < 1024) : ln (pgU k n) = n := by unfold ln; rw [pgU_nat hk.1 hn]; omega
theorem kd_pgU' {k n : Nat} (hk : k < 8388608) (hn : n < 1024) : kd (pgU k n) = k % 8 := by unfold kd; rw [pgU_nat hk hn]; omega
abbrev Rn := Nat × Nat
def tot : List Rn → Nat
  | [] => 0
  | r :: L => r.2 + tot L
theorem tot_append : ∀ (A C : List Rn), tot (A ++ C) = tot A + tot C
  | [], C => by simp [tot]
  | r :: A, C => by simp only [List.cons_append, tot, tot_append A C]; omega
def pw : List Rn → Nat → UInt64
  | [], _ => 0
  | r :: L, x => if x = 0 then pgU r.1 r.2 else if x < r.2 then (if r.1 = 1 ∧ x + 1 = r.2 then pgU 2 r.2 else 0) else pw L (x - r.2)
def Kd (q : Nat) : Prop := q = 1 ∨ q = 4 ∨ q = 5 ∨ (q % 8192 = 3 ∧ q < 8388608)
def Pos (L : List Rn) : Prop := ∀ r ∈ L, 1 ≤ r.2 ∧ Kd r.1
theorem Pos.cons {r : Rn} {L : List Rn} : Pos (r :: L) ↔ (1 ≤ r.2 ∧ Kd r.1) ∧ Pos L := by simp [Pos]
theorem Pos.append {A C : List Rn} : Pos (A ++ C) ↔ Pos A ∧ Pos C := by
  simp only [Pos, List.mem_append]
  exact ⟨fun h => ⟨fun r hr => h r (.inl hr), fun r hr => h r (.inr hr)⟩, fun ⟨h1, h2⟩ r hr => hr.elim (h1 r) (h2 r)⟩
theorem Pos.nil : Pos [] := fun _ h => by cases h
theorem pw_left : ∀ {A : List Rn} (C : List Rn) {x : Nat}, Pos A → x < tot A → pw (A ++ C) x = pw A x
  | [], _, _, _, h => by simp [tot] at h
  | r :: A, C, x, hp, h => by
    obtain ⟨h1, h2⟩ := Pos.cons.1 hp
    simp only [tot] at h
    simp only [List.cons_append, pw]
    split
    · rfl
    · split
      · rfl
      · rw [pw_left C h2 (by omega)]
theorem pw_right : ∀ {A : List Rn} (C : List Rn) (z : Nat), Pos A → pw (A ++ C) (tot A + z) = pw C z
  | [], _, _, _ => by simp [tot]
  | r :: A, C, z, hp => by
    obtain ⟨h1, h2⟩ := Pos.cons.1 hp
    simp only [List.cons_append, pw, tot]
    rw [if_neg (by omega), if_neg (by omega), show r.2 + tot A + z - r.2 = tot A + z by omega, pw_right C z h2]
theorem pw_head {A C : List Rn} {r : Rn} (hp : Pos A) : pw (A ++ r :: C) (tot A) = pgU r.1 r.2 := by
  have := pw_right (r :: C) 0 hp
  rw [Nat.add_zero] at this
  rw [this]; simp [pw]
def headF : List Rn → Bool
  | [] => false
  | r :: _ => decide (r.1 = 1)
def lastF : List Rn → Bool
  | [] => false
  | [r] => decide (r.1 = 1)
  | _ :: y :: L => lastF (y :: L)
def fr (n : Nat) : List Rn := match n with | 0 => [] | n + 1 => [(1, n + 1)]
theorem fr_0 : fr 0 = [] := rfl
theorem fr_pos {n : Nat} (h : 0 < n) : fr n = [(1, n)] := by cases n with | zero => omega | succ n => rfl
theorem tot_fr (n : Nat) : tot (fr n) = n := by cases n <;> simp [fr, tot]
theorem pos_fr (n : Nat) : Pos (fr n) := by
  cases n with
  | zero => exact Pos.nil
  | succ n => intro r hr; simp only [fr, List.mem_singleton] at hr; subst hr; exact ⟨by simp, .inl rfl⟩
def up (P : Nat → UInt64) (x : Nat) (v : UInt64) : Nat → UInt64 := fun y => if y = x then v else P y
def zer (P : Nat → UInt64) (a b : Nat) : Nat → UInt64 := fun y => if a ≤ y ∧ y < b then 0 else P y
def layP (P : Nat → UInt64) (a n : Nat) : Nat → UInt64 := fun y => if n = 0 then P y else if y = a then pgU 1 n else if y + 1 = a + n ∧ 1 < n then pgU 2 n else P y
theorem up_eq {P : Nat → UInt64} {x : Nat} {v : UInt64} {y : Nat} (h : y = x) : up P x v y = v := if_pos h
theorem up_ne {P : Nat → UInt64} {x : Nat} {v : UInt64} {y : Nat} (h : y ≠ x) : up P x v y = P y := if_neg h
theorem zer_in {P : Nat → UInt64} {a b y : Nat} (h : a ≤ y ∧ y < b) : zer P a b y = 0 := if_pos h
theorem zer_out {P : Nat → UInt64} {a b y : Nat} (h : ¬ (a ≤ y ∧ y < b)) : zer P a b y = P y := if_neg h
theorem layP_out {P : Nat → UInt64} {a n y : Nat} (h : ¬ (a ≤ y ∧ y < a + n)) : layP P a n y = P y := by
  unfold layP
  split
  · rfl
  · rw [if_neg (by omega), if_neg (by omega)]
theorem layP_in {P : Nat → UInt64} {a n y : Nat} (h : a ≤ y ∧ y < a + n) : layP P a n y = if y = a then pgU 1 n else if y + 1 = a + n then pgU 2 n else P y := by
  unfold layP
  rw [if_neg (by omega)]
  split
  · rfl
  · split
    · rw [if_pos (by omega)]
    · rw [if_neg (by omega)]
theorem pw_fr {f : Nat} {D : List Rn} {z : Nat} (h : z < f) : pw (fr f ++ D) z = if z = 0 then pgU 1 f else if z + 1 = f then pgU 2 f else 0 := by
  rw [fr_pos (by omega)]
  simp only [List.cons_append, pw, h, if_true, true_and]
theorem pw_fr_right {f : Nat} {D : List Rn} (z : Nat) : pw (fr f ++ D) (f + z) = pw D z := by
  have := pw_right (A := fr f) D z (pos_fr f)
  rwa [tot_fr] at this
theorem pw_use {k n : Nat} {D : List Rn} {z : Nat} (hk : k ≠ 1) (h : z < n) : pw ((k, n) :: D) z = if z = 0 then pgU k n else 0 := by
  simp only [pw, h, if_true, hk, false_and, if_false]
theorem pw_past {k n : Nat} {D : List Rn} (z : Nat) (hn : 1 ≤ n) : pw ((k, n) :: D) (n + z) = pw D z := by
  simp only [pw]
  rw [if_neg (by omega), if_neg (by omega), Nat.add_sub_cancel_left]
theorem pw_free {n : Nat} {D : List Rn} {z : Nat} (h : z < n) : pw ((1, n) :: D) z = if z = 0 then pgU 1 n else if z + 1 = n then pgU 2 n else 0 := by
  have := pw_fr (D := D) h
  rwa [fr_pos (by omega)] at this
theorem alloc_pw {A C : List Rn} {f k r : Nat} (hp : Pos A) (hk : 1 ≤ k) (x : Nat) :
    layP (layP (up (zer (pw (A ++ (1, f + k + r) :: C)) (tot A + f + 1) (tot A + f + k)) (tot A + f) (pgU 4 k)) (tot A) f) (tot A + f + k) r x = pw (A ++ (fr f ++ (4, k) :: (fr r ++ C))) x := by
  by_cases hx : x < tot A
  · rw [layP_out (by omega), layP_out (by omega), up_ne (by omega), zer_out (by omega), pw_left _ hp hx, pw_left _ hp hx]
  · obtain ⟨z, rfl⟩ : ∃ z, x = tot A + z := ⟨x - tot A, by omega⟩
    rw [pw_right _ z hp]
    by_cases h1 : z < f
    · rw [layP_out (by omega), layP_in (by omega), up_ne (by omega), zer_out (by omega), pw_right _ z hp, pw_fr h1, pw_free (by omega)]
      by_cases h2 : z = 0
      · simp (disch := omega) only [if_pos]
      · by_cases h3 : z + 1 = f
        · simp (disch := omega) only [if_pos, if_neg]
        · simp (disch := omega) only [if_neg]
    obtain ⟨z, rfl⟩ : ∃ y, z = f + y := ⟨z - f, by omega⟩
    rw [pw_fr_right]
    by_cases h2 : z < k
    · rw [layP_out (by omega), layP_out (by omega), pw_use (by decide) h2]
      by_cases h3 : z = 0
      · rw [up_eq (by omega), if_pos h3]
      · rw [up_ne (by omega), if_neg h3, zer_in (by omega)]
    obtain ⟨z, rfl⟩ : ∃ y, z = k + y := ⟨z - k, by omega⟩
    rw [pw_past _ hk]
    by_cases h3 : z < r
    · rw [layP_in (by omega), layP_out (by omega), up_ne (by omega), zer_out (by omega), pw_right _ _ hp, pw_fr h3, pw_free (by omega)]
      by_cases h4 : z = 0
      · simp (disch := omega) only [if_pos]
      · by_cases h5 : z + 1 = r
        · simp (disch := omega) only [if_pos, if_neg]
        · simp (disch := omega) only [if_neg]
    obtain ⟨z, rfl⟩ : ∃ y, z = r + y := ⟨z - r, by omega⟩
    rw [layP_out (by omega), layP_out (by omega), up_ne (by omega), zer_out (by omega), pw_right _ _ hp, pw_fr_right]
    have := pw_past (k := 1) (n := f + k + r) (D := C) z (by omega)
    rw [← this]; congr 1; omega
def bn (L : List Rn) (b : Nat) : Nat := L.countP fun r => decide (r.1 = 1 ∧ r.2.log2 = b)
theorem bn_append (A C : List Rn) (b : Nat) : bn (A ++ C) b = bn A b + bn C b := List.countP_append
theorem bn_cons (r : Rn) (L : List Rn) (b : Nat) : bn (r :: L) b = bn L b + if r.1 = 1 ∧ r.2.log2 = b then 1 else 0 := by
  unfold bn; rw [List.countP_cons]; simp
theorem bn_fr (n b : Nat) : bn (fr n) b = if 0 < n ∧ n.log2 = b then 1 else 0 := by
  cases n with
  | zero => simp [fr, bn]
  | succ n => rw [fr_pos (by omega), bn_cons]; simp [bn]
def bw (L : List Rn) (b : Nat) : UInt64 := UInt64.ofNat (bn L b)
def ad (B : Nat → UInt64) (x : Nat) (v : UInt64) : Nat → UInt64 := fun y => if y = x then B y + v else B y
def layB (B : Nat → UInt64) (n : Nat) : Nat → UInt64 := if n = 0 then B else ad B n.log2 1
theorem layB_at (B : Nat → UInt64) (n b : Nat) : layB B n b = B b + UInt64.ofNat (bn (fr n) b) := by
  unfold layB
  rw [bn_fr]
  split
  · rename_i h; subst h; simp
  · unfold ad
    by_cases h : b = n.log2
    · rw [if_pos h, if_pos ⟨by omega, h.symm⟩]; rfl
    · rw [if_neg h, if_neg (fun k => h k.2.symm)]; simp
def lessB (B : Nat → UInt64) (n : Nat) : Nat → UInt64 := ad B n.log2 (0 - 1)
theorem lessB_at (B : Nat → UInt64) {n : Nat} (hn : 0 < n) (b : Nat) : lessB B n b = B b - UInt64.ofNat (bn (fr n) b) := by
  unfold lessB ad
  rw [bn_fr]
  by_cases h : b = n.log2
  · rw [if_pos h, if_pos ⟨hn, h.symm⟩]
    rw [UInt64.zero_sub, ← UInt64.sub_eq_add_neg]; rfl
  · rw [if_neg h, if_neg (fun k => h k.2.symm)]; simp
theorem u64_move (x y z : Nat) (h : x + z = y) : UInt64.ofNat y - UInt64.ofNat z = UInt64.ofNat x := by
  subst h
  rw [UInt64.ofNat_add]
  rw [UInt64.add_sub_cancel]
theorem alloc_bw {A C : List Rn} {f k r : Nat} (hk : 1 ≤ k) (b : Nat) : layB (layB (lessB (bw (A ++ (1, f + k + r) :: C)) (f + k + r)) f) r b = bw (A ++ (fr f ++ (4, k) :: (fr r ++ C))) b := by
  rw [layB_at, layB_at, lessB_at _ (by omega)]
  unfold bw
  have e1 : bn (A ++ (1, f + k + r) :: C) b = bn (A ++ C) b + bn (fr (f + k + r)) b := by
    rw [fr_pos (by omega), bn_append, bn_append, bn_cons, bn_cons]; simp [bn]; omega
  rw [u64_move (bn (A ++ C) b) _ _ e1.symm, ← UInt64.ofNat_add, ← UInt64.ofNat_add]
  congr 1
  rw [bn_append, bn_append, bn_append, bn_cons, bn_append]
  simp; omega
end Go.Proofs.Ytjdbknnacaacaaa
