/-
  Package mem: shared words and bytes. What a memory is in a world (MemAt); contracts of its functions.
  Conditions: the memory is there.
-/
import Derived.Test.YtceddijolfpppaaGeo
import Derived.Laws.EntriesVeiled
namespace Go.Proofs.Ytceddijolfpppaa
open Go Go.RowKit
set_option linter.unusedSimpArgs false
set_option linter.unusedVariables false

def wcells (ws : List UInt64) : Array Value := (ws.map fun x => Value.int .u64 (x.toNat : Int)).toArray
def bcells (bs : List UInt8) : Array Value := (bs.map fun x => Value.int .u8 (x.toNat : Int)).toArray

theorem wcells_at {ws : List UInt64} {i : Nat} (h : i < ws.length) : (wcells ws)[i]? = some (.int .u64 (ws[i].toNat : Int)) := by simp [wcells, h]
theorem bcells_at {bs : List UInt8} {i : Nat} (h : i < bs.length) : (bcells bs)[i]? = some (.int .u8 (bs[i].toNat : Int)) := by simp [bcells, h]
theorem wcells_size (ws : List UInt64) : (wcells ws).size = ws.length := by simp [wcells]
theorem bcells_size (bs : List UInt8) : (bcells bs).size = bs.length := by simp [bcells]
theorem wcells_in {ws : List UInt64} {p : Array Value} {i : Nat} (h : i < ws.length) : (wcells ws ++ p)[i]? = some (.int .u64 (ws[i].toNat : Int)) := by
  rw [Array.getElem?_append_left (by rw [wcells_size]; exact h), wcells_at h]
theorem bcells_in {bs : List UInt8} {p : Array Value} {i : Nat} (h : i < bs.length) : (bcells bs ++ p)[i]? = some (.int .u8 (bs[i].toNat : Int)) := by
  rw [Array.getElem?_append_left (by rw [bcells_size]; exact h), bcells_at h]
theorem wcells_set (ws : List UInt64) (i : Nat) (x : UInt64) : (wcells ws).setIfInBounds i (.int .u64 (x.toNat : Int)) = wcells (ws.set i x) := by
  simp [wcells, List.map_set]
theorem bcells_set (bs : List UInt8) (i : Nat) (x : UInt8) : (bcells bs).setIfInBounds i (.int .u8 (x.toNat : Int)) = bcells (bs.set i x) := by
  simp [bcells, List.map_set]

theorem wset_in {ws : List UInt64} {p : Array Value} {i : Nat} (h : i < ws.length) (x : UInt64) : (wcells ws ++ p).setIfInBounds i (.int .u64 (x.toNat : Int)) = wcells (ws.set i x) ++ p := by
  rw [Array.setIfInBounds_append_left (by rw [wcells_size]; exact h), wcells_set]
theorem bset_in {bs : List UInt8} {p : Array Value} {i : Nat} (h : i < bs.length) (x : UInt8) : (bcells bs ++ p).setIfInBounds i (.int .u8 (x.toNat : Int)) = bcells (bs.set i x) ++ p := by
  rw [Array.setIfInBounds_append_left (by rw [bcells_size]; exact h), bcells_set]

/-- Where a memory lies: itself, its words, its bytes; what room lies behind these. -/
structure MemId where
  m : Nat
  bw : Nat
  bb : Nat
  pw : Array Value := #[]
  pb : Array Value := #[]

def memC (M : MemId) (ws : List UInt64) (bs : List UInt8) : Array Value :=
  #[.slice (some ⟨M.bw, 0, none⟩) ws.length (ws.length + M.pw.size), .slice (some ⟨M.bb, 0, none⟩) bs.length (bs.length + M.pb.size)]

/-- In world w lies memory M, of these words and bytes. -/
structure MemAt (w : World) (M : MemId) (ws : List UInt64) (bs : List UInt8) : Prop where
  hm : blk w M.m = some (.cells (memC M ws bs) 173 (0, 0))
  hw : blk w M.bw = some (.cells (wcells ws ++ M.pw) 49 (0, 0))
  hb : blk w M.bb = some (.cells (bcells bs ++ M.pb) 5 (0, 0))
  wl : ws.length ≤ 2097152
  bl : bs.length ≤ 1048576

theorem cells_type {w : World} {a b : Nat} {c d : Array Value} {s t : TypeId} {f g : Nat × Nat} (h : blk w a = some (.cells c s f)) (k : blk w b = some (.cells d t g)) (hne : s ≠ t) : a ≠ b := by
  rintro rfl
  rw [h] at k
  injection k with k
  injection k with _ k _
  exact hne k

theorem MemAt.ext {w w' : World} {M : MemId} {ws : List UInt64} {bs : List UInt8} {X : List Nat} (h : MemAt w M ws bs) (k : Ext X w w') (h1 : M.m ∉ X) (h2 : M.bw ∉ X) (h3 : M.bb ∉ X) : MemAt w' M ws bs :=
  ⟨k.blk h.hm h1, k.blk h.hw h2, k.blk h.hb h3, h.wl, h.bl⟩
theorem MemAt.ext0 {w w' : World} {M : MemId} {ws : List UInt64} {bs : List UInt8} (h : MemAt w M ws bs) (k : Ext [] w w') : MemAt w' M ws bs := h.ext k (by simp) (by simp) (by simp)
theorem MemAt.ne_mw {w : World} {M : MemId} {ws : List UInt64} {bs : List UInt8} (h : MemAt w M ws bs) : M.m ≠ M.bw := cells_type h.hm h.hw (by decide)
theorem MemAt.ne_mb {w : World} {M : MemId} {ws : List UInt64} {bs : List UInt8} (h : MemAt w M ws bs) : M.m ≠ M.bb := cells_type h.hm h.hb (by decide)
theorem MemAt.ne_wb {w : World} {M : MemId} {ws : List UInt64} {bs : List UInt8} (h : MemAt w M ws bs) : M.bw ≠ M.bb := cells_type h.hw h.hb (by decide)
theorem MemAt.c0 {w : World} {M : MemId} {ws : List UInt64} {bs : List UInt8} (h : MemAt w M ws bs) : w.cell? ⟨M.m, 0, none⟩ = some (.slice (some ⟨M.bw, 0, none⟩) ws.length (ws.length + M.pw.size)) := blk_cell h.hm 0
theorem MemAt.c1 {w : World} {M : MemId} {ws : List UInt64} {bs : List UInt8} (h : MemAt w M ws bs) : w.cell? ⟨M.m, 1, none⟩ = some (.slice (some ⟨M.bb, 0, none⟩) bs.length (bs.length + M.pb.size)) := blk_cell h.hm 1
theorem MemAt.cw {w : World} {M : MemId} {ws : List UInt64} {bs : List UInt8} (h : MemAt w M ws bs) {i : Nat} (hi : i < ws.length) : w.cell? ⟨M.bw, i, none⟩ = some (.int .u64 (ws[i].toNat : Int)) := (blk_cell h.hw i).trans (wcells_in hi)
theorem MemAt.cb {w : World} {M : MemId} {ws : List UInt64} {bs : List UInt8} (h : MemAt w M ws bs) {i : Nat} (hi : i < bs.length) : w.cell? ⟨M.bb, i, none⟩ = some (.int .u8 (bs[i].toNat : Int)) := (blk_cell h.hb i).trans (bcells_in hi)
theorem MemAt.setW {w : World} {M : MemId} {ws : List UInt64} {bs : List UInt8} (h : MemAt w M ws bs) (i : Nat) (x : UInt64) (hi : i < ws.length) : MemAt (w.setCell ⟨M.bw, i, none⟩ (.int .u64 (x.toNat : Int))) M (ws.set i x) bs :=
  ⟨by rw [blk_set _ _ _ _ h.ne_mw, h.hm]; simp [memC], by rw [blk_setCell h.hw, wset_in hi], by rw [blk_set _ _ _ _ h.ne_wb.symm, h.hb], by simpa using h.wl, h.bl⟩
theorem MemAt.setB {w : World} {M : MemId} {ws : List UInt64} {bs : List UInt8} (h : MemAt w M ws bs) (i : Nat) (x : UInt8) (hi : i < bs.length) : MemAt (w.setCell ⟨M.bb, i, none⟩ (.int .u8 (x.toNat : Int))) M ws (bs.set i x) :=
  ⟨by rw [blk_set _ _ _ _ h.ne_mb, h.hm]; simp [memC], by rw [blk_set _ _ _ _ h.ne_wb, h.hw], by rw [blk_setCell h.hb, bset_in hi], h.wl, by simpa using h.bl⟩
theorem MemAt.drew {w : World} {M : MemId} {ws : List UInt64} {bs : List UInt8} (h : MemAt w M ws bs) : MemAt w.drew M ws bs := ⟨h.hm, h.hw, h.hb, h.wl, h.bl⟩
theorem MemAt.alloc {w : World} {M : MemId} {ws : List UInt64} {bs : List UInt8} (h : MemAt w M ws bs) (o : Obj) : MemAt (w.alloc o) M ws bs := h.ext0 ((Ext.refl [] w).alloc o)

/-- An access. -/
def accV (k at' : Int) (A B : UInt64) : Value := .agg #[.int .u8 k, .int .i64 at', .int .u64 (A.toNat : Int), .int .u64 (B.toNat : Int)]

theorem u64_add (a b : UInt64) : IntKind.u64.wrap ((a.toNat : Int) + (b.toNat : Int)) = ((a + b).toNat : Int) := by
  have h := UInt64.toNat_add a b
  rw [IntKind.wrap_u64]; omega
theorem u64_eq (a b : UInt64) : ((a.toNat : Int) == (b.toNat : Int)) = (a == b) := by
  rw [Bool.eq_iff_iff]; simp only [beq_iff_eq]
  constructor
  · intro h; exact UInt64.toNat_inj.1 (by omega)
  · rintro rfl; rfl
theorem u64_ne (a b : UInt64) : ((a.toNat : Int) != (b.toNat : Int)) = (a != b) := by
  simp only [bne, u64_eq]

theorem Ext.cell' {X : List Nat} {a b : World} (h : Ext X a b) {p : Addr} {v : Value} (hc : a.cell? p = some v) (hx : p.block ∉ X) : b.cell? p = some v :=
  (h.cell (World.block_lt_of_cell? _ _ hc) hx).trans hc


set_option maxHeartbeats 400000 in
theorem mWords_any (M : MemId) (ws : List UInt64) (bs : List UInt8) (w : World) (h : MemAt w M ws bs) :
    Calls Try.prog 124 #[.pointer (some ⟨M.m, 0, none⟩)] w (Ret (.int .i64 (ws.length : Int)) (Ext [] w)) := by
  have hc := h.c0
  have H := hid h
  clear h
  go_enter Try.func124, Try.ntmps124
  go_wp2
  go_ret
  exact ⟨rfl, Ext.refl _ _⟩

set_option maxHeartbeats 400000 in
theorem mBytes_any (M : MemId) (ws : List UInt64) (bs : List UInt8) (w : World) (h : MemAt w M ws bs) :
    Calls Try.prog 125 #[.pointer (some ⟨M.m, 0, none⟩)] w (Ret (.int .i64 (bs.length : Int)) (Ext [] w)) := by
  have hc := h.c1
  have H := hid h
  clear h
  go_enter Try.func125, Try.ntmps125
  go_wp2
  go_ret
  exact ⟨rfl, Ext.refl _ _⟩

theorem kinds_any (w : World) : Calls Try.prog 136 #[] w (Ret (.agg #[.nilFunc, .func (.func 149) #[] #[], .func (.func 150) #[] #[], .func (.func 151) #[] #[], .func (.func 152) #[] #[]]) (Ext [] w)) := by
  go_enter Try.func136, Try.ntmps136
  go_wp2
  refine bodyPost_ret (v := .agg #[.nilFunc, .func (.func 149) #[] #[], .func (.func 150) #[] #[], .func (.func 151) #[] #[], .func (.func 152) #[] #[]]) (by simp [results, Try.results136, go_sem]) rfl ⟨rfl, (Ext.refl [] _).alloc _⟩

theorem kindsAt1 (w : World) : (Instr.index 187 (.agg #[.nilFunc, .func (.func 149) #[] #[], .func (.func 150) #[] #[], .func (.func 151) #[] #[], .func (.func 152) #[] #[]]) (.int .u8 1)).run Try.prog w = .ok (.func (.func 149) #[] #[]) w := by kernel_rfl
theorem kindsAt2 (w : World) : (Instr.index 187 (.agg #[.nilFunc, .func (.func 149) #[] #[], .func (.func 150) #[] #[], .func (.func 151) #[] #[], .func (.func 152) #[] #[]]) (.int .u8 2)).run Try.prog w = .ok (.func (.func 150) #[] #[]) w := by kernel_rfl
theorem kindsAt3 (w : World) : (Instr.index 187 (.agg #[.nilFunc, .func (.func 149) #[] #[], .func (.func 150) #[] #[], .func (.func 151) #[] #[], .func (.func 152) #[] #[]]) (.int .u8 3)).run Try.prog w = .ok (.func (.func 151) #[] #[]) w := by kernel_rfl
theorem kindsAt4 (w : World) : (Instr.index 187 (.agg #[.nilFunc, .func (.func 149) #[] #[], .func (.func 150) #[] #[], .func (.func 151) #[] #[], .func (.func 152) #[] #[]]) (.int .u8 4)).run Try.prog w = .ok (.func (.func 152) #[] #[]) w := by kernel_rfl
attribute [local go_sem] kindsAt1 kindsAt2 kindsAt3 kindsAt4

theorem kind1_any (x A B : UInt64) (k a : Int) (w : World) : Calls Try.prog 149 #[.int .u64 (x.toNat : Int), (.agg #[.int .u8 k, .int .i64 a, .int .u64 (A.toNat : Int), .int .u64 (B.toNat : Int)])] w (Ret (.tuple #[.int .u64 (x.toNat : Int), .int .u64 (x.toNat : Int)]) (Ext [] w)) := by
  go_enter Try.func149, Try.ntmps149
  go_wp2
  go_ret2
  exact ⟨rfl, (Ext.refl [] _).alloc _⟩
theorem kind2_any (x A B : UInt64) (k a : Int) (w : World) : Calls Try.prog 150 #[.int .u64 (x.toNat : Int), (.agg #[.int .u8 k, .int .i64 a, .int .u64 (A.toNat : Int), .int .u64 (B.toNat : Int)])] w (Ret (.tuple #[.int .u64 (A.toNat : Int), .int .u64 0]) (Ext [] w)) := by
  go_enter Try.func150, Try.ntmps150
  go_wp2
  go_ret2
  exact ⟨rfl, (Ext.refl [] _).alloc _⟩
theorem kind3_hit (x B : UInt64) (k a : Int) (w : World) : Calls Try.prog 151 #[.int .u64 (x.toNat : Int), (.agg #[.int .u8 k, .int .i64 a, .int .u64 (x.toNat : Int), .int .u64 (B.toNat : Int)])] w (Ret (.tuple #[.int .u64 (B.toNat : Int), .int .u64 1]) (Ext [] w)) := by
  go_enter Try.func151, Try.ntmps151
  go_wp2
  go_ret2
  exact ⟨rfl, (Ext.refl [] _).alloc _⟩
theorem kind3_miss (x A B : UInt64) (k a : Int) (w : World) (h : x ≠ A) : Calls Try.prog 151 #[.int .u64 (x.toNat : Int), (.agg #[.int .u8 k, .int .i64 a, .int .u64 (A.toNat : Int), .int .u64 (B.toNat : Int)])] w (Ret (.tuple #[.int .u64 (x.toNat : Int), .int .u64 0]) (Ext [] w)) := by
  have hn : ((x.toNat : Int) != (A.toNat : Int)) = true := by rw [u64_ne]; simpa using h
  go_enter Try.func151, Try.ntmps151
  go_wp2
  go_ret2
  exact ⟨rfl, (Ext.refl [] _).alloc _⟩
theorem kind4_any (x A B : UInt64) (k a : Int) (w : World) : Calls Try.prog 152 #[.int .u64 (x.toNat : Int), (.agg #[.int .u8 k, .int .i64 a, .int .u64 (A.toNat : Int), .int .u64 (B.toNat : Int)])] w (Ret (.tuple #[.int .u64 ((x + A).toNat : Int), .int .u64 (x.toNat : Int)]) (Ext [] w)) := by
  have hs := u64_add x A
  go_enter Try.func152, Try.ntmps152
  go_wp2
  go_ret2
  exact ⟨rfl, (Ext.refl [] _).alloc _⟩


end Go.Proofs.Ytceddijolfpppaa
