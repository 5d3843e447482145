/-
  Package port: what is told: contracts of Tell, Told and Fresh of a direct port.
-/
import Derived.Test.YtceddijolfpppaaPort
namespace Go.Proofs.Ytceddijolfpppaa
open Go Go.RowKit
set_option linter.unusedSimpArgs false
set_option linter.unusedVariables false

/-- What was told lies there. -/
def ResAt (w : World) (b : Nat) (cs : Array Value) : Prop := blk w b = some (.cells cs 113 (0, 0))

theorem DirAt.c2 {w : World} {D : DirId} {m : Nat} {me : Int} {told : Value} {steps : Nat} (h : DirAt w D m me told steps) : w.cell? ⟨D.d, 2, none⟩ = some told := blk_cell h.hd 2
theorem DirAt.tell {w : World} {D : DirId} {m : Nat} {me : Int} {told : Value} {steps : Nat} (h : DirAt w D m me told steps) (v : Value) : DirAt (w.setCell ⟨D.d, 2, none⟩ v) D m me v steps :=
  ⟨by rw [blk_setCell h.hd]; rfl, by rw [blk_set _ _ _ _ h.ne_dv.symm, h.hv]⟩

set_option maxHeartbeats 1000000 in
theorem pTell_any (D : DirId) (m : Nat) (me : Int) (told : Value) (steps : Nat) (cs : Array Value) (w : World) (h : DirAt w D m me told steps) :
    Calls Try.prog 178 #[.pointer (some ⟨D.d, 0, none⟩), .agg cs] w (fun e w' => e = .returned (.tuple #[]) ∧ ∃ b, w.heap.size ≤ b ∧ ResAt w' b cs ∧ DirAt w' D m me (.pointer (some ⟨b, 0, none⟩)) steps ∧ Ext [D.d] w w') := by
  have hc := h.c0
  have hc2 := h.c2
  have hd := blk_lt h.hd
  have f1 := blk_free h.hd 2
  have H := hid h
  clear h
  go_enter Try.func178, Try.ntmps178
  go_wp2
  go_end0
  exact ⟨rfl, w.heap.size, Nat.le_refl _, by simp [ResAt, go_sem], (H.out.tell _).ext0 ((Ext.refl [] _).alloc _), ((Ext.refl [D.d] w).setCell (.inl (by simp)) _).alloc _⟩

set_option maxHeartbeats 1000000 in
theorem pFresh_any (D : DirId) (m : Nat) (me : Int) (told : Value) (steps : Nat) (w : World) (h : DirAt w D m me told steps) :
    Calls Try.prog 84 #[.pointer (some ⟨D.d, 0, none⟩)] w (fun e w' => e = .returned (.tuple #[]) ∧ DirAt w' D m me (.pointer none) 0 ∧ Ext [D.d, D.v] w w') := by
  have H := hid h
  clear h
  go_enter Try.func84, Try.ntmps84
  go_wp2_with fail
  refine (way_any D m me told steps _ H.out).mono ?_
  rintro e w1 ⟨rfl, x1⟩
  have h1 := H.out.ext0 x1
  have hc := h1.c0
  have hc1 := h1.v1
  have hc2 := h1.c2
  have f1 := blk_free h1.hd 2
  have f2 := blk_free h1.hv 1
  have X1 := hid x1
  have H1 := hid h1
  clear x1 h1
  go_wp2
  go_end0
  have h2 := (H1.out.step 0).tell (.pointer none)
  exact ⟨rfl, h2, Ext.of0 X1.out (((Ext.refl [D.d, D.v] w1).setCell (.inl (by simp)) _).setCell (.inl (by simp)) _)⟩

set_option maxHeartbeats 1000000 in
theorem pTold_none (D : DirId) (m : Nat) (me : Int) (steps : Nat) (w : World) (h : DirAt w D m me (.pointer none) steps) :
    Calls Try.prog 87 #[.pointer (some ⟨D.d, 0, none⟩)] w (Ret (.tuple #[.agg #[.int .i64 0, .int .i64 0, .int .u8 0, .int .u64 0, .int .u64 0, .int .u64 0, .int .u64 0, .int .u64 0, .int .i64 0, .int .i64 0, .int .i64 0], .bool false]) (Ext [] w)) := by
  have hc := h.c2
  have hd := blk_lt h.hd
  have H := hid h
  clear h
  go_enter Try.func87, Try.ntmps87
  go_wp2
  refine bodyPost_ret (v := .tuple #[.agg #[.int .i64 0, .int .i64 0, .int .u8 0, .int .u64 0, .int .u64 0, .int .u64 0, .int .u64 0, .int .u64 0, .int .i64 0, .int .i64 0, .int .i64 0], .bool false]) (by simp [results, Try.results87, go_sem]) rfl ⟨rfl, (Ext.refl [] _).alloc _⟩

section
theorem loadAt_res (v : Value) : Instr.loadAt 113 v = oldLoadAt 113 v := rfl
theorem storeAt_res (v u : Value) : Instr.storeAt 113 v u = oldStoreAt 113 v u := rfl
theorem run_load_res (w : World) (b : Nat) : (oldLoadAt 113 (.pointer (some ⟨b, 0, none⟩))).run Try.prog w = rowLoad Try.prog 113 11 w b :=
  run_load_row Try.underlying113 rfl (by kernel_rfl) w b
theorem run_store_res (w : World) (b : Nat) (cs : Array Value) : (oldStoreAt 113 (.pointer (some ⟨b, 0, none⟩)) (.agg cs)).run Try.prog w = rowStore Try.prog 113 11 w b cs :=
  run_store_row (by kernel_rfl) w b cs
attribute [local go_sem] run_load_res run_store_res
attribute [local go_sem ↓] loadAt_res storeAt_res
set_option maxHeartbeats 1000000 in
theorem pTold_some (D : DirId) (m : Nat) (me : Int) (steps b : Nat) (cs : Array Value) (w : World) (hs : sizeIs cs 11 = true) (h : DirAt w D m me (.pointer (some ⟨b, 0, none⟩)) steps) (hr : ResAt w b cs) :
    Calls Try.prog 87 #[.pointer (some ⟨D.d, 0, none⟩)] w (Ret (.tuple #[.agg cs, .bool true]) (Ext [] w)) := by
  have hc := h.c2
  have hd := blk_lt h.hd
  have hb := blk_lt hr
  have hr' : blk w b = some (.cells cs 113 (0, 0)) := hr
  clear h hr
  go_enter Try.func87, Try.ntmps87
  go_wp2
  have hsz := sizeIs_size hs
  clear hs hr'
  obtain ⟨l⟩ := cs
  obtain ⟨a0, a1, a2, a3, a4, a5, a6, a7, a8, a9, a10, rfl⟩ : ∃ a0 a1 a2 a3 a4 a5 a6 a7 a8 a9 a10, l = [a0, a1, a2, a3, a4, a5, a6, a7, a8, a9, a10] := by
    match l, hsz with
    | [a0, a1, a2, a3, a4, a5, a6, a7, a8, a9, a10], _ => exact ⟨_, _, _, _, _, _, _, _, _, _, _, rfl⟩
  refine bodyPost_ret (v := .tuple #[.agg #[a0, a1, a2, a3, a4, a5, a6, a7, a8, a9, a10], .bool true]) (by simp [results, Try.results87, go_sem]) rfl ⟨rfl, (Ext.refl [] _).alloc _⟩
end
end Go.Proofs.Ytceddijolfpppaa
