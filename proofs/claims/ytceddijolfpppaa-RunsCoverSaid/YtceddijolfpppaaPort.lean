/-
  Package port: the direct port. What a port is in a world (DirAt); contracts of its methods, and of the calls through an api.Port that holds one.
  Conditions: the port and its memory are there.
-/
import Derived.Test.YtceddijolfpppaaMem2
namespace Go.Proofs.Ytceddijolfpppaa
open Go Go.RowKit
set_option linter.unusedSimpArgs false
set_option linter.unusedVariables false

/-- Where a port lies: itself, its way. -/
structure DirId where
  d : Nat
  v : Nat

/-- In world w lies port D, to the memory at block m, of that thread, with so many steps. -/
structure DirAt (w : World) (D : DirId) (m : Nat) (me : Int) (told : Value) (steps : Nat) : Prop where
  hd : blk w D.d = some (.cells #[.pointer (some ⟨D.v, 0, none⟩), .int .i64 me, told] 138 (0, 0))
  hv : blk w D.v = some (.cells #[.pointer (some ⟨m, 0, none⟩), .int .i64 (steps : Int)] 135 (0, 0))

/-- The port, as an api.Port. -/
def portV (D : DirId) : Value := .iface 33 (.pointer (some ⟨D.d, 0, none⟩))

section
variable {w w' : World} {D : DirId} {m : Nat} {me : Int} {told : Value} {steps : Nat} {M : MemId} {ws : List UInt64} {bs : List UInt8}
theorem DirAt.ext {X : List Nat} (h : DirAt w D m me told steps) (k : Ext X w w') (h1 : D.d ∉ X) (h2 : D.v ∉ X) : DirAt w' D m me told steps := ⟨k.blk h.hd h1, k.blk h.hv h2⟩
theorem DirAt.ext0 (h : DirAt w D m me told steps) (k : Ext [] w w') : DirAt w' D m me told steps := h.ext k (by simp) (by simp)
theorem DirAt.ne_dv (h : DirAt w D m me told steps) : D.d ≠ D.v := cells_type h.hd h.hv (by decide)
theorem DirAt.ne_dw (h : DirAt w D m me told steps) (k : MemAt w M ws bs) : D.d ≠ M.bw := cells_type h.hd k.hw (by decide)
theorem DirAt.ne_vw (h : DirAt w D m me told steps) (k : MemAt w M ws bs) : D.v ≠ M.bw := cells_type h.hv k.hw (by decide)
theorem DirAt.ne_vm (h : DirAt w D m me told steps) (k : MemAt w M ws bs) : D.v ≠ M.m := cells_type h.hv k.hm (by decide)
theorem DirAt.ne_vb (h : DirAt w D m me told steps) (k : MemAt w M ws bs) : D.v ≠ M.bb := cells_type h.hv k.hb (by decide)
theorem DirAt.ne_dm (h : DirAt w D m me told steps) (k : MemAt w M ws bs) : D.d ≠ M.m := cells_type h.hd k.hm (by decide)
theorem DirAt.c0 (h : DirAt w D m me told steps) : w.cell? ⟨D.d, 0, none⟩ = some (.pointer (some ⟨D.v, 0, none⟩)) := blk_cell h.hd 0
theorem DirAt.c1 (h : DirAt w D m me told steps) : w.cell? ⟨D.d, 1, none⟩ = some (.int .i64 me) := blk_cell h.hd 1
theorem DirAt.v0 (h : DirAt w D m me told steps) : w.cell? ⟨D.v, 0, none⟩ = some (.pointer (some ⟨m, 0, none⟩)) := blk_cell h.hv 0
theorem DirAt.v1 (h : DirAt w D m me told steps) : w.cell? ⟨D.v, 1, none⟩ = some (.int .i64 (steps : Int)) := blk_cell h.hv 1
theorem DirAt.step (h : DirAt w D m me told steps) (n : Nat) : DirAt (w.setCell ⟨D.v, 1, none⟩ (.int .i64 (n : Int))) D m me told n :=
  ⟨by rw [blk_set _ _ _ _ h.ne_dv, h.hd], by rw [blk_setCell h.hv]; rfl⟩
end

/-- A new port. -/
def DirNew (w : World) (m : Nat) (me : Int) (e : Ending) (w' : World) : Prop :=
  ∃ D : DirId, e = .returned (.pointer (some ⟨D.d, 0, none⟩)) ∧ DirAt w' D m me (.pointer none) 0 ∧ Ext [] w w' ∧ w.heap.size ≤ D.d ∧ w.heap.size ≤ D.v

set_option maxHeartbeats 400000 in
theorem pNew_any (m : Nat) (me : Int) (w : World) :
    Calls Try.prog 19 #[.pointer (some ⟨m, 0, none⟩), .int .i64 me] w (DirNew w m me) := by
  go_enter Try.func19, Try.ntmps19
  go_wp2
  go_ret
  exact ⟨⟨w.heap.size + 1, w.heap.size⟩, rfl, ⟨by simp [go_sem], by simp [go_sem]⟩, ((Ext.refl [] w).alloc _).alloc _, by simp, by simp⟩

set_option maxHeartbeats 400000 in
theorem way_any (D : DirId) (m : Nat) (me : Int) (told : Value) (steps : Nat) (w : World) (h : DirAt w D m me told steps) :
    Calls Try.prog 97 #[.pointer (some ⟨D.d, 0, none⟩)] w (Ret (.pointer (some ⟨D.v, 0, none⟩)) (Ext [] w)) := by
  have hc := h.c0
  clear h
  go_enter Try.func97, Try.ntmps97
  go_wp2
  go_ret
  exact ⟨rfl, Ext.refl _ _⟩

/-- Behind calls by a port that have begun in world w: its steps, the words. -/
def PS (D : DirId) (M : MemId) (me : Int) (told : Value) (steps : Nat) (ws : List UInt64) (bs : List UInt8) (w : World) (w' : World) : Prop :=
  DirAt w' D M.m me told steps ∧ MemAt w' M ws bs ∧ Ext [D.v, M.bw] w w'

set_option maxHeartbeats 2000000 in
theorem wdo_word (D : DirId) (M : MemId) (me : Int) (told : Value) (steps : Nat) (ws : List UInt64) (bs : List UInt8) (k : Nat) (kv : Int) (n : Int) (A B : UInt64) (w : World)
    (hD : DirAt w D M.m me told steps) (hM : MemAt w M ws bs) (hkv : kv = k) (hk1 : 1 ≤ k) (hk : k ≤ 4) (hs : steps ≤ 1000000000000) :
    Calls Try.prog 108 #[.pointer (some ⟨D.v, 0, none⟩), .int .u8 kv, .int .i64 n, .int .u64 (A.toNat : Int), .int .u64 (B.toNat : Int)] w
      (Ret (.int .u64 ((wT k n A ws).toNat : Int)) (PS D M me told (steps + 1) (wS k n A B ws) bs w)) := by
  have c0 := hD.v0
  have c1 := hD.v1
  have f1 := blk_free hD.hv 1
  have n1 := hD.ne_vm hM
  have n2 := hD.ne_vw hM
  have n3 := hD.ne_vb hM
  have HD := hid hD
  have HM := hid hM
  have HK := hid (And.intro hkv (And.intro hk1 hk))
  clear hD hM hkv hk1 hk
  go_enter Try.func108, Try.ntmps108
  go_wp2_with fail
  have h1 := HD.out.step (steps + 1)
  have h2 : MemAt (w.setCell ⟨D.v, 1, none⟩ (.int .i64 ((steps + 1 : Nat) : Int))) M ws bs := HM.out.ext ((Ext.refl [D.v] w).setCell (.inl (by simp)) _) (by simpa using fun e => n1 e.symm) (by simpa using fun e => n2 e.symm) (by simpa using fun e => n3 e.symm)
  have e1 : ((steps + 1 : Nat) : Int) = (steps : Int) + 1 := by omega
  rw [e1] at h1 h2
  refine (do_word M ws bs k kv n A B _ h2 HK.out.1 HK.out.2.1 HK.out.2.2).mono ?_
  rintro e w1 ⟨rfl, h3, x3⟩
  have h4 := h1.ext x3 (by simpa using HD.out.ne_dw HM.out) (by simpa using n2)
  have x4 : Ext [D.v, M.bw] w w1 := ((Ext.refl [D.v, M.bw] w).setCell (p := ⟨D.v, 1, none⟩) (.inl (by simp)) (.int .i64 ((steps : Int) + 1))).trans' (x3.mono (by simp))
  have P := hid (And.intro h4 (And.intro h3 x4))
  clear h1 h2 h3 h4 x3 x4 e1 c0 c1 f1 n1 n2 n3
  go_wp2
  go_ret
  exact ⟨rfl, P.out⟩

set_option maxHeartbeats 1000000 in
theorem pLoad_any (D : DirId) (M : MemId) (me : Int) (told : Value) (steps : Nat) (ws : List UInt64) (bs : List UInt8) (n : Int) (w : World)
    (hD : DirAt w D M.m me told steps) (hM : MemAt w M ws bs) (hs : steps ≤ 1000000000000) :
    Calls Try.prog 44 #[.pointer (some ⟨D.d, 0, none⟩), .int .i64 n] w
      (Ret (.int .u64 ((wT 1 n 0 ws).toNat : Int)) (PS D M me told (steps + 1) (wS 1 n 0 0 ws) bs w)) := by
  have HD := hid hD
  have HM := hid hM
  clear hD hM
  go_enter Try.func44, Try.ntmps44
  go_wp2_with fail
  refine (way_any D M.m me told steps _ HD.out).mono ?_
  rintro e w1 ⟨rfl, x1⟩
  have hD1 := HD.out.ext0 x1
  have hM1 := HM.out.ext0 x1
  have X1 := hid x1
  clear x1
  have HD1 := hid hD1
  have HM1 := hid hM1
  clear hD1 hM1
  go_wp2_with fail
  refine (wdo_word D M me told steps ws bs 1 1 n 0 0 w1 HD1.out HM1.out rfl (by omega) (by omega) hs).mono ?_
  rintro e w2 ⟨rfl, hD2, hM2, x2⟩
  have P := hid (And.intro hD2 (And.intro hM2 (Ext.of0 X1.out x2)))
  clear hD2 hM2 x2
  go_wp2
  go_ret
  exact ⟨rfl, P.out⟩

set_option maxHeartbeats 1000000 in
theorem pStore_any (D : DirId) (M : MemId) (me : Int) (told : Value) (steps : Nat) (ws : List UInt64) (bs : List UInt8) (n : Int) (A : UInt64) (w : World)
    (hD : DirAt w D M.m me told steps) (hM : MemAt w M ws bs) (hs : steps ≤ 1000000000000) :
    Calls Try.prog 52 #[.pointer (some ⟨D.d, 0, none⟩), .int .i64 n, .int .u64 (A.toNat : Int)] w
      (Ret (.tuple #[]) (PS D M me told (steps + 1) (wS 2 n A 0 ws) bs w)) := by
  have HD := hid hD
  have HM := hid hM
  clear hD hM
  go_enter Try.func52, Try.ntmps52
  go_wp2_with fail
  refine (way_any D M.m me told steps _ HD.out).mono ?_
  rintro e w1 ⟨rfl, x1⟩
  have hD1 := HD.out.ext0 x1
  have hM1 := HM.out.ext0 x1
  have X1 := hid x1
  clear x1
  have HD1 := hid hD1
  have HM1 := hid hM1
  clear hD1 hM1
  go_wp2_with fail
  refine (wdo_word D M me told steps ws bs 2 2 n A 0 w1 HD1.out HM1.out rfl (by omega) (by omega) hs).mono ?_
  rintro e w2 ⟨rfl, hD2, hM2, x2⟩
  have P := hid (And.intro hD2 (And.intro hM2 (Ext.of0 X1.out x2)))
  clear hD2 hM2 x2
  go_wp2
  go_end0
  exact ⟨rfl, P.out⟩

set_option maxHeartbeats 1000000 in
theorem pAdd_any (D : DirId) (M : MemId) (me : Int) (told : Value) (steps : Nat) (ws : List UInt64) (bs : List UInt8) (n : Int) (A : UInt64) (w : World)
    (hD : DirAt w D M.m me told steps) (hM : MemAt w M ws bs) (hs : steps ≤ 1000000000000) :
    Calls Try.prog 173 #[.pointer (some ⟨D.d, 0, none⟩), .int .i64 n, .int .u64 (A.toNat : Int)] w
      (Ret (.int .u64 ((wT 4 n A ws).toNat : Int)) (PS D M me told (steps + 1) (wS 4 n A 0 ws) bs w)) := by
  have HD := hid hD
  have HM := hid hM
  clear hD hM
  go_enter Try.func173, Try.ntmps173
  go_wp2_with fail
  refine (way_any D M.m me told steps _ HD.out).mono ?_
  rintro e w1 ⟨rfl, x1⟩
  have hD1 := HD.out.ext0 x1
  have hM1 := HM.out.ext0 x1
  have X1 := hid x1
  clear x1
  have HD1 := hid hD1
  have HM1 := hid hM1
  clear hD1 hM1
  go_wp2_with fail
  refine (wdo_word D M me told steps ws bs 4 4 n A 0 w1 HD1.out HM1.out rfl (by omega) (by omega) hs).mono ?_
  rintro e w2 ⟨rfl, hD2, hM2, x2⟩
  have P := hid (And.intro hD2 (And.intro hM2 (Ext.of0 X1.out x2)))
  clear hD2 hM2 x2
  go_wp2
  go_ret
  exact ⟨rfl, P.out⟩

set_option maxHeartbeats 1000000 in
theorem pCAS_any (D : DirId) (M : MemId) (me : Int) (told : Value) (steps : Nat) (ws : List UInt64) (bs : List UInt8) (n : Int) (A : UInt64) (B : UInt64) (w : World)
    (hD : DirAt w D M.m me told steps) (hM : MemAt w M ws bs) (hs : steps ≤ 1000000000000) :
    Calls Try.prog 174 #[.pointer (some ⟨D.d, 0, none⟩), .int .i64 n, .int .u64 (A.toNat : Int), .int .u64 (B.toNat : Int)] w
      (Ret (.bool (wT 3 n A ws == 1)) (PS D M me told (steps + 1) (wS 3 n A B ws) bs w)) := by
  have HD := hid hD
  have HM := hid hM
  clear hD hM
  go_enter Try.func174, Try.ntmps174
  go_wp2_with fail
  refine (way_any D M.m me told steps _ HD.out).mono ?_
  rintro e w1 ⟨rfl, x1⟩
  have hD1 := HD.out.ext0 x1
  have hM1 := HM.out.ext0 x1
  have X1 := hid x1
  clear x1
  have HD1 := hid hD1
  have HM1 := hid hM1
  clear hD1 hM1
  go_wp2_with fail
  refine (wdo_word D M me told steps ws bs 3 3 n A B w1 HD1.out HM1.out rfl (by omega) (by omega) hs).mono ?_
  rintro e w2 ⟨rfl, hD2, hM2, x2⟩
  have P := hid (And.intro hD2 (And.intro hM2 (Ext.of0 X1.out x2)))
  clear hD2 hM2 x2
  have he : ((((wT 3 n A ws).toNat : Nat) : Int) == 1) = (wT 3 n A ws == 1) := u64_eq (wT 3 n A ws) 1
  go_wp2
  go_ret
  exact ⟨rfl, P.out⟩

set_option maxHeartbeats 400000 in
theorem pSelf_any (D : DirId) (me : Int) (w : World) (hc : w.cell? ⟨D.d, 1, none⟩ = some (.int .i64 me)) :
    Calls Try.prog 177 #[.pointer (some ⟨D.d, 0, none⟩)] w (Ret (.int .i64 me) (Ext [] w)) := by
  go_enter Try.func177, Try.ntmps177
  go_wp2
  go_ret
  exact ⟨rfl, Ext.refl _ _⟩

set_option maxHeartbeats 400000 in
theorem pSteps_any (D : DirId) (m : Nat) (me : Int) (told : Value) (steps : Nat) (w : World) (h : DirAt w D m me told steps) :
    Calls Try.prog 29 #[.pointer (some ⟨D.d, 0, none⟩)] w (Ret (.int .i64 (steps : Int)) (Ext [] w)) := by
  have H := hid h
  clear h
  go_enter Try.func29, Try.ntmps29
  go_wp2_with fail
  refine (way_any D m me told steps _ H.out).mono ?_
  rintro e w1 ⟨rfl, x1⟩
  have h1 := H.out.ext0 x1
  have hc := h1.c0
  have hc1 := h1.v1
  have X1 := hid x1
  clear x1 h1
  go_wp2
  go_ret
  exact ⟨rfl, X1.out⟩


/-! ### calls through an api.Port -/

theorem cas_hit {ws : List UInt64} {n : Int} {A : UInt64} (h : wAt ws n = some A) (B : UInt64) : (wT 3 n A ws == 1) = true ∧ wS 3 n A B ws = ws.set n.toNat B := by
  simp [wT, wS, h, kTold, kNow]
theorem wAt_set {ws : List UInt64} {n : Int} {x : UInt64} (h : wAt ws n = some x) : ws.set n.toNat x = ws := by
  unfold wAt at h
  split at h
  · cases h
  · obtain ⟨hl, rfl⟩ := List.getElem?_eq_some_iff.1 h
    exact set_same hl
theorem cas_miss {ws : List UInt64} {n : Int} {A : UInt64} (h : wAt ws n ≠ some A) (B : UInt64) : (wT 3 n A ws == 1) = false ∧ wS 3 n A B ws = ws := by
  cases hx : wAt ws n with
  | none => simp [wT, wS, hx]
  | some x =>
    have hne : x ≠ A := fun e => h (by rw [hx, e])
    simp [wT, wS, hx, kTold, kNow, hne, wAt_set hx]
theorem load_same (n : Int) (A B : UInt64) (ws : List UInt64) : wS 1 n A B ws = ws := by
  cases hx : wAt ws n with
  | none => simp [wS, hx]
  | some x => simp [wS, hx, kNow, wAt_set hx]

theorem PS.trans {D : DirId} {M : MemId} {me : Int} {told : Value} {s s' : Nat} {ws ws' : List UInt64} {bs bs' : List UInt8} {a b c : World} (h : PS D M me told s ws bs a b) (k : PS D M me told s' ws' bs' b c) : PS D M me told s' ws' bs' a c :=
  ⟨k.1, k.2.1, h.2.2.trans' k.2.2⟩
theorem PS.ext0 {D : DirId} {M : MemId} {me : Int} {told : Value} {s : Nat} {ws : List UInt64} {bs : List UInt8} {a b c : World} (h : PS D M me told s ws bs a b) (k : Ext [] b c) : PS D M me told s ws bs a c :=
  ⟨h.1.ext0 k, h.2.1.ext0 k, h.2.2.trans0 k⟩
theorem PS.of0 {D : DirId} {M : MemId} {me : Int} {told : Value} {s : Nat} {ws : List UInt64} {bs : List UInt8} {a b c : World} (h : Ext [] a b) (k : PS D M me told s ws bs b c) : PS D M me told s ws bs a c :=
  ⟨k.1, k.2.1, Ext.of0 h k.2.2⟩
theorem PS.refl {D : DirId} {M : MemId} {me : Int} {told : Value} {s : Nat} {ws : List UInt64} {bs : List UInt8} {a : World} (h : DirAt a D M.m me told s) (k : MemAt a M ws bs) : PS D M me told s ws bs a a := ⟨h, k, Ext.refl _ _⟩

theorem meth_Load (n : Nat) (a : Addr) (w : World) : (method (n + 1) 33 (.pointer (some a)) "Load").run Try.prog w = .ok (44, .pointer (some a)) w := by kernel_rfl
theorem nila_Load (n : Nat) (a : Addr) (w : World) : (nilAhead (n + 1) 33 (.pointer (some a)) "Load").run Try.prog w = .ok (some false) w := by kernel_rfl
attribute [go_sem] meth_Load nila_Load

theorem meth_Store (n : Nat) (a : Addr) (w : World) : (method (n + 1) 33 (.pointer (some a)) "Store").run Try.prog w = .ok (52, .pointer (some a)) w := by kernel_rfl
theorem nila_Store (n : Nat) (a : Addr) (w : World) : (nilAhead (n + 1) 33 (.pointer (some a)) "Store").run Try.prog w = .ok (some false) w := by kernel_rfl
attribute [go_sem] meth_Store nila_Store

theorem meth_CAS (n : Nat) (a : Addr) (w : World) : (method (n + 1) 33 (.pointer (some a)) "CAS").run Try.prog w = .ok (174, .pointer (some a)) w := by kernel_rfl
theorem nila_CAS (n : Nat) (a : Addr) (w : World) : (nilAhead (n + 1) 33 (.pointer (some a)) "CAS").run Try.prog w = .ok (some false) w := by kernel_rfl
attribute [go_sem] meth_CAS nila_CAS

theorem meth_Add (n : Nat) (a : Addr) (w : World) : (method (n + 1) 33 (.pointer (some a)) "Add").run Try.prog w = .ok (173, .pointer (some a)) w := by kernel_rfl
theorem nila_Add (n : Nat) (a : Addr) (w : World) : (nilAhead (n + 1) 33 (.pointer (some a)) "Add").run Try.prog w = .ok (some false) w := by kernel_rfl
attribute [go_sem] meth_Add nila_Add

theorem meth_Get (n : Nat) (a : Addr) (w : World) : (method (n + 1) 33 (.pointer (some a)) "Get").run Try.prog w = .ok (175, .pointer (some a)) w := by kernel_rfl
theorem nila_Get (n : Nat) (a : Addr) (w : World) : (nilAhead (n + 1) 33 (.pointer (some a)) "Get").run Try.prog w = .ok (some false) w := by kernel_rfl
attribute [go_sem] meth_Get nila_Get

theorem meth_Put (n : Nat) (a : Addr) (w : World) : (method (n + 1) 33 (.pointer (some a)) "Put").run Try.prog w = .ok (176, .pointer (some a)) w := by kernel_rfl
theorem nila_Put (n : Nat) (a : Addr) (w : World) : (nilAhead (n + 1) 33 (.pointer (some a)) "Put").run Try.prog w = .ok (some false) w := by kernel_rfl
attribute [go_sem] meth_Put nila_Put

theorem meth_Self (n : Nat) (a : Addr) (w : World) : (method (n + 1) 33 (.pointer (some a)) "Self").run Try.prog w = .ok (177, .pointer (some a)) w := by kernel_rfl
theorem nila_Self (n : Nat) (a : Addr) (w : World) : (nilAhead (n + 1) 33 (.pointer (some a)) "Self").run Try.prog w = .ok (some false) w := by kernel_rfl
attribute [go_sem] meth_Self nila_Self

theorem meth_Steps (n : Nat) (a : Addr) (w : World) : (method (n + 1) 33 (.pointer (some a)) "Steps").run Try.prog w = .ok (29, .pointer (some a)) w := by kernel_rfl
theorem nila_Steps (n : Nat) (a : Addr) (w : World) : (nilAhead (n + 1) 33 (.pointer (some a)) "Steps").run Try.prog w = .ok (some false) w := by kernel_rfl
attribute [go_sem] meth_Steps nila_Steps

theorem meth_Tell (n : Nat) (a : Addr) (w : World) : (method (n + 1) 33 (.pointer (some a)) "Tell").run Try.prog w = .ok (178, .pointer (some a)) w := by kernel_rfl
theorem nila_Tell (n : Nat) (a : Addr) (w : World) : (nilAhead (n + 1) 33 (.pointer (some a)) "Tell").run Try.prog w = .ok (some false) w := by kernel_rfl
attribute [go_sem] meth_Tell nila_Tell


theorem run_makeFunc' (fn : Fn) (first cap : Array Value) (w : World) : (Instr.makeFunc fn first cap).run Try.prog w = .ok (.func fn first cap) w := rfl
attribute [go_sem] run_makeFunc'

end Go.Proofs.Ytceddijolfpppaa
