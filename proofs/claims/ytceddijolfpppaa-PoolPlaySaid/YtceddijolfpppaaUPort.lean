/-
  Package port: the direct port. What a port is in a world (DirAt); contracts of its methods, and of the calls through an api.Port that holds one.
  Conditions: the port and its memory are there.
-/
import Derived.Test.YtceddijolfpppaaUMem
import Derived.Test.YtceddijolfpppaaUAx10
namespace Go.Proofs.Ytceddijolfpppaa
open Go Go.RowKit
set_option linter.unusedSimpArgs false
set_option linter.unusedVariables false
structure DirId where
  d : Nat
  v : Nat
structure DirAt (w : World) (D : DirId) (m : Nat) (me : Int) (told : Value) (steps : Nat) : Prop where
  hd : blk w D.d = some (.cells #[.pointer (some ⟨D.v, 0, none⟩), .int .i64 me, told] 138 (0, 0))
  hv : blk w D.v = some (.cells #[.pointer (some ⟨m, 0, none⟩), .int .i64 (steps : Int)] 135 (0, 0))
section
variable {w w' : World} {D : DirId} {m : Nat} {me : Int} {told : Value} {steps : Nat} {M : MemId} {ws : List UInt64} {bs : List UInt8}
theorem DirAt.ext {X : List Nat} (h : DirAt w D m me told steps) (k : Ext X w w') (h1 : D.d ∉ X) (h2 : D.v ∉ X) : DirAt w' D m me told steps := ⟨k.blk h.hd h1, k.blk h.hv h2⟩
theorem DirAt.ext0 (h : DirAt w D m me told steps) (k : Ext [] w w') : DirAt w' D m me told steps := h.ext k (by simp) (by simp)
theorem DirAt.ne_dv (h : DirAt w D m me told steps) : D.d ≠ D.v := cells_type h.hd h.hv (by decide)
theorem DirAt.ne_dw (h : DirAt w D m me told steps) (k : MemAt w M ws bs) : D.d ≠ M.bw := cells_type h.hd k.hw (by decide)
theorem DirAt.ne_vw (h : DirAt w D m me told steps) (k : MemAt w M ws bs) : D.v ≠ M.bw := cells_type h.hv k.hw (by decide)
theorem DirAt.ne_vm (h : DirAt w D m me told steps) (k : MemAt w M ws bs) : D.v ≠ M.m := cells_type h.hv k.hm (by decide)
theorem DirAt.ne_vb (h : DirAt w D m me told steps) (k : MemAt w M ws bs) : D.v ≠ M.bb := cells_type h.hv k.hb (by decide)
theorem DirAt.c0 (h : DirAt w D m me told steps) : w.cell? ⟨D.d, 0, none⟩ = some (.pointer (some ⟨D.v, 0, none⟩)) := blk_cell h.hd 0
theorem DirAt.c1 (h : DirAt w D m me told steps) : w.cell? ⟨D.d, 1, none⟩ = some (.int .i64 me) := blk_cell h.hd 1
theorem DirAt.v0 (h : DirAt w D m me told steps) : w.cell? ⟨D.v, 0, none⟩ = some (.pointer (some ⟨m, 0, none⟩)) := blk_cell h.hv 0
theorem DirAt.v1 (h : DirAt w D m me told steps) : w.cell? ⟨D.v, 1, none⟩ = some (.int .i64 (steps : Int)) := blk_cell h.hv 1
theorem DirAt.step (h : DirAt w D m me told steps) (n : Nat) : DirAt (w.setCell ⟨D.v, 1, none⟩ (.int .i64 (n : Int))) D m me told n :=
  ⟨by rw [blk_set _ _ _ _ h.ne_dv, h.hd], by rw [blk_setCell h.hv]; rfl⟩
end
def DirNew (w : World) (m : Nat) (me : Int) (e : Ending) (w' : World) : Prop :=
  ∃ D : DirId, e = .returned (.pointer (some ⟨D.d, 0, none⟩)) ∧ DirAt w' D m me (.pointer none) 0 ∧ Ext [] w w' ∧ w.heap.size ≤ D.d ∧ w.heap.size ≤ D.v
set_option maxHeartbeats 400000 in
theorem pNew_any (m : Nat) (me : Int) (w : World) :
    Calls Try.prog 19 #[.pointer (some ⟨m, 0, none⟩), .int .i64 me] w (DirNew w m me) := by
  go_enter Try.func19, Try.ntmps19
  go_wp2
  go_ret
  exact ⟨⟨w.heap.size + 1, w.heap.size⟩, rfl, ⟨by simp [go_sem], by simp [go_sem]⟩, ((Ext.refl [] w).alloc _).alloc _, by simp, by simp⟩
set_option maxHeartbeats 400000 in
theorem way_any (D : DirId) (m : Nat) (me : Int) (told : Value) (steps : Nat) (w : World) (h : DirAt w D m me told steps) :
    Calls Try.prog 97 #[.pointer (some ⟨D.d, 0, none⟩)] w (Ret (.pointer (some ⟨D.v, 0, none⟩)) (Ext [] w)) := by
  have hc := h.c0
  clear h
  go_enter Try.func97, Try.ntmps97
  go_wp2
  go_ret
  exact ⟨rfl, Ext.refl _ _⟩
def PS (D : DirId) (M : MemId) (me : Int) (told : Value) (steps : Nat) (ws : List UInt64) (bs : List UInt8) (w : World) (w' : World) : Prop :=
  DirAt w' D M.m me told steps ∧ MemAt w' M ws bs ∧ Ext [D.v, M.bw] w w'
set_option maxHeartbeats 2000000 in
theorem wdo_word (D : DirId) (M : MemId) (me : Int) (told : Value) (steps : Nat) (ws : List UInt64) (bs : List UInt8) (k : Nat) (kv : Int) (n : Int) (A B : UInt64) (w : World)
    (hD : DirAt w D M.m me told steps) (hM : MemAt w M ws bs) (hkv : kv = k) (hk1 : 1 ≤ k) (hk : k ≤ 4) (hs : steps ≤ 1000000000000) :
    Calls Try.prog 108 #[.pointer (some ⟨D.v, 0, none⟩), .int .u8 kv, .int .i64 n, .int .u64 (A.toNat : Int), .int .u64 (B.toNat : Int)] w
      (Ret (.int .u64 ((wT k n A ws).toNat : Int)) (PS D M me told (steps + 1) (wS k n A B ws) bs w)) := by
  have c0 := hD.v0
  have c1 := hD.v1
  have f1 := blk_free hD.hv 1
  have n1 := hD.ne_vm hM
  have n2 := hD.ne_vw hM
  have n3 := hD.ne_vb hM
  have HD := hid hD
  have HM := hid hM
  have HK := hid (And.intro hkv (And.intro hk1 hk))
  clear hD hM hkv hk1 hk
  go_enter Try.func108, Try.ntmps108
  go_wp2_with fail
  have h1 := HD.out.step (steps + 1)
  have h2 : MemAt (w.setCell ⟨D.v, 1, none⟩ (.int .i64 ((steps + 1 : Nat) : Int))) M ws bs := HM.out.ext ((Ext.refl [D.v] w).setCell (.inl (by simp)) _) (by simpa using fun e => n1 e.symm) (by simpa using fun e => n2 e.symm) (by simpa using fun e => n3 e.symm)
  have e1 : ((steps + 1 : Nat) : Int) = (steps : Int) + 1 := by omega
  rw [e1] at h1 h2
  refine (do_word M ws bs k kv n A B _ h2 HK.out.1 HK.out.2.1 HK.out.2.2).mono ?_
  rintro e w1 ⟨rfl, h3, x3⟩
  have h4 := h1.ext x3 (by simpa using HD.out.ne_dw HM.out) (by simpa using n2)
  have x4 : Ext [D.v, M.bw] w w1 := ((Ext.refl [D.v, M.bw] w).setCell (p := ⟨D.v, 1, none⟩) (.inl (by simp)) (.int .i64 ((steps : Int) + 1))).trans' (x3.mono (by simp))
  have P := hid (And.intro h4 (And.intro h3 x4))
  clear h1 h2 h3 h4 x3 x4 e1 c0 c1 f1 n1 n2 n3
  go_wp2
  go_ret
  exact ⟨rfl, P.out⟩
set_option maxHeartbeats 1000000 in
theorem pLoad_any (D : DirId) (M : MemId) (me : Int) (told : Value) (steps : Nat) (ws : List UInt64) (bs : List UInt8) (n : Int) (w : World)
    (hD : DirAt w D M.m me told steps) (hM : MemAt w M ws bs) (hs : steps ≤ 1000000000000) :
    Calls Try.prog 44 #[.pointer (some ⟨D.d, 0, none⟩), .int .i64 n] w
      (Ret (.int .u64 ((wT 1 n 0 ws).toNat : Int)) (PS D M me told (steps + 1) (wS 1 n 0 0 ws) bs w)) := by
  have HD := hid hD
  have HM := hid hM
  clear hD hM
  go_enter Try.func44, Try.ntmps44
  go_wp2_with fail
  refine (way_any D M.m me told steps _ HD.out).mono ?_
  rintro e w1 ⟨rfl, x1⟩
  have hD1 := HD.out.ext0 x1
  have hM1 := HM.out.ext0 x1
  have X1 := hid x1
  clear x1
  have HD1 := hid hD1
  have HM1 := hid hM1
  clear hD1 hM1
  go_wp2_with fail
  refine (wdo_word D M me told steps ws bs 1 1 n 0 0 w1 HD1.out HM1.out rfl (by omega) (by omega) hs).mono ?_
  rintro e w2 ⟨rfl, hD2, hM2, x2⟩
  have P := hid (And.intro hD2 (And.intro hM2 (Ext.of0 X1.out x2)))
  clear hD2 hM2 x2
  go_wp2
  go_ret
  exact ⟨rfl, P.out⟩
set_option maxHeartbeats 1000000 in
theorem pStore_any (D : DirId) (M : MemId) (me : Int) (told : Value) (steps : Nat) (ws : List UInt64) (bs : List UInt8) (n : Int) (A : UInt64) (w : World)
    (hD : DirAt w D M.m me told steps) (hM : MemAt w M ws bs) (hs : steps ≤ 1000000000000) :
    Calls Try.prog 52 #[.pointer (some ⟨D.d, 0, none⟩), .int .i64 n, .int .u64 (A.toNat : Int)] w
      (Ret (.tuple #[]) (PS D M me told (steps + 1) (wS 2 n A 0 ws) bs w)) := by
  have HD := hid hD
  have HM := hid hM
  clear hD hM
  go_enter Try.func52, Try.ntmps52
  go_wp2_with fail
  refine (way_any D M.m me told steps _ HD.out).mono ?_
  rintro e w1 ⟨rfl, x1⟩
  have hD1 := HD.out.ext0 x1
  have hM1 := HM.out.ext0 x1
  have X1 := hid x1
  clear x1
  have HD1 := hid hD1
  have HM1 := hid hM1
  clear hD1 hM1
  go_wp2_with fail
  refine (wdo_word D M me told steps ws bs 2 2 n A 0 w1 HD1.out HM1.out rfl (by omega) (by omega) hs).mono ?_
  rintro e w2 ⟨rfl, hD2, hM2, x2⟩
  have P := hid (And.intro hD2 (And.intro hM2 (Ext.of0 X1.out x2)))
  clear hD2 hM2 x2
  go_wp2
  go_end0
  exact ⟨rfl, P.out⟩
set_option maxHeartbeats 1000000 in
theorem pAdd_any (D : DirId) (M : MemId) (me : Int) (told : Value) (steps : Nat) (ws : List UInt64) (bs : List UInt8) (n : Int) (A : UInt64) (w : World)
    (hD : DirAt w D M.m me told steps) (hM : MemAt w M ws bs) (hs : steps ≤ 1000000000000) :
    Calls Try.prog 173 #[.pointer (some ⟨D.d, 0, none⟩), .int .i64 n, .int .u64 (A.toNat : Int)] w
      (Ret (.int .u64 ((wT 4 n A ws).toNat : Int)) (PS D M me told (steps + 1) (wS 4 n A 0 ws) bs w)) := by
  have HD := hid hD
  have HM := hid hM
  clear hD hM
  go_enter Try.func173, Try.ntmps173
  go_wp2_with fail
  refine (way_any D M.m me told steps _ HD.out).mono ?_
  rintro e w1 ⟨rfl, x1⟩
  have hD1 := HD.out.ext0 x1
  have hM1 := HM.out.ext0 x1
  have X1 := hid x1
  clear x1
  have HD1 := hid hD1
  have HM1 := hid hM1
  clear hD1 hM1
  go_wp2_with fail
  refine (wdo_word D M me told steps ws bs 4 4 n A 0 w1 HD1.out HM1.out rfl (by omega) (by omega) hs).mono ?_
  rintro e w2 ⟨rfl, hD2, hM2, x2⟩
  have P := hid (And.intro hD2 (And.intro hM2 (Ext.of0 X1.out x2)))
  clear hD2 hM2 x2
  go_wp2
  go_ret
  exact ⟨rfl, P.out⟩
set_option maxHeartbeats 1000000 in
theorem pCAS_any (D : DirId) (M : MemId) (me : Int) (told : Value) (steps : Nat) (ws : List UInt64) (bs : List UInt8) (n : Int) (A : UInt64) (B : UInt64) (w : World)
    (hD : DirAt w D M.m me told steps) (hM : MemAt w M ws bs) (hs : steps ≤ 1000000000000) :
    Calls Try.prog 174 #[.pointer (some ⟨D.d, 0, none⟩), .int .i64 n, .int .u64 (A.toNat : Int), .int .u64 (B.toNat : Int)] w
      (Ret (.bool (wT 3 n A ws == 1)) (PS D M me told (steps + 1) (wS 3 n A B ws) bs w)) := by
  have HD := hid hD
  have HM := hid hM
  clear hD hM
  go_enter Try.func174, Try.ntmps174
  go_wp2_with fail
  refine (way_any D M.m me told steps _ HD.out).mono ?_
  rintro e w1 ⟨rfl, x1⟩
  have hD1 := HD.out.ext0 x1
  have hM1 := HM.out.ext0 x1
  have X1 := hid x1
  clear x1
  have HD1 := hid hD1
  have HM1 := hid hM1
  clear hD1 hM1
  go_wp2_with fail
  refine (wdo_word D M me told steps ws bs 3 3 n A B w1 HD1.out HM1.out rfl (by omega) (by omega) hs).mono ?_
  rintro e w2 ⟨rfl, hD2, hM2, x2⟩
  have P := hid (And.intro hD2 (And.intro hM2 (Ext.of0 X1.out x2)))
  clear hD2 hM2 x2
  have he : ((((wT 3 n A ws).toNat : Nat) : Int) == 1) = (wT 3 n A ws == 1) := u64_eq (wT 3 n A ws) 1
  go_wp2
  go_ret
  exact ⟨rfl, P.out⟩
set_option maxHeartbeats 400000 in
theorem pSelf_any (D : DirId) (me : Int) (w : World) (hc : w.cell? ⟨D.d, 1, none⟩ = some (.int .i64 me)) :
    Calls Try.prog 177 #[.pointer (some ⟨D.d, 0, none⟩)] w (Ret (.int .i64 me) (Ext [] w)) := by
  go_enter Try.func177, Try.ntmps177
  go_wp2
  go_ret
  exact ⟨rfl, Ext.refl _ _⟩
set_option maxHeartbeats 400000 in
theorem pSteps_any (D : DirId) (m : Nat) (me : Int) (told : Value) (steps : Nat) (w : World) (h : DirAt w D m me told steps) :
    Calls Try.prog 29 #[.pointer (some ⟨D.d, 0, none⟩)] w (Ret (.int .i64 (steps : Int)) (Ext [] w)) := by
  have H := hid h
  clear h
  go_enter Try.func29, Try.ntmps29
  go_wp2_with fail
  refine (way_any D m me told steps _ H.out).mono ?_
  rintro e w1 ⟨rfl, x1⟩
  have h1 := H.out.ext0 x1
  have hc := h1.c0
  have hc1 := h1.v1
  have X1 := hid x1
  clear x1 h1
  go_wp2
  go_ret
  exact ⟨rfl, X1.out⟩
theorem wAt_set {ws : List UInt64} {n : Int} {x : UInt64} (h : wAt ws n = some x) : ws.set n.toNat x = ws := by
  unfold wAt at h
  split at h
  · cases h
  · obtain ⟨hl, rfl⟩ := List.getElem?_eq_some_iff.1 h
    exact set_same hl
theorem load_same (n : Int) (A B : UInt64) (ws : List UInt64) : wS 1 n A B ws = ws := by
  cases hx : wAt ws n with
  | none => simp [wS, hx]
  | some x => simp [wS, hx, kNow, wAt_set hx]
theorem PS.trans {D : DirId} {M : MemId} {me : Int} {told : Value} {s s' : Nat} {ws ws' : List UInt64} {bs bs' : List UInt8} {a b c : World} (h : PS D M me told s ws bs a b) (k : PS D M me told s' ws' bs' b c) : PS D M me told s' ws' bs' a c :=
  ⟨k.1, k.2.1, h.2.2.trans' k.2.2⟩
theorem PS.ext0 {D : DirId} {M : MemId} {me : Int} {told : Value} {s : Nat} {ws : List UInt64} {bs : List UInt8} {a b c : World} (h : PS D M me told s ws bs a b) (k : Ext [] b c) : PS D M me told s ws bs a c :=
  ⟨h.1.ext0 k, h.2.1.ext0 k, h.2.2.trans0 k⟩
theorem PS.of0 {D : DirId} {M : MemId} {me : Int} {told : Value} {s : Nat} {ws : List UInt64} {bs : List UInt8} {a b c : World} (h : Ext [] a b) (k : PS D M me told s ws bs b c) : PS D M me told s ws bs a c :=
  ⟨k.1, k.2.1, Ext.of0 h k.2.2⟩
theorem PS.refl {D : DirId} {M : MemId} {me : Int} {told : Value} {s : Nat} {ws : List UInt64} {bs : List UInt8} {a : World} (h : DirAt a D M.m me told s) (k : MemAt a M ws bs) : PS D M me told s ws bs a a := ⟨h, k, Ext.refl _ _⟩
theorem meth_Load (n : Nat) (a : Addr) (w : World) : (method (n + 1) 33 (.pointer (some a)) "Load").run Try.prog w = .ok (44, .pointer (some a)) w := by kernel_rfl
theorem nila_Load (n : Nat) (a : Addr) (w : World) : (nilAhead (n + 1) 33 (.pointer (some a)) "Load").run Try.prog w = .ok (some false) w := by kernel_rfl
attribute [go_sem] meth_Load nila_Load
theorem meth_Store (n : Nat) (a : Addr) (w : World) : (method (n + 1) 33 (.pointer (some a)) "Store").run Try.prog w = .ok (52, .pointer (some a)) w := by kernel_rfl
theorem nila_Store (n : Nat) (a : Addr) (w : World) : (nilAhead (n + 1) 33 (.pointer (some a)) "Store").run Try.prog w = .ok (some false) w := by kernel_rfl
attribute [go_sem] meth_Store nila_Store
theorem meth_CAS (n : Nat) (a : Addr) (w : World) : (method (n + 1) 33 (.pointer (some a)) "CAS").run Try.prog w = .ok (174, .pointer (some a)) w := by kernel_rfl
theorem nila_CAS (n : Nat) (a : Addr) (w : World) : (nilAhead (n + 1) 33 (.pointer (some a)) "CAS").run Try.prog w = .ok (some false) w := by kernel_rfl
attribute [go_sem] meth_CAS nila_CAS
theorem meth_Add (n : Nat) (a : Addr) (w : World) : (method (n + 1) 33 (.pointer (some a)) "Add").run Try.prog w = .ok (173, .pointer (some a)) w := by kernel_rfl
theorem nila_Add (n : Nat) (a : Addr) (w : World) : (nilAhead (n + 1) 33 (.pointer (some a)) "Add").run Try.prog w = .ok (some false) w := by kernel_rfl
attribute [go_sem] meth_Add nila_Add
theorem meth_Get (n : Nat) (a : Addr) (w : World) : (method (n + 1) 33 (.pointer (some a)) "Get").run Try.prog w = .ok (175, .pointer (some a)) w := by kernel_rfl
theorem nila_Get (n : Nat) (a : Addr) (w : World) : (nilAhead (n + 1) 33 (.pointer (some a)) "Get").run Try.prog w = .ok (some false) w := by kernel_rfl
attribute [go_sem] meth_Get nila_Get
theorem meth_Put (n : Nat) (a : Addr) (w : World) : (method (n + 1) 33 (.pointer (some a)) "Put").run Try.prog w = .ok (176, .pointer (some a)) w := by kernel_rfl
theorem nila_Put (n : Nat) (a : Addr) (w : World) : (nilAhead (n + 1) 33 (.pointer (some a)) "Put").run Try.prog w = .ok (some false) w := by kernel_rfl
attribute [go_sem] meth_Put nila_Put
theorem meth_Self (n : Nat) (a : Addr) (w : World) : (method (n + 1) 33 (.pointer (some a)) "Self").run Try.prog w = .ok (177, .pointer (some a)) w := by kernel_rfl
theorem nila_Self (n : Nat) (a : Addr) (w : World) : (nilAhead (n + 1) 33 (.pointer (some a)) "Self").run Try.prog w = .ok (some false) w := by kernel_rfl
attribute [go_sem] meth_Self nila_Self
theorem meth_Steps (n : Nat) (a : Addr) (w : World) : (method (n + 1) 33 (.pointer (some a)) "Steps").run Try.prog w = .ok (29, .pointer (some a)) w := by kernel_rfl
theorem nila_Steps (n : Nat) (a : Addr) (w : World) : (nilAhead (n + 1) 33 (.pointer (some a)) "Steps").run Try.prog w = .ok (some false) w := by kernel_rfl
attribute [go_sem] meth_Steps nila_Steps
theorem meth_Tell (n : Nat) (a : Addr) (w : World) : (method (n + 1) 33 (.pointer (some a)) "Tell").run Try.prog w = .ok (178, .pointer (some a)) w := by kernel_rfl
theorem nila_Tell (n : Nat) (a : Addr) (w : World) : (nilAhead (n + 1) 33 (.pointer (some a)) "Tell").run Try.prog w = .ok (some false) w := by kernel_rfl
attribute [go_sem] meth_Tell nila_Tell
theorem run_makeFunc' (fn : Fn) (first cap : Array Value) (w : World) : (Instr.makeFunc fn first cap).run Try.prog w = .ok (.func fn first cap) w := rfl
attribute [go_sem] run_makeFunc'
end Go.Proofs.Ytceddijolfpppaa
namespace Go.Proofs.Ytceddijolfpppaa
open Go Go.RowKit
set_option linter.unusedSimpArgs false
set_option linter.unusedVariables false
def bAt (bs : List UInt8) (n : Int) : Option UInt8 := if n < 0 then none else bs[n.toNat]?
def bT (n : Int) (bs : List UInt8) : UInt8 := match bAt bs n with | none => 0 | some x => x
def bS (n : Int) (b : UInt8) (bs : List UInt8) : List UInt8 := match bAt bs n with | none => bs | some _ => bs.set n.toNat b
theorem bAt_in {bs : List UInt8} {n : Nat} (h : n < bs.length) : bAt bs n = some bs[n] := by unfold bAt; rw [if_neg (by omega)]; simp [h]
theorem bAt_neg {bs : List UInt8} {n : Int} (h : n < 0) : bAt bs n = none := if_pos h
theorem bAt_far {bs : List UInt8} {n : Int} (h : (bs.length : Int) ≤ n) : bAt bs n = none := by unfold bAt; rw [if_neg (by omega)]; simp; omega
theorem u8_wrap (A : UInt64) : IntKind.u8.wrap (A.toNat : Int) = (A.toUInt8.toNat : Int) := by
  rw [IntKind.wrap_u8]; simp
theorem u64_u8 (b : UInt8) : IntKind.u64.wrap (b.toNat : Int) = ((b.toUInt64).toNat : Int) := by
  have := b.toNat_lt
  rw [IntKind.wrap_u64]; simp; omega
theorem u8_u8 (b : UInt8) : IntKind.u8.wrap (b.toNat : Int) = (b.toNat : Int) := by
  have := b.toNat_lt
  rw [IntKind.wrap_u8]; omega
set_option maxRecDepth 100000 in
set_option maxHeartbeats 2000000 in
theorem do_bneg5 (M : MemId) (ws : List UInt64) (bs : List UInt8) (n : Int) (A B : UInt64) (w : World) (h : MemAt w M ws bs) (hn : n < 0) :
    Calls Try.prog 85 #[.pointer (some ⟨M.m, 0, none⟩), accV 5 n A B] w (Ret (.tuple #[.int .u64 0, .bool false]) (Ext [] w)) := by
  have hE := Ext.refl []
  have hl := h.wl
  have hl' := h.bl
  have n1 : (decide (n < 0)) = true := by simpa using hn
  unfold accV
  go_enter Try.func85, Try.ntmps85
  go_wp2_with fail
  have L0 := blk_lt h.hm
  refine wp_region_lit_lin [] [0,1,2,3,4,5,6,7,8,9] (Ext [] _) (Ext []) Try.mix (by kernel_rfl) (Ext.refl []) (fun _ _ _ => Ext.trans') (fun _ _ => Ext.trans') ((Ext.refl _ _).drew) (fun X _ f hf => ?_)
  have g3 : ∀ x i, (f x).cell? ⟨w.heap.size, i, none⟩ = (#[.int .u8 5, .int .i64 n, .int .u64 (A.toNat : Int), .int .u64 (B.toNat : Int)] : Array Value)[i]? := fun x i => blk_cell ((hf x).blk (blk_new _ _) (by simp)) i
  have HM : ∀ x, MemAt (f x) M ws bs := fun x => (h.alloc _).ext0 (hf x)
  have HM' := hid HM
  clear HM hf
  repeat (refine lexX_step rfl rfl (fun K hK => ?_); go_simp; (try go_bits); (try (simp only [↓IntWalk.iteOmega]; go_simp)); (refine hK _ ?_; clear hK K))
  clear g3 HM'
  refine lexX_nil (fun w1 hw1 => ?_)
  have HX := hid (((Ext.refl [] w).alloc (.cells #[.int .u8 5, .int .i64 n, .int .u64 (A.toNat : Int), .int .u64 (B.toNat : Int)] 125)).trans' hw1.of_drew)
  clear hw1
  go_wp2
  go_ret2
  exact ⟨rfl, HX.out⟩
set_option maxRecDepth 100000 in
set_option maxHeartbeats 2000000 in
theorem do_bfar5 (M : MemId) (ws : List UInt64) (bs : List UInt8) (n : Int) (A B : UInt64) (w : World) (h : MemAt w M ws bs) (hn : (bs.length : Int) ≤ n) :
    Calls Try.prog 85 #[.pointer (some ⟨M.m, 0, none⟩), accV 5 n A B] w (Ret (.tuple #[.int .u64 0, .bool false]) (Ext [] w)) := by
  have hE := Ext.refl []
  have hl := h.wl
  have hl' := h.bl
  have n1 : (decide (n < 0)) = false := by simp; omega
  have n2 : (decide ((bs.length : Int) ≤ n)) = true := by simpa using hn
  unfold accV
  go_enter Try.func85, Try.ntmps85
  go_wp2_with fail
  have L0 := blk_lt h.hm
  refine wp_region_lit_lin [] [0,1,2,3,4,5,6,7,8,9] (Ext [] _) (Ext []) Try.mix (by kernel_rfl) (Ext.refl []) (fun _ _ _ => Ext.trans') (fun _ _ => Ext.trans') ((Ext.refl _ _).drew) (fun X _ f hf => ?_)
  have g3 : ∀ x i, (f x).cell? ⟨w.heap.size, i, none⟩ = (#[.int .u8 5, .int .i64 n, .int .u64 (A.toNat : Int), .int .u64 (B.toNat : Int)] : Array Value)[i]? := fun x i => blk_cell ((hf x).blk (blk_new _ _) (by simp)) i
  have HM : ∀ x, MemAt (f x) M ws bs := fun x => (h.alloc _).ext0 (hf x)
  have HM' := hid HM
  clear HM hf
  repeat (refine lexX_step rfl rfl (fun K hK => ?_); go_simp; (try go_bits); (try (simp only [↓IntWalk.iteOmega]; go_simp)); (refine hK _ ?_; clear hK K))
  refine lexX_step rfl rfl (fun K hK => ?_); go_simp; refine ⟨_, fun x => ret_of (mBytes_any M ws bs (f x) (HM'.out x)), hK _ ?_⟩; clear hK K
  repeat (refine lexX_step rfl rfl (fun K hK => ?_); go_simp; (try go_bits); (try (simp only [↓IntWalk.iteOmega]; go_simp)); (refine hK _ ?_; clear hK K))
  clear g3 HM'
  refine lexX_nil (fun w1 hw1 => ?_)
  have HX := hid (((Ext.refl [] w).alloc (.cells #[.int .u8 5, .int .i64 n, .int .u64 (A.toNat : Int), .int .u64 (B.toNat : Int)] 125)).trans' hw1.of_drew)
  clear hw1
  go_wp2
  go_ret2
  exact ⟨rfl, HX.out⟩
set_option maxRecDepth 100000 in
set_option maxHeartbeats 2000000 in
theorem do_get (M : MemId) (ws : List UInt64) (bs : List UInt8) (n : Nat) (A B : UInt64) (w : World) (h : MemAt w M ws bs) (hn : n < bs.length) :
    Calls Try.prog 85 #[.pointer (some ⟨M.m, 0, none⟩), accV 5 n A B] w (fun e w' => e = .returned (.tuple #[.int .u64 (bs[n].toUInt64.toNat : Int), .bool true]) ∧ MemAt w' M ws (bs) ∧ Ext [] w w') := by
  have hE := Ext.refl []
  have hl := h.wl
  have hl' := h.bl
  have n1 : (decide ((n : Int) < 0)) = false := by simp
  have n2 : (decide ((bs.length : Int) ≤ (n : Int))) = false := by simp; omega
  unfold accV
  go_enter Try.func85, Try.ntmps85
  go_wp2_with fail
  have L0 := blk_lt h.hm
  have L1 := blk_lt h.hb
  refine wp_region_lit_lin [] [0,1,2,3,4,5,6,7,8,9] (Ext [] _) (Ext []) Try.mix (by kernel_rfl) (Ext.refl []) (fun _ _ _ => Ext.trans') (fun _ _ => Ext.trans') ((Ext.refl _ _).drew) (fun X _ f hf => ?_)
  have g3 : ∀ x i, (f x).cell? ⟨w.heap.size, i, none⟩ = (#[.int .u8 5, .int .i64 n, .int .u64 (A.toNat : Int), .int .u64 (B.toNat : Int)] : Array Value)[i]? := fun x i => blk_cell ((hf x).blk (blk_new _ _) (by simp)) i
  have HM : ∀ x, MemAt (f x) M ws bs := fun x => (h.alloc _).ext0 (hf x)
  have HM' := hid HM
  clear HM hf
  repeat (refine lexX_step rfl rfl (fun K hK => ?_); go_simp; (try go_bits); (try (simp only [↓IntWalk.iteOmega]; go_simp)); (refine hK _ ?_; clear hK K))
  refine lexX_step rfl rfl (fun K hK => ?_); go_simp; refine ⟨_, fun x => ret_of (mBytes_any M ws bs (f x) (HM'.out x)), hK _ ?_⟩; clear hK K
  repeat (refine lexX_step rfl rfl (fun K hK => ?_); go_simp; (try go_bits); (try (simp only [↓IntWalk.iteOmega]; go_simp)); (refine hK _ ?_; clear hK K))
  clear g3 HM'
  refine lexX_nil (fun w1 hw1 => ?_)
  have hx := ((Ext.refl [] w).alloc (.cells #[.int .u8 5, .int .i64 n, .int .u64 (A.toNat : Int), .int .u64 (B.toNat : Int)] 125)).trans' hw1.of_drew
  have g1 : blk w1 w.heap.size = some (.cells #[.int .u8 5, .int .i64 n, .int .u64 (A.toNat : Int), .int .u64 (B.toNat : Int)] 125 (0, 0)) := hw1.of_drew.blk (blk_new _ _) (by simp)
  have h1 := h.ext0 hx
  have hc1 := h1.c1
  have hcb := h1.cb hn
  have hfr := blk_free h1.hb n
  have L2 : M.bb ≠ w.heap.size := by omega
  have hk0 : w1.cell? ⟨w.heap.size, 0, none⟩ = some (.int .u8 5) := blk_cell g1 0
  have G1 := hid g1
  have HX := hid hx
  have H1 := hid h1
  have hu := u8_wrap A
  clear hx hw1 g1 h1
  go_wp2_with fail
  refine wp_region_lit_lin [] [0,1,2,3,4,5,6,7,8,9,10] (Ext [] _) (Ext []) Try.mix (by kernel_rfl) (Ext.refl []) (fun _ _ _ => Ext.trans') (fun _ _ h k => h.trans0 k) ((Ext.refl _ _).drew) (fun X _ f hf => ?_)
  have g3 : ∀ x i, (f x).cell? ⟨w.heap.size, i, none⟩ = (#[.int .u8 5, .int .i64 n, .int .u64 (A.toNat : Int), .int .u64 (B.toNat : Int)] : Array Value)[i]? := fun x i => blk_cell ((hf x).blk G1.out (by simp)) i
  have g0 : ∀ x, (f x).cell? ⟨M.m, 1, none⟩ = some (.slice (some ⟨M.bb, 0, none⟩) bs.length (bs.length + M.pb.size)) := fun x => (hf x).cell' hc1 (by simp)
  have gw : ∀ x, (f x).cell? ⟨M.bb, n, none⟩ = some (.int .u8 (bs[n].toNat : Int)) := fun x => (hf x).cell' hcb (by simp)
  have hu2 := u64_u8 bs[n]
  clear hf hu
  repeat (refine lexX_step rfl rfl (fun K hK => ?_); go_simp; (try go_bits); (try (simp only [↓IntWalk.iteOmega]; go_simp)); (refine hK _ ?_; clear hK K))
  refine lexX_nil (fun w2 hw2 => ?_)
  have x2 := HX.out.trans' hw2.of_drew
  have h2 := H1.out.ext0 hw2.of_drew
  clear hw2 g3 g0 gw H1 HX hc1 hcb hfr G1 hu2
  have HX := hid x2
  have H2 := hid h2
  clear x2 h2
  go_wp2
  go_ret2
  exact ⟨rfl, H2.out, HX.out⟩
set_option maxRecDepth 100000 in
set_option maxHeartbeats 2000000 in
theorem do_bneg6 (M : MemId) (ws : List UInt64) (bs : List UInt8) (n : Int) (A B : UInt64) (w : World) (h : MemAt w M ws bs) (hn : n < 0) :
    Calls Try.prog 85 #[.pointer (some ⟨M.m, 0, none⟩), accV 6 n A B] w (Ret (.tuple #[.int .u64 0, .bool false]) (Ext [] w)) := by
  have hE := Ext.refl []
  have hl := h.wl
  have hl' := h.bl
  have n1 : (decide (n < 0)) = true := by simpa using hn
  unfold accV
  go_enter Try.func85, Try.ntmps85
  go_wp2_with fail
  have L0 := blk_lt h.hm
  refine wp_region_lit_lin [] [0,1,2,3,4,5,6,7,8,9] (Ext [] _) (Ext []) Try.mix (by kernel_rfl) (Ext.refl []) (fun _ _ _ => Ext.trans') (fun _ _ => Ext.trans') ((Ext.refl _ _).drew) (fun X _ f hf => ?_)
  have g3 : ∀ x i, (f x).cell? ⟨w.heap.size, i, none⟩ = (#[.int .u8 6, .int .i64 n, .int .u64 (A.toNat : Int), .int .u64 (B.toNat : Int)] : Array Value)[i]? := fun x i => blk_cell ((hf x).blk (blk_new _ _) (by simp)) i
  have HM : ∀ x, MemAt (f x) M ws bs := fun x => (h.alloc _).ext0 (hf x)
  have HM' := hid HM
  clear HM hf
  repeat (refine lexX_step rfl rfl (fun K hK => ?_); go_simp; (try go_bits); (try (simp only [↓IntWalk.iteOmega]; go_simp)); (refine hK _ ?_; clear hK K))
  clear g3 HM'
  refine lexX_nil (fun w1 hw1 => ?_)
  have HX := hid (((Ext.refl [] w).alloc (.cells #[.int .u8 6, .int .i64 n, .int .u64 (A.toNat : Int), .int .u64 (B.toNat : Int)] 125)).trans' hw1.of_drew)
  clear hw1
  go_wp2
  go_ret2
  exact ⟨rfl, HX.out⟩
set_option maxRecDepth 100000 in
set_option maxHeartbeats 2000000 in
theorem do_bfar6 (M : MemId) (ws : List UInt64) (bs : List UInt8) (n : Int) (A B : UInt64) (w : World) (h : MemAt w M ws bs) (hn : (bs.length : Int) ≤ n) :
    Calls Try.prog 85 #[.pointer (some ⟨M.m, 0, none⟩), accV 6 n A B] w (Ret (.tuple #[.int .u64 0, .bool false]) (Ext [] w)) := by
  have hE := Ext.refl []
  have hl := h.wl
  have hl' := h.bl
  have n1 : (decide (n < 0)) = false := by simp; omega
  have n2 : (decide ((bs.length : Int) ≤ n)) = true := by simpa using hn
  unfold accV
  go_enter Try.func85, Try.ntmps85
  go_wp2_with fail
  have L0 := blk_lt h.hm
  refine wp_region_lit_lin [] [0,1,2,3,4,5,6,7,8,9] (Ext [] _) (Ext []) Try.mix (by kernel_rfl) (Ext.refl []) (fun _ _ _ => Ext.trans') (fun _ _ => Ext.trans') ((Ext.refl _ _).drew) (fun X _ f hf => ?_)
  have g3 : ∀ x i, (f x).cell? ⟨w.heap.size, i, none⟩ = (#[.int .u8 6, .int .i64 n, .int .u64 (A.toNat : Int), .int .u64 (B.toNat : Int)] : Array Value)[i]? := fun x i => blk_cell ((hf x).blk (blk_new _ _) (by simp)) i
  have HM : ∀ x, MemAt (f x) M ws bs := fun x => (h.alloc _).ext0 (hf x)
  have HM' := hid HM
  clear HM hf
  repeat (refine lexX_step rfl rfl (fun K hK => ?_); go_simp; (try go_bits); (try (simp only [↓IntWalk.iteOmega]; go_simp)); (refine hK _ ?_; clear hK K))
  refine lexX_step rfl rfl (fun K hK => ?_); go_simp; refine ⟨_, fun x => ret_of (mBytes_any M ws bs (f x) (HM'.out x)), hK _ ?_⟩; clear hK K
  repeat (refine lexX_step rfl rfl (fun K hK => ?_); go_simp; (try go_bits); (try (simp only [↓IntWalk.iteOmega]; go_simp)); (refine hK _ ?_; clear hK K))
  clear g3 HM'
  refine lexX_nil (fun w1 hw1 => ?_)
  have HX := hid (((Ext.refl [] w).alloc (.cells #[.int .u8 6, .int .i64 n, .int .u64 (A.toNat : Int), .int .u64 (B.toNat : Int)] 125)).trans' hw1.of_drew)
  clear hw1
  go_wp2
  go_ret2
  exact ⟨rfl, HX.out⟩
set_option maxRecDepth 100000 in
set_option maxHeartbeats 2000000 in
theorem do_put (M : MemId) (ws : List UInt64) (bs : List UInt8) (n : Nat) (A B : UInt64) (w : World) (h : MemAt w M ws bs) (hn : n < bs.length) :
    Calls Try.prog 85 #[.pointer (some ⟨M.m, 0, none⟩), accV 6 n A B] w (fun e w' => e = .returned (.tuple #[.int .u64 0, .bool true]) ∧ MemAt w' M ws (bs.set n A.toUInt8) ∧ Ext [M.bb] w w') := by
  have hE := Ext.refl []
  have hl := h.wl
  have hl' := h.bl
  have n1 : (decide ((n : Int) < 0)) = false := by simp
  have n2 : (decide ((bs.length : Int) ≤ (n : Int))) = false := by simp; omega
  unfold accV
  go_enter Try.func85, Try.ntmps85
  go_wp2_with fail
  have L0 := blk_lt h.hm
  have L1 := blk_lt h.hb
  refine wp_region_lit_lin [] [0,1,2,3,4,5,6,7,8,9] (Ext [] _) (Ext []) Try.mix (by kernel_rfl) (Ext.refl []) (fun _ _ _ => Ext.trans') (fun _ _ => Ext.trans') ((Ext.refl _ _).drew) (fun X _ f hf => ?_)
  have g3 : ∀ x i, (f x).cell? ⟨w.heap.size, i, none⟩ = (#[.int .u8 6, .int .i64 n, .int .u64 (A.toNat : Int), .int .u64 (B.toNat : Int)] : Array Value)[i]? := fun x i => blk_cell ((hf x).blk (blk_new _ _) (by simp)) i
  have HM : ∀ x, MemAt (f x) M ws bs := fun x => (h.alloc _).ext0 (hf x)
  have HM' := hid HM
  clear HM hf
  repeat (refine lexX_step rfl rfl (fun K hK => ?_); go_simp; (try go_bits); (try (simp only [↓IntWalk.iteOmega]; go_simp)); (refine hK _ ?_; clear hK K))
  refine lexX_step rfl rfl (fun K hK => ?_); go_simp; refine ⟨_, fun x => ret_of (mBytes_any M ws bs (f x) (HM'.out x)), hK _ ?_⟩; clear hK K
  repeat (refine lexX_step rfl rfl (fun K hK => ?_); go_simp; (try go_bits); (try (simp only [↓IntWalk.iteOmega]; go_simp)); (refine hK _ ?_; clear hK K))
  clear g3 HM'
  refine lexX_nil (fun w1 hw1 => ?_)
  have hx := ((Ext.refl [] w).alloc (.cells #[.int .u8 6, .int .i64 n, .int .u64 (A.toNat : Int), .int .u64 (B.toNat : Int)] 125)).trans' hw1.of_drew
  have g1 : blk w1 w.heap.size = some (.cells #[.int .u8 6, .int .i64 n, .int .u64 (A.toNat : Int), .int .u64 (B.toNat : Int)] 125 (0, 0)) := hw1.of_drew.blk (blk_new _ _) (by simp)
  have h1 := h.ext0 hx
  have hc1 := h1.c1
  have hcb := h1.cb hn
  have hfr := blk_free h1.hb n
  have L2 : M.bb ≠ w.heap.size := by omega
  have hk0 : w1.cell? ⟨w.heap.size, 0, none⟩ = some (.int .u8 6) := blk_cell g1 0
  have G1 := hid g1
  have HX := hid hx
  have H1 := hid h1
  have hu := u8_wrap A
  clear hx hw1 g1 h1
  go_wp2_with fail
  refine wp_region_lit_lin [10] [0,1,2,3,4,5,6,7,8,9,10] (Ext [M.bb] _) (Ext []) Try.mix (by kernel_rfl) (Ext.refl []) (fun _ _ _ => Ext.trans') (fun _ _ h k => h.trans0 k) ((Ext.refl _ _).drew) (fun X _ f hf => ?_)
  have g3 : ∀ x i, (f x).cell? ⟨w.heap.size, i, none⟩ = (#[.int .u8 6, .int .i64 n, .int .u64 (A.toNat : Int), .int .u64 (B.toNat : Int)] : Array Value)[i]? := fun x i => blk_cell ((hf x).blk G1.out (by simpa using L2.symm)) i
  have g0 : ∀ x, (f x).cell? ⟨M.m, 1, none⟩ = some (.slice (some ⟨M.bb, 0, none⟩) bs.length (bs.length + M.pb.size)) := fun x => (hf x).cell' hc1 (by simpa using H1.out.ne_mb)
  clear hf
  repeat (refine lexX_step rfl rfl (fun K hK => ?_); go_simp; (try go_bits); (try (simp only [↓IntWalk.iteOmega]; go_simp)); (refine hK _ ?_; clear hK K))
  refine lexX_effp rfl rfl rfl (fun w3 hw3 K hK => ?_)
  have h3 := H1.out.ext0 hw3.of_drew
  have q1 := h3.cb hn
  have q2 := blk_free h3.hb n
  go_simp
  refine ⟨(hw3.of_drew.mono (Y := [M.bb]) (by simp)).setCell (.inl (by simp)) _, hK _ _ ?_⟩
  clear hK K
  refine lexX_nil (fun w4 hw4 => ?_)
  have h4 := (h3.setB n A.toUInt8 hn).ext0 hw4
  have x4 := (((HX.out.mono (Y := [M.bb]) (by simp)).trans0 hw3.of_drew).setCell (p := ⟨M.bb, n, none⟩) (.inl (by simp)) (.int .u8 (A.toUInt8.toNat : Int))).trans0 hw4
  clear hw4 h3 q1 q2 hw3 g3 g0 HX H1 hc1 hcb hfr G1 hu
  have HX := hid x4
  have H4 := hid h4
  clear x4 h4
  go_wp2
  go_ret2
  exact ⟨rfl, H4.out, HX.out⟩
theorem do_get5 (M : MemId) (ws : List UInt64) (bs : List UInt8) (n : Int) (A B : UInt64) (w : World) (h : MemAt w M ws bs) :
    Calls Try.prog 85 #[.pointer (some ⟨M.m, 0, none⟩), accV 5 n A B] w (fun e w' => e = .returned (.tuple #[.int .u64 ((bT n bs).toNat : Int), .bool (bAt bs n).isSome]) ∧ MemAt w' M ws bs ∧ Ext [] w w') := by
  by_cases h0 : n < 0
  · refine (do_bneg5 M ws bs n A B w h h0).mono fun e w' ⟨he, hx⟩ => ⟨?_, h.ext0 hx, hx⟩
    simp only [bT, bAt_neg h0]; exact he
  by_cases h1 : (bs.length : Int) ≤ n
  · refine (do_bfar5 M ws bs n A B w h h1).mono fun e w' ⟨he, hx⟩ => ⟨?_, h.ext0 hx, hx⟩
    simp only [bT, bAt_far h1]; exact he
  · obtain ⟨m, rfl⟩ := Int.eq_ofNat_of_zero_le (show 0 ≤ n by omega)
    have hm : m < bs.length := by omega
    refine (do_get M ws bs m A B w h hm).mono fun e w' ⟨he, h2, hx⟩ => ⟨?_, h2, hx⟩
    have e1 := bAt_in hm
    simp only [bT, e1]
    rw [he]; simp
theorem do_put6 (M : MemId) (ws : List UInt64) (bs : List UInt8) (n : Int) (A B : UInt64) (w : World) (h : MemAt w M ws bs) :
    Calls Try.prog 85 #[.pointer (some ⟨M.m, 0, none⟩), accV 6 n A B] w (fun e w' => e = .returned (.tuple #[.int .u64 0, .bool (bAt bs n).isSome]) ∧ MemAt w' M ws (bS n A.toUInt8 bs) ∧ Ext [M.bb] w w') := by
  by_cases h0 : n < 0
  · refine (do_bneg6 M ws bs n A B w h h0).mono fun e w' ⟨he, hx⟩ => ⟨?_, ?_, hx.mono (by simp)⟩
    · simp only [bAt_neg h0]; exact he
    · simp only [bS, bAt_neg h0]; exact h.ext0 hx
  by_cases h1 : (bs.length : Int) ≤ n
  · refine (do_bfar6 M ws bs n A B w h h1).mono fun e w' ⟨he, hx⟩ => ⟨?_, ?_, hx.mono (by simp)⟩
    · simp only [bAt_far h1]; exact he
    · simp only [bS, bAt_far h1]; exact h.ext0 hx
  · obtain ⟨m, rfl⟩ := Int.eq_ofNat_of_zero_le (show 0 ≤ n by omega)
    have hm : m < bs.length := by omega
    have e1 := bAt_in hm
    refine (do_put M ws bs m A B w h hm).mono fun e w' ⟨he, h2, hx⟩ => ⟨?_, ?_, hx⟩
    · rw [e1]; exact he
    · simp only [bS, e1, Int.toNat_natCast]; exact h2
theorem mByte_any (M : MemId) (ws : List UInt64) (bs : List UInt8) (n : Int) (w : World) (h : MemAt w M ws bs) :
    Calls Try.prog 79 #[.pointer (some ⟨M.m, 0, none⟩), .int .i64 n] w (Ret (.int .u8 ((bT n bs).toNat : Int)) (Ext [] w)) := by
  have hu := u8_u8 (bT n bs)
  have H := hid (do_get5 M ws bs n 0 0 w h)
  clear h
  go_enter Try.func79, Try.ntmps79
  go_wp2_with fail
  refine H.out.mono ?_
  rintro e w1 ⟨rfl, h1, x1⟩
  have X1 := hid x1
  clear h1 x1 H
  go_wp2
  go_ret
  exact ⟨rfl, X1.out⟩
def PB (D : DirId) (M : MemId) (me : Int) (told : Value) (steps : Nat) (ws : List UInt64) (bs : List UInt8) (w : World) (w' : World) : Prop :=
  DirAt w' D M.m me told steps ∧ MemAt w' M ws bs ∧ Ext [D.v, M.bb] w w'
def bKT (k : Nat) (n : Int) (bs : List UInt8) : UInt64 := if k = 5 then (bT n bs).toUInt64 else 0
def bKS (k : Nat) (n : Int) (A : UInt64) (bs : List UInt8) : List UInt8 := if k = 5 then bs else bS n A.toUInt8 bs
theorem do_byte (M : MemId) (ws : List UInt64) (bs : List UInt8) (k : Nat) (kv : Int) (n : Int) (A B : UInt64) (w : World) (h : MemAt w M ws bs) (hkv : kv = k) (hk1 : 5 ≤ k) (hk : k ≤ 6) :
    Calls Try.prog 85 #[.pointer (some ⟨M.m, 0, none⟩), accV kv n A B] w (fun e w' => e = .returned (.tuple #[.int .u64 ((bKT k n bs).toNat : Int), .bool (bAt bs n).isSome]) ∧ MemAt w' M ws (bKS k n A bs) ∧ Ext [M.bb] w w') := by
  subst hkv
  match k, hk1, hk with
  | 5, _, _ => exact (do_get5 M ws bs n A B w h).mono fun e w' ⟨he, h2, hx⟩ => ⟨by simpa [bKT] using he, h2, hx.mono (by simp)⟩
  | 6, _, _ => exact (do_put6 M ws bs n A B w h).mono fun e w' ⟨he, h2, hx⟩ => ⟨by simpa [bKT] using he, by simpa [bKS] using h2, hx⟩
set_option maxHeartbeats 2000000 in
theorem wdo_byte (D : DirId) (M : MemId) (me : Int) (told : Value) (steps : Nat) (ws : List UInt64) (bs : List UInt8) (k : Nat) (kv : Int) (n : Int) (A B : UInt64) (w : World)
    (hD : DirAt w D M.m me told steps) (hM : MemAt w M ws bs) (hkv : kv = k) (hk1 : 5 ≤ k) (hk : k ≤ 6) (hs : steps ≤ 1000000000000) :
    Calls Try.prog 108 #[.pointer (some ⟨D.v, 0, none⟩), .int .u8 kv, .int .i64 n, .int .u64 (A.toNat : Int), .int .u64 (B.toNat : Int)] w
      (Ret (.int .u64 ((bKT k n bs).toNat : Int)) (PB D M me told (steps + 1) ws (bKS k n A bs) w)) := by
  have c0 := hD.v0
  have c1 := hD.v1
  have f1 := blk_free hD.hv 1
  have n1 := hD.ne_vm hM
  have n2 := hD.ne_vw hM
  have n3 := hD.ne_vb hM
  have n4 : D.d ≠ M.bb := cells_type hD.hd hM.hb (by decide)
  have HD := hid hD
  have HM := hid hM
  have HK := hid (And.intro hkv (And.intro hk1 hk))
  clear hD hM hkv hk1 hk
  go_enter Try.func108, Try.ntmps108
  go_wp2_with fail
  have h1 := HD.out.step (steps + 1)
  have h2 : MemAt (w.setCell ⟨D.v, 1, none⟩ (.int .i64 ((steps + 1 : Nat) : Int))) M ws bs := HM.out.ext ((Ext.refl [D.v] w).setCell (.inl (by simp)) _) (by simpa using fun e => n1 e.symm) (by simpa using fun e => n2 e.symm) (by simpa using fun e => n3 e.symm)
  have e1 : ((steps + 1 : Nat) : Int) = (steps : Int) + 1 := by omega
  rw [e1] at h1 h2
  refine (do_byte M ws bs k kv n A B _ h2 HK.out.1 HK.out.2.1 HK.out.2.2).mono ?_
  rintro e w1 ⟨rfl, h3, x3⟩
  have h4 := h1.ext x3 (by simpa using n4) (by simpa using n3)
  have x4 : Ext [D.v, M.bb] w w1 := ((Ext.refl [D.v, M.bb] w).setCell (p := ⟨D.v, 1, none⟩) (.inl (by simp)) (.int .i64 ((steps : Int) + 1))).trans' (x3.mono (by simp))
  have P := hid (And.intro h4 (And.intro h3 x4))
  clear h1 h2 h3 h4 x3 x4 e1 c0 c1 f1 n1 n2 n3 n4
  go_wp2
  go_ret
  exact ⟨rfl, P.out⟩
set_option maxHeartbeats 1000000 in
theorem pGet_any (D : DirId) (M : MemId) (me : Int) (told : Value) (steps : Nat) (ws : List UInt64) (bs : List UInt8) (n : Int) (w : World)
    (hD : DirAt w D M.m me told steps) (hM : MemAt w M ws bs) (hs : steps ≤ 1000000000000) :
    Calls Try.prog 175 #[.pointer (some ⟨D.d, 0, none⟩), .int .i64 n] w
      (Ret (.int .u8 ((bT n bs).toNat : Int)) (PB D M me told (steps + 1) ws bs w)) := by
  have hu := u8_u8 (bT n bs)
  have hk : ((bKT 5 n bs).toNat : Int) = ((bT n bs).toNat : Int) := by simp [bKT]
  have HD := hid hD
  have HM := hid hM
  clear hD hM
  go_enter Try.func175, Try.ntmps175
  go_wp2_with fail
  refine (way_any D M.m me told steps _ HD.out).mono ?_
  rintro e w1 ⟨rfl, x1⟩
  have hD1 := HD.out.ext0 x1
  have hM1 := HM.out.ext0 x1
  have X1 := hid x1
  clear x1
  have HD1 := hid hD1
  have HM1 := hid hM1
  clear hD1 hM1
  go_wp2_with fail
  refine (wdo_byte D M me told steps ws bs 5 5 n 0 0 w1 HD1.out HM1.out rfl (by omega) (by omega) hs).mono ?_
  rw [hk]
  rintro e w2 ⟨rfl, hD2, hM2, x2⟩
  have P := hid (And.intro hD2 (And.intro hM2 (Ext.of0 X1.out x2)))
  clear hD2 hM2 x2 hk
  go_wp2
  go_ret
  exact ⟨rfl, P.out⟩
set_option maxHeartbeats 1000000 in
theorem pPut_any (D : DirId) (M : MemId) (me : Int) (told : Value) (steps : Nat) (ws : List UInt64) (bs : List UInt8) (n : Int) (b : UInt8) (w : World)
    (hD : DirAt w D M.m me told steps) (hM : MemAt w M ws bs) (hs : steps ≤ 1000000000000) :
    Calls Try.prog 176 #[.pointer (some ⟨D.d, 0, none⟩), .int .i64 n, .int .u8 (b.toNat : Int)] w
      (Ret (.tuple #[]) (PB D M me told (steps + 1) ws (bS n b bs) w)) := by
  have hu := u64_u8 b
  have HD := hid hD
  have HM := hid hM
  clear hD hM
  go_enter Try.func176, Try.ntmps176
  go_wp2_with fail
  refine (way_any D M.m me told steps _ HD.out).mono ?_
  rintro e w1 ⟨rfl, x1⟩
  have hD1 := HD.out.ext0 x1
  have hM1 := HM.out.ext0 x1
  have X1 := hid x1
  clear x1
  have HD1 := hid hD1
  have HM1 := hid hM1
  clear hD1 hM1
  go_wp2_with fail
  refine (wdo_byte D M me told steps ws bs 6 6 n b.toUInt64 0 w1 HD1.out HM1.out rfl (by omega) (by omega) hs).mono ?_
  rw [show bKS 6 n b.toUInt64 bs = bS n b bs by simp [bKS]]
  rintro e w2 ⟨rfl, hD2, hM2, x2⟩
  have P := hid (And.intro hD2 (And.intro hM2 (Ext.of0 X1.out x2)))
  clear hD2 hM2 x2
  go_wp2
  go_end0
  exact ⟨rfl, P.out⟩
end Go.Proofs.Ytceddijolfpppaa
namespace Go.Proofs.Ytceddijolfpppaa
open Go Go.RowKit
set_option linter.unusedSimpArgs false
set_option linter.unusedVariables false
def ResAt (w : World) (b : Nat) (cs : Array Value) : Prop := blk w b = some (.cells cs 113 (0, 0))
theorem DirAt.c2 {w : World} {D : DirId} {m : Nat} {me : Int} {told : Value} {steps : Nat} (h : DirAt w D m me told steps) : w.cell? ⟨D.d, 2, none⟩ = some told := blk_cell h.hd 2
theorem DirAt.tell {w : World} {D : DirId} {m : Nat} {me : Int} {told : Value} {steps : Nat} (h : DirAt w D m me told steps) (v : Value) : DirAt (w.setCell ⟨D.d, 2, none⟩ v) D m me v steps :=
  ⟨by rw [blk_setCell h.hd]; rfl, by rw [blk_set _ _ _ _ h.ne_dv.symm, h.hv]⟩
set_option maxHeartbeats 1000000 in
theorem pTell_any (D : DirId) (m : Nat) (me : Int) (told : Value) (steps : Nat) (cs : Array Value) (w : World) (h : DirAt w D m me told steps) :
    Calls Try.prog 178 #[.pointer (some ⟨D.d, 0, none⟩), .agg cs] w (fun e w' => e = .returned (.tuple #[]) ∧ ∃ b, w.heap.size ≤ b ∧ ResAt w' b cs ∧ DirAt w' D m me (.pointer (some ⟨b, 0, none⟩)) steps ∧ Ext [D.d] w w') := by
  have hc := h.c0
  have hc2 := h.c2
  have hd := blk_lt h.hd
  have f1 := blk_free h.hd 2
  have H := hid h
  clear h
  go_enter Try.func178, Try.ntmps178
  go_wp2
  go_end0
  exact ⟨rfl, w.heap.size, Nat.le_refl _, by simp [ResAt, go_sem], (H.out.tell _).ext0 ((Ext.refl [] _).alloc _), ((Ext.refl [D.d] w).setCell (.inl (by simp)) _).alloc _⟩
set_option maxHeartbeats 1000000 in
theorem pFresh_any (D : DirId) (m : Nat) (me : Int) (told : Value) (steps : Nat) (w : World) (h : DirAt w D m me told steps) :
    Calls Try.prog 84 #[.pointer (some ⟨D.d, 0, none⟩)] w (fun e w' => e = .returned (.tuple #[]) ∧ DirAt w' D m me (.pointer none) 0 ∧ Ext [D.d, D.v] w w') := by
  have H := hid h
  clear h
  go_enter Try.func84, Try.ntmps84
  go_wp2_with fail
  refine (way_any D m me told steps _ H.out).mono ?_
  rintro e w1 ⟨rfl, x1⟩
  have h1 := H.out.ext0 x1
  have hc := h1.c0
  have hc1 := h1.v1
  have hc2 := h1.c2
  have f1 := blk_free h1.hd 2
  have f2 := blk_free h1.hv 1
  have X1 := hid x1
  have H1 := hid h1
  clear x1 h1
  go_wp2
  go_end0
  have h2 := (H1.out.step 0).tell (.pointer none)
  exact ⟨rfl, h2, Ext.of0 X1.out (((Ext.refl [D.d, D.v] w1).setCell (.inl (by simp)) _).setCell (.inl (by simp)) _)⟩
section
theorem loadAt_res (v : Value) : Instr.loadAt 113 v = oldLoadAt 113 v := rfl
theorem storeAt_res (v u : Value) : Instr.storeAt 113 v u = oldStoreAt 113 v u := rfl
attribute [local go_sem ↓] loadAt_res storeAt_res
end
end Go.Proofs.Ytceddijolfpppaa
namespace Go.Proofs.Ytceddijolfpppaa
open Go Go.RowKit
set_option linter.unusedSimpArgs false
set_option linter.unusedVariables false
def isq : Nat → Nat
  | 0 => 0
  | n + 1 => if (isq n + 1) * (isq n + 1) ≤ n + 1 then isq n + 1 else isq n
theorem isq_spec : ∀ n, isq n * isq n ≤ n ∧ n < (isq n + 1) * (isq n + 1)
  | 0 => by simp [isq]
  | n + 1 => by
    obtain ⟨h1, h2⟩ := isq_spec n
    unfold isq
    split
    · rename_i h
      refine ⟨h, ?_⟩
      have : (isq n + 1 + 1) * (isq n + 1 + 1) = (isq n + 1) * (isq n + 1) + 2 * (isq n + 1) + 1 := by
        simp only [Nat.add_mul, Nat.mul_add]; omega
      omega
    · omega
def code (a b : Nat) : Nat := (a + b) * (a + b) + a
theorem isq_code (a b : Nat) : isq (code a b) = a + b := by
  obtain ⟨h1, h2⟩ := isq_spec (code a b)
  have hc : code a b < (a + b + 1) * (a + b + 1) := by
    unfold code
    have : (a + b + 1) * (a + b + 1) = (a + b) * (a + b) + 2 * (a + b) + 1 := by simp only [Nat.add_mul, Nat.mul_add]; omega
    omega
  have hd : (a + b) * (a + b) ≤ code a b := by unfold code; omega
  rcases Nat.lt_trichotomy (isq (code a b)) (a + b) with h | h | h
  · have := Nat.mul_le_mul (show isq (code a b) + 1 ≤ a + b by omega) (show isq (code a b) + 1 ≤ a + b by omega)
    omega
  · exact h
  · have := Nat.mul_le_mul (show a + b + 1 ≤ isq (code a b) by omega) (show a + b + 1 ≤ isq (code a b) by omega)
    omega
def aux (s : Nat) (i : Nat) : Nat := if i = 1 then s - isq s * isq s else isq s - (s - isq s * isq s)
theorem aux_1 (a b : Nat) : aux (code a b) 1 = a := by
  unfold aux
  rw [if_pos rfl, isq_code]
  unfold code; omega
theorem aux_2 (a b : Nat) : aux (code a b) 2 = b := by
  unfold aux
  rw [if_neg (by decide), isq_code]
  unfold code; omega
inductive Ob where
  | mem (ws : List UInt64) (bs : List UInt8)
  | port (m : Nat) (me : Int) (steps : Nat)
abbrev St := List Ob
def hndV (k : Nat) : Value := .pointer (some ⟨VB + k, 0, none⟩)
def prtV (k : Nat) : Value := .iface 33 (hndV k)
def obBlk (F : Emb) (k : Nat) : Ob → List Nat
  | .mem _ _ => [F.blk (VB + k), aux (F.slack (VB + k)) 1, aux (F.slack (VB + k)) 2]
  | .port _ _ _ => [F.blk (VB + k), aux (F.slack (VB + k)) 1]
def obAt (F : Emb) (S : St) (w : World) (k : Nat) : Ob → Prop
  | .mem ws bs => ∃ pw pb, MemAt w ⟨F.blk (VB + k), aux (F.slack (VB + k)) 1, aux (F.slack (VB + k)) 2, pw, pb⟩ ws bs
  | .port m me steps => (∃ td, DirAt w ⟨F.blk (VB + k), aux (F.slack (VB + k)) 1⟩ (F.blk (VB + m)) me td steps) ∧ ∃ ws bs, S[m]? = some (Ob.mem ws bs)
structure Rep (F : Emb) (S : St) (w : World) : Prop where
  base : ∀ k ob, S[k]? = some ob → F.base (VB + k) = 0
  at' : ∀ k ob, S[k]? = some ob → obAt F S w k ob
  apart : ∀ k k' ob ob', k ≠ k' → S[k]? = some ob → S[k']? = some ob' → ∀ b ∈ obBlk F k ob, b ∉ obBlk F k' ob'
def fpS (F : Emb) (S : St) (b : Nat) : Prop := ∃ k ob, S[k]? = some ob ∧ b ∈ obBlk F k ob
theorem obAt_block {F : Emb} {S : St} {w : World} {k : Nat} {ob : Ob} (h : obAt F S w k ob) : ∀ b ∈ obBlk F k ob, ∃ o, blk w b = some o := by
  intro b hb
  cases ob with
  | mem ws bs =>
    obtain ⟨pw, pb, h⟩ := h
    simp only [obBlk, List.mem_cons, List.not_mem_nil, or_false] at hb
    rcases hb with rfl | rfl | rfl
    · exact ⟨_, h.hm⟩
    · exact ⟨_, h.hw⟩
    · exact ⟨_, h.hb⟩
  | port m me steps =>
    obtain ⟨⟨td, h⟩, _⟩ := h
    simp only [obBlk, List.mem_cons, List.not_mem_nil, or_false] at hb
    rcases hb with rfl | rfl
    · exact ⟨_, h.hd⟩
    · exact ⟨_, h.hv⟩
theorem obAt_kept {F : Emb} {S : St} {w w' : World} {k : Nat} {ob : Ob} (h : obAt F S w k ob) (hk : ∀ b ∈ obBlk F k ob, w'.heap[b]? = w.heap[b]?) : obAt F S w' k ob := by
  cases ob with
  | mem ws bs =>
    obtain ⟨pw, pb, h⟩ := h
    exact ⟨pw, pb, ⟨(hk _ (by simp [obBlk])).trans h.hm, (hk _ (by simp [obBlk])).trans h.hw, (hk _ (by simp [obBlk])).trans h.hb, h.wl, h.bl⟩⟩
  | port m me steps =>
    obtain ⟨⟨td, h⟩, h2⟩ := h
    exact ⟨⟨td, (hk _ (by simp [obBlk])).trans h.hd, (hk _ (by simp [obBlk])).trans h.hv⟩, h2⟩
theorem Same.ob {F F' : Emb} {S : St} (hs : Same (fun n => VB ≤ n ∧ n < VB + S.length) F F') {k : Nat} {ob : Ob} (hk : S[k]? = some ob) : F.blk (VB + k) = F'.blk (VB + k) ∧ F.base (VB + k) = F'.base (VB + k) ∧ F.slack (VB + k) = F'.slack (VB + k) := by
  have := (List.getElem?_eq_some_iff.1 hk).1
  exact hs (VB + k) ⟨by omega, by omega⟩
theorem obBlk_same {F F' : Emb} {S : St} (hs : Same (fun n => VB ≤ n ∧ n < VB + S.length) F F') {k : Nat} {ob : Ob} (hk : S[k]? = some ob) : obBlk F' k ob = obBlk F k ob := by
  obtain ⟨h1, h2, h3⟩ := hs.ob hk
  cases ob <;> simp [obBlk, h1, h3]
theorem obAt_same {F F' : Emb} {S : St} {w : World} (hs : Same (fun n => VB ≤ n ∧ n < VB + S.length) F F') {k : Nat} {ob : Ob} (hk : S[k]? = some ob) (h : obAt F S w k ob) : obAt F' S w k ob := by
  obtain ⟨h1, h2, h3⟩ := hs.ob hk
  cases ob with
  | mem ws bs => unfold obAt at h ⊢; rw [← h1, ← h3]; exact h
  | port m me steps =>
    obtain ⟨hd, ws, bs, hm⟩ := h
    obtain ⟨k1, _, _⟩ := hs.ob hm
    show (∃ td, DirAt w ⟨F'.blk (VB + k), aux (F'.slack (VB + k)) 1⟩ (F'.blk (VB + m)) me td steps) ∧ _
    rw [← h1, ← h3, ← k1]
    exact ⟨hd, ws, bs, hm⟩
theorem Rep.same {F F' : Emb} {S : St} {w : World} (hs : Same (fun n => VB ≤ n ∧ n < VB + S.length) F F') (h : Rep F S w) : Rep F' S w ∧ ∀ b, fpS F' S b → fpS F S b :=
  ⟨⟨fun k ob hk => by rw [← (hs.ob hk).2.1]; exact h.base k ob hk, fun k ob hk => obAt_same hs hk (h.at' k ob hk), fun k k' ob ob' hne hk hk' b hb => by
    rw [obBlk_same hs hk] at hb; rw [obBlk_same hs hk']; exact h.apart k k' ob ob' hne hk hk' b hb⟩, fun b ⟨k, ob, hk, hb⟩ => ⟨k, ob, hk, by rw [obBlk_same hs hk] at hb; exact hb⟩⟩
theorem Rep.turn {F : Emb} {S S' : St} {w w' : World} {X : List Nat} {T : List Nat} (h : Rep F S w) (hx : Ext X w w') (hlen : S'.length = S.length) (hX : ∀ x ∈ X, ∃ k ∈ T, ∃ ob, S[k]? = some ob ∧ x ∈ obBlk F k ob)
    (hold : ∀ k, k ∉ T → S'[k]? = S[k]?) (hblk : ∀ k ob ob', S[k]? = some ob → S'[k]? = some ob' → obBlk F k ob' = obBlk F k ob) (hmem : ∀ k : Nat, (∃ ws bs, S[k]? = some (Ob.mem ws bs)) → ∃ ws bs, S'[k]? = some (Ob.mem ws bs)) (hnew : ∀ k ∈ T, ∀ ob, S'[k]? = some ob → obAt F S' w' k ob) :
    Rep F S' w' ∧ Kept w (fpS F S) w' ∧ ∀ b, fpS F S' b → fpS F S b := by
  have hob : ∀ k ob', S'[k]? = some ob' → ∃ ob, S[k]? = some ob := fun k ob' hk => by
    have := (List.getElem?_eq_some_iff.1 hk).1
    exact ⟨_, List.getElem?_eq_getElem (by omega)⟩
  refine ⟨⟨fun k ob' hk => ?_, fun k ob' hk => ?_, fun k k' ob1 ob2 hne hk hk' b hb => ?_⟩, ⟨hx.os, hx.tape, hx.output, hx.size, fun b hb hn => hx.block b hb (fun hbx => ?_)⟩, fun b ⟨k, ob', hk, hb⟩ => ?_⟩
  · obtain ⟨ob, ho⟩ := hob k ob' hk
    exact h.base k ob ho
  · by_cases hT : k ∈ T
    · exact hnew k hT ob' hk
    · rw [hold k hT] at hk
      have h1 := obAt_kept (w' := w') (h.at' k ob' hk) (fun b hb => by
        obtain ⟨o, ho⟩ := obAt_block (h.at' k ob' hk) b hb
        refine hx.block b (blk_lt ho) (fun hbx => ?_)
        obtain ⟨k', hk', ob, ho', hb'⟩ := hX b hbx
        exact h.apart k k' ob' ob (by rintro rfl; exact hT hk') hk ho' b hb hb')
      cases ob' with
      | mem ws bs => exact h1
      | port m me steps => exact ⟨h1.1, hmem m h1.2⟩
  · obtain ⟨o1, h1⟩ := hob k ob1 hk
    obtain ⟨o2, h2⟩ := hob k' ob2 hk'
    rw [hblk k o1 ob1 h1 hk] at hb
    rw [hblk k' o2 ob2 h2 hk']
    exact h.apart k k' o1 o2 hne h1 h2 b hb
  · obtain ⟨k, _, ob, ho, hb'⟩ := hX b hbx
    exact hn ⟨k, ob, ho, hb'⟩
  · obtain ⟨ob, ho⟩ := hob k ob' hk
    exact ⟨k, ob, ho, by rw [hblk k ob ob' ho hk] at hb; exact hb⟩
def Emb.more (F : Emb) (n b0 b1 b2 : Nat) : Emb := ⟨fun m => if m = n then b0 else F.blk m, fun m => if m = n then 0 else F.base m, fun m => if m = n then code b1 b2 else F.slack m⟩
theorem Rep.more {F : Emb} {S : St} {w w' : World} {ob : Ob} {b0 b1 b2 : Nat} (h : Rep F S w) (hx : Ext [] w w') (h0 : w.heap.size ≤ b0) (h1 : w.heap.size ≤ b1) (h2 : (∃ ws bs, ob = Ob.mem ws bs) → w.heap.size ≤ b2) (hnew : obAt (F.more (VB + S.length) b0 b1 b2) (S ++ [ob]) w' S.length ob) :
    Same (fun n => n < VB + S.length) F (F.more (VB + S.length) b0 b1 b2) ∧ Rep (F.more (VB + S.length) b0 b1 b2) (S ++ [ob]) w' ∧ Kept w (fpS F S) w' ∧ ∀ b, fpS (F.more (VB + S.length) b0 b1 b2) (S ++ [ob]) b → fpS F S b ∨ w.heap.size ≤ b := by
  have hs : Same (fun n => n < VB + S.length) F (F.more (VB + S.length) b0 b1 b2) := fun n hn => by
    have : n ≠ VB + S.length := by omega
    simp [Emb.more, this]
  have hs' : Same (fun n => VB ≤ n ∧ n < VB + S.length) F (F.more (VB + S.length) b0 b1 b2) := hs.mono (fun n hn => hn.2)
  have hget : ∀ k o, (S ++ [ob])[k]? = some o → (k = S.length ∧ o = ob) ∨ S[k]? = some o := fun k o hk => by
    by_cases hlt : k < S.length
    · rw [List.getElem?_append_left hlt] at hk; exact .inr hk
    · have : k = S.length := by have := (List.getElem?_eq_some_iff.1 hk).1; simp at this; omega
      subst this
      simp at hk
      exact .inl ⟨rfl, hk.symm⟩
  have hnb : ∀ b ∈ obBlk (F.more (VB + S.length) b0 b1 b2) S.length ob, w.heap.size ≤ b := fun b hb => by
    cases ob with
    | mem ws bs =>
      simp only [obBlk, Emb.more, if_true, List.mem_cons, List.not_mem_nil, or_false] at hb
      have := h2 ⟨ws, bs, rfl⟩
      rw [aux_1, aux_2] at hb
      rcases hb with rfl | rfl | rfl <;> simp_all
    | port m me steps =>
      simp only [obBlk, Emb.more, if_true, List.mem_cons, List.not_mem_nil, or_false] at hb
      rw [aux_1] at hb
      rcases hb with rfl | rfl <;> simp_all
  have hob : ∀ k o, S[k]? = some o → ∀ b ∈ obBlk (F.more (VB + S.length) b0 b1 b2) k o, b ∈ obBlk F k o ∧ b < w.heap.size := fun k o hk b hb => by
    rw [obBlk_same hs' hk] at hb
    obtain ⟨o', ho'⟩ := obAt_block (h.at' k o hk) b hb
    exact ⟨hb, blk_lt ho'⟩
  refine ⟨hs, ⟨fun k o hk => ?_, fun k o hk => ?_, fun k k' o o' hne hk hk' b hb hb' => ?_⟩, ⟨hx.os, hx.tape, hx.output, hx.size, fun b hb _ => hx.block b hb (by simp)⟩, fun b ⟨k, o, hk, hb⟩ => ?_⟩
  · rcases hget k o hk with ⟨rfl, rfl⟩ | hk
    · simp [Emb.more]
    · rw [← (hs'.ob hk).2.1]; exact h.base k o hk
  · rcases hget k o hk with ⟨rfl, rfl⟩ | hk
    · exact hnew
    · have h3 := obAt_kept (w' := w') (obAt_same hs' hk (h.at' k o hk)) (fun b hb => hx.block b (hob k o hk b hb).2 (by simp))
      cases o with
      | mem ws bs => exact h3
      | port m me steps =>
        obtain ⟨h4, ws, bs, h5⟩ := h3
        refine ⟨h4, ws, bs, ?_⟩
        rw [List.getElem?_append_left (List.getElem?_eq_some_iff.1 h5).1]; exact h5
  · rcases hget k o hk with ⟨e1, e2⟩ | hk1 <;> rcases hget k' o' hk' with ⟨e3, e4⟩ | hk2
    · exact hne (e1.trans e3.symm)
    · rw [e1, e2] at hb; have := hnb b hb; have := (hob _ _ hk2 b hb').2; omega
    · rw [e3, e4] at hb'; have := hnb b hb'; have := (hob _ _ hk1 b hb).2; omega
    · exact h.apart k k' o o' hne hk1 hk2 b (hob k o hk1 b hb).1 (hob k' o' hk2 b hb').1
  · rcases hget k o hk with ⟨rfl, rfl⟩ | hk
    · exact .inr (hnb b hb)
    · exact .inl ⟨k, o, hk, (hob k o hk b hb).1⟩
def accS (S : St) (p m : Nat) (me : Int) (steps : Nat) (ws : List UInt64) (bs : List UInt8) : St := (S.set p (.port m me steps)).set m (.mem ws bs)
inductive Prim : FuncId → Array Value → St → Value → St → Prop
  | pure {f args v S} (h : ∀ w, Calls Try.prog f args w (Ret v (Ext [] w))) (ha : args.all plainB = true) (hv : plainB v = true) : Prim f args S v S
  | word {k : Nat} {ws : List UInt64} {bs : List UInt8} {S : St} (n : Int) (h : S[k]? = some (Ob.mem ws bs)) : Prim 30 #[hndV k, .int .i64 n] S (.int .u64 ((wT 1 n 0 ws).toNat : Int)) S
  | do' {k : Nat} {ws : List UInt64} {bs : List UInt8} {S : St} (c : Nat) (n : Int) (A B : UInt64) (h : S[k]? = some (Ob.mem ws bs)) (h1 : 1 ≤ c) (h4 : c ≤ 4) :
      Prim 85 #[hndV k, accV c n A B] S (.tuple #[.int .u64 ((wT c n A ws).toNat : Int), .bool (wAt ws n).isSome]) (S.set k (.mem (wS c n A B ws) bs))
  | load {p m : Nat} {me : Int} {steps : Nat} {ws : List UInt64} {bs : List UInt8} {S : St} (n : Int) (h : S[p]? = some (Ob.port m me steps)) (hm : S[m]? = some (Ob.mem ws bs)) (hs : steps ≤ 1000000000000) :
      Prim 44 #[hndV p, .int .i64 n] S (.int .u64 ((wT 1 n 0 ws).toNat : Int)) (accS S p m me (steps + 1) (wS 1 n 0 0 ws) bs)
  | store {p m : Nat} {me : Int} {steps : Nat} {ws : List UInt64} {bs : List UInt8} {S : St} (n : Int) (A : UInt64) (h : S[p]? = some (Ob.port m me steps)) (hm : S[m]? = some (Ob.mem ws bs)) (hs : steps ≤ 1000000000000) :
      Prim 52 #[hndV p, .int .i64 n, .int .u64 (A.toNat : Int)] S (.tuple #[]) (accS S p m me (steps + 1) (wS 2 n A 0 ws) bs)
  | cas {p m : Nat} {me : Int} {steps : Nat} {ws : List UInt64} {bs : List UInt8} {S : St} (n : Int) (A B : UInt64) (h : S[p]? = some (Ob.port m me steps)) (hm : S[m]? = some (Ob.mem ws bs)) (hs : steps ≤ 1000000000000) :
      Prim 174 #[hndV p, .int .i64 n, .int .u64 (A.toNat : Int), .int .u64 (B.toNat : Int)] S (.bool (wT 3 n A ws == 1)) (accS S p m me (steps + 1) (wS 3 n A B ws) bs)
  | add {p m : Nat} {me : Int} {steps : Nat} {ws : List UInt64} {bs : List UInt8} {S : St} (n : Int) (A : UInt64) (h : S[p]? = some (Ob.port m me steps)) (hm : S[m]? = some (Ob.mem ws bs)) (hs : steps ≤ 1000000000000) :
      Prim 173 #[hndV p, .int .i64 n, .int .u64 (A.toNat : Int)] S (.int .u64 ((wT 4 n A ws).toNat : Int)) (accS S p m me (steps + 1) (wS 4 n A 0 ws) bs)
  | self {p m : Nat} {me : Int} {steps : Nat} {S : St} (h : S[p]? = some (Ob.port m me steps)) : Prim 177 #[hndV p] S (.int .i64 me) S
  | steps {p m : Nat} {me : Int} {steps : Nat} {S : St} (h : S[p]? = some (Ob.port m me steps)) : Prim 29 #[hndV p] S (.int .i64 (steps : Int)) S
  | mcopy {k : Nat} {ws : List UInt64} {bs : List UInt8} {S : St} (h : S[k]? = some (Ob.mem ws bs)) : Prim 70 #[hndV k] S (hndV S.length) (S ++ [.mem ws bs])
  | msame {k j : Nat} {ws us : List UInt64} {bs cs : List UInt8} {S : St} (h : S[k]? = some (Ob.mem ws bs)) (h' : S[j]? = some (Ob.mem us cs)) : Prim 73 #[hndV k, hndV j] S (.bool (decide (ws = us) && decide (bs = cs))) S
  | byte {k : Nat} {ws : List UInt64} {bs : List UInt8} {S : St} (n : Int) (h : S[k]? = some (Ob.mem ws bs)) : Prim 79 #[hndV k, .int .i64 n] S (.int .u8 ((bT n bs).toNat : Int)) S
  | dget {k : Nat} {ws : List UInt64} {bs : List UInt8} {S : St} (n : Int) (A B : UInt64) (h : S[k]? = some (Ob.mem ws bs)) :
      Prim 85 #[hndV k, accV 5 n A B] S (.tuple #[.int .u64 ((bT n bs).toNat : Int), .bool (bAt bs n).isSome]) S
  | dput {k : Nat} {ws : List UInt64} {bs : List UInt8} {S : St} (n : Int) (A B : UInt64) (h : S[k]? = some (Ob.mem ws bs)) :
      Prim 85 #[hndV k, accV 6 n A B] S (.tuple #[.int .u64 0, .bool (bAt bs n).isSome]) (S.set k (.mem ws (bS n A.toUInt8 bs)))
  | get {p m : Nat} {me : Int} {steps : Nat} {ws : List UInt64} {bs : List UInt8} {S : St} (n : Int) (h : S[p]? = some (Ob.port m me steps)) (hm : S[m]? = some (Ob.mem ws bs)) (hs : steps ≤ 1000000000000) :
      Prim 175 #[hndV p, .int .i64 n] S (.int .u8 ((bT n bs).toNat : Int)) (accS S p m me (steps + 1) ws bs)
  | put {p m : Nat} {me : Int} {steps : Nat} {ws : List UInt64} {bs : List UInt8} {S : St} (n : Int) (b : UInt8) (h : S[p]? = some (Ob.port m me steps)) (hm : S[m]? = some (Ob.mem ws bs)) (hs : steps ≤ 1000000000000) :
      Prim 176 #[hndV p, .int .i64 n, .int .u8 (b.toNat : Int)] S (.tuple #[]) (accS S p m me (steps + 1) ws (bS n b bs))
  | tell {p m : Nat} {me : Int} {steps : Nat} {S : St} (cs : Array Value) (h : S[p]? = some (Ob.port m me steps)) (hc : plainB (.agg cs) = true) : Prim 178 #[hndV p, .agg cs] S (.tuple #[]) (S.set p (.port m me steps))
  | fresh {p m : Nat} {me : Int} {steps : Nat} {S : St} (h : S[p]? = some (Ob.port m me steps)) : Prim 84 #[hndV p] S (.tuple #[]) (S.set p (.port m me 0))
  | pnew {m : Nat} {me : Int} {ws : List UInt64} {bs : List UInt8} {S : St} (h : S[m]? = some (Ob.mem ws bs)) : Prim 19 #[hndV m, .int .i64 me] S (hndV S.length) (S ++ [.port m me 0])
  | mnew {S : St} (a b : Nat) (ha : a ≤ 2097152) (hb : b ≤ 1048576) : Prim 90 #[.int .i64 a, .int .i64 b] S (.tuple #[hndV S.length, .int .i64 0]) (S ++ [.mem (List.replicate a 0) (List.replicate b 0)])
theorem plain_args {args : Array Value} (F : Emb) (h : args.all plainB = true) : args.map (ren F) = args := by
  apply Array.ext
  · simp
  · intro i h1 h2
    simp only [Array.getElem_map]
    exact ren_plain F ((Array.all_eq_true.1 h) i h2)
theorem ren_hnd {F : Emb} {k : Nat} (hb : F.base (VB + k) = 0) : ren F (hndV k) = .pointer (some ⟨F.blk (VB + k), 0, none⟩) := by simp [hndV, adr, hb]
theorem Prim.len {f : FuncId} {args : Array Value} {S S' : St} {v : Value} (h : Prim f args S v S') : S.length ≤ S'.length := by
  cases h <;> simp [accS]
theorem hnd_hand (c k : Nat) (h : k < c) : Hand c (hndV k) := by
  intro F F' hs
  have := hs (VB + k) ⟨by omega, by omega⟩
  simp [hndV, adr, this.1, this.2.1]
theorem Prim.hand {f : FuncId} {args : Array Value} {S S' : St} {v : Value} (h : Prim f args S v S') : Hand S'.length v := by
  cases h with
  | pure h ha hv => exact Hand.plain hv
  | pnew h => exact hnd_hand _ _ (by simp)
  | mcopy h => exact hnd_hand _ _ (by simp)
  | mnew a b ha hb =>
    have h1 := hnd_hand (S ++ [Ob.mem (List.replicate a 0) (List.replicate b 0)]).length S.length (by simp)
    intro F F' hs
    simp only [ren_tuple, List.map_toArray, List.map_cons, List.map_nil, ren_int]
    rw [h1 F F' hs]
  | _ => exact Hand.plain (by first | rfl | simp [plainB])
theorem accS_get {S : St} {p m : Nat} {me : Int} {steps : Nat} {ws : List UInt64} {bs : List UInt8} {ob ob2 : Ob} (h : S[p]? = some ob) (hm : S[m]? = some ob2) (hne : p ≠ m) : (accS S p m me steps ws bs)[p]? = some (Ob.port m me steps) ∧ (accS S p m me steps ws bs)[m]? = some (Ob.mem ws bs) := by
  have h1 := (List.getElem?_eq_some_iff.1 h).1
  have h2 := (List.getElem?_eq_some_iff.1 hm).1
  unfold accS
  constructor
  · rw [List.getElem?_set_ne (Ne.symm hne), List.getElem?_set_self h1]
  · rw [List.getElem?_set_self (by simpa using h2)]
theorem accS_other {S : St} {p m k : Nat} {me : Int} {steps : Nat} {ws : List UInt64} {bs : List UInt8} (h1 : k ≠ p) (h2 : k ≠ m) : (accS S p m me steps ws bs)[k]? = S[k]? := by
  unfold accS
  rw [List.getElem?_set_ne (Ne.symm h2), List.getElem?_set_ne (Ne.symm h1)]
def Turned (F : Emb) (S S' : St) (v : Value) (w : World) (e : Ending) (w' : World) : Prop :=
  ∃ F', Same (fun n => n < VB + S.length) F F' ∧ e = .returned (ren F' v) ∧ Rep F' S' w' ∧ Kept w (fpS F S) w' ∧ ∀ b, fpS F' S' b → fpS F S b ∨ w.heap.size ≤ b
theorem turned_acc {F : Emb} {S : St} {p m : Nat} {me : Int} {steps steps' : Nat} {ws ws' : List UInt64} {bs bs' : List UInt8} {w w' : World} {v td : Value} {pw pb : Array Value} (R : Rep F S w) (h : S[p]? = some (Ob.port m me steps)) (hm : S[m]? = some (Ob.mem ws bs)) (hv : ren F v = v)
    (hq0 : PS ⟨F.blk (VB + p), aux (F.slack (VB + p)) 1⟩ ⟨F.blk (VB + m), aux (F.slack (VB + m)) 1, aux (F.slack (VB + m)) 2, pw, pb⟩ me td steps' ws' bs' w w' ∨
      (DirAt w' ⟨F.blk (VB + p), aux (F.slack (VB + p)) 1⟩ (F.blk (VB + m)) me td steps' ∧ MemAt w' ⟨F.blk (VB + m), aux (F.slack (VB + m)) 1, aux (F.slack (VB + m)) 2, pw, pb⟩ ws' bs' ∧ Ext [aux (F.slack (VB + p)) 1, aux (F.slack (VB + m)) 2] w w')) : Turned F S (accS S p m me steps' ws' bs') v w (.returned v) w' := by
  have hq : DirAt w' ⟨F.blk (VB + p), aux (F.slack (VB + p)) 1⟩ (F.blk (VB + m)) me td steps' ∧ MemAt w' ⟨F.blk (VB + m), aux (F.slack (VB + m)) 1, aux (F.slack (VB + m)) 2, pw, pb⟩ ws' bs' ∧ Ext [aux (F.slack (VB + p)) 1, aux (F.slack (VB + m)) 1, aux (F.slack (VB + m)) 2] w w' := by
    rcases hq0 with ⟨h1, h2, h3⟩ | ⟨h1, h2, h3⟩
    · exact ⟨h1, h2, h3.mono (by simp)⟩
    · exact ⟨h1, h2, h3.mono (by simp)⟩
  clear hq0
  have hne : p ≠ m := by rintro rfl; rw [h] at hm; cases hm
  obtain ⟨g1, g2⟩ := accS_get (me := me) (steps := steps') (ws := ws') (bs := bs') h hm hne
  have hk : ∀ k ob, S[k]? = some ob → ∀ ob', (accS S p m me steps' ws' bs')[k]? = some ob' → obBlk F k ob' = obBlk F k ob := by
    intro k ob h1 ob' h2
    by_cases e1 : k = p
    · subst e1; rw [h] at h1; rw [g1] at h2; cases h1; cases h2; rfl
    · by_cases e2 : k = m
      · subst e2; rw [hm] at h1; rw [g2] at h2; cases h1; cases h2; rfl
      · rw [accS_other e1 e2, h1] at h2; cases h2; rfl
  obtain ⟨r1, r2, r3⟩ := R.turn (S' := accS S p m me steps' ws' bs') (T := [p, m]) hq.2.2 (by simp [accS]) (fun x hx => by
      simp only [List.mem_cons, List.not_mem_nil, or_false] at hx
      rcases hx with rfl | rfl | rfl
      · exact ⟨p, by simp, _, h, by simp [obBlk]⟩
      · exact ⟨m, by simp, _, hm, by simp [obBlk]⟩
      · exact ⟨m, by simp, _, hm, by simp [obBlk]⟩)
    (fun k hk => accS_other (fun e => hk (by simp [e])) (fun e => hk (by simp [e]))) (fun k ob ob' h1 h2 => hk k ob h1 ob' h2) (fun k ⟨ws1, bs1, h1⟩ => by
      by_cases e2 : k = m
      · subst e2; exact ⟨_, _, g2⟩
      · by_cases e1 : k = p
        · subst e1; rw [h] at h1; cases h1
        · exact ⟨ws1, bs1, by rw [accS_other e1 e2]; exact h1⟩) (fun k hk ob hob => by
      simp only [List.mem_cons, List.not_mem_nil, or_false] at hk
      rcases hk with rfl | rfl
      · rw [g1] at hob; cases hob; exact ⟨⟨td, hq.1⟩, _, _, g2⟩
      · rw [g2] at hob; cases hob; exact ⟨_, _, hq.2.1⟩)
  exact ⟨F, Same.refl _ _, by rw [hv], r1, r2, fun b hb => .inl (r3 b hb)⟩
theorem turned_port {F : Emb} {S S' : St} {p m : Nat} {me : Int} {steps steps' : Nat} {w w' : World} {v : Value} (R : Rep F S w) (h : S[p]? = some (Ob.port m me steps)) (hS : S' = S.set p (.port m me steps')) (hv : ren F v = v)
    (hx : Ext [F.blk (VB + p), aux (F.slack (VB + p)) 1] w w') (hD : ∃ td, DirAt w' ⟨F.blk (VB + p), aux (F.slack (VB + p)) 1⟩ (F.blk (VB + m)) me td steps') : Turned F S S' v w (.returned v) w' := by
  subst hS
  obtain ⟨_, ws, bs, hm⟩ := R.at' _ _ h
  have hne : p ≠ m := by rintro rfl; rw [h] at hm; cases hm
  have hlt := (List.getElem?_eq_some_iff.1 h).1
  have g1 : (S.set p (.port m me steps'))[p]? = some (.port m me steps') := List.getElem?_set_self hlt
  have g2 : ∀ k, k ≠ p → (S.set p (.port m me steps'))[k]? = S[k]? := fun k hk => List.getElem?_set_ne (Ne.symm hk)
  obtain ⟨r1, r2, r3⟩ := R.turn (S' := S.set p (.port m me steps')) (T := [p]) hx (by simp) (fun x hx => by
      simp only [List.mem_cons, List.not_mem_nil, or_false] at hx
      rcases hx with rfl | rfl
      · exact ⟨p, by simp, _, h, by simp [obBlk]⟩
      · exact ⟨p, by simp, _, h, by simp [obBlk]⟩)
    (fun k hk => g2 k (fun e => hk (by simp [e]))) (fun k ob ob' h1 h2 => by
      by_cases e : k = p
      · subst e; rw [h] at h1; rw [g1] at h2; cases h1; cases h2; rfl
      · rw [g2 k e, h1] at h2; cases h2; rfl) (fun k ⟨ws1, bs1, h1⟩ => by
      by_cases e : k = p
      · subst e; rw [h] at h1; cases h1
      · exact ⟨ws1, bs1, by rw [g2 k e]; exact h1⟩) (fun k hk ob hob => by
      simp only [List.mem_cons, List.not_mem_nil, or_false] at hk
      subst hk
      rw [g1] at hob; cases hob
      exact ⟨hD, ws, bs, by rw [g2 m (Ne.symm hne)]; exact hm⟩)
  exact ⟨F, Same.refl _ _, by rw [hv], r1, r2, fun b hb => .inl (r3 b hb)⟩
theorem turned_still {F : Emb} {S : St} {w w' : World} {v : Value} (R : Rep F S w) (hv : ren F v = v) (hx : Ext [] w w') : Turned F S S v w (.returned v) w' :=
  ⟨F, Same.refl _ _, by rw [hv], ⟨R.base, fun k ob hk => obAt_kept (R.at' k ob hk) (fun b hb => by obtain ⟨o, ho⟩ := obAt_block (R.at' k ob hk) b hb; exact hx.block b (blk_lt ho) (by simp)), R.apart⟩,
    ⟨hx.os, hx.tape, hx.output, hx.size, fun b hb _ => hx.block b hb (by simp)⟩, fun b hb => .inl hb⟩
end Go.Proofs.Ytceddijolfpppaa
