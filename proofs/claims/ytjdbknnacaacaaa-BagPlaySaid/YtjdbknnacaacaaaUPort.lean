/-
  Package port: the direct port. What a port is in a world (DirAt); contracts of its methods, and of the calls through an api.Port that holds one.
  Conditions: the port and its memory are there.
-/
import Derived.Test.YtjdbknnacaacaaaUMem
import Derived.Test.YtjdbknnacaacaaaUAx10
import Derived.IntWalk
namespace Go.Proofs.Ytjdbknnacaacaaa
open Go Go.RowKit
set_option linter.unusedSimpArgs false
set_option linter.unusedVariables false
structure DirId where
  d : Nat
  v : Nat
structure DirAt (w : World) (D : DirId) (m : Nat) (me : Int) (told : Value) (steps : Nat) : Prop where
  hd : blk w D.d = some (.cells #[.pointer (some ⟨D.v, 0, none⟩), .int .i64 me, told] 105 (0, 0))
  hv : blk w D.v = some (.cells #[.pointer (some ⟨m, 0, none⟩), .int .i64 (steps : Int)] 102 (0, 0))
section
variable {w w' : World} {D : DirId} {m : Nat} {me : Int} {told : Value} {steps : Nat} {M : MemId} {ws : List UInt64} {bs : List UInt8}
theorem DirAt.ext {X : List Nat} (h : DirAt w D m me told steps) (k : Ext X w w') (h1 : D.d ∉ X) (h2 : D.v ∉ X) : DirAt w' D m me told steps := ⟨k.blk h.hd h1, k.blk h.hv h2⟩
theorem DirAt.ext0 (h : DirAt w D m me told steps) (k : Ext [] w w') : DirAt w' D m me told steps := h.ext k (by simp) (by simp)
theorem DirAt.ne_dv (h : DirAt w D m me told steps) : D.d ≠ D.v := cells_type h.hd h.hv (by decide)
theorem DirAt.ne_dw (h : DirAt w D m me told steps) (k : MemAt w M ws bs) : D.d ≠ M.bw := cells_type h.hd k.hw (by decide)
theorem DirAt.ne_vw (h : DirAt w D m me told steps) (k : MemAt w M ws bs) : D.v ≠ M.bw := cells_type h.hv k.hw (by decide)
theorem DirAt.ne_vm (h : DirAt w D m me told steps) (k : MemAt w M ws bs) : D.v ≠ M.m := cells_type h.hv k.hm (by decide)
theorem DirAt.ne_vb (h : DirAt w D m me told steps) (k : MemAt w M ws bs) : D.v ≠ M.bb := cells_type h.hv k.hb (by decide)
theorem DirAt.c0 (h : DirAt w D m me told steps) : w.cell? ⟨D.d, 0, none⟩ = some (.pointer (some ⟨D.v, 0, none⟩)) := blk_cell h.hd 0
theorem DirAt.c1 (h : DirAt w D m me told steps) : w.cell? ⟨D.d, 1, none⟩ = some (.int .i64 me) := blk_cell h.hd 1
theorem DirAt.v0 (h : DirAt w D m me told steps) : w.cell? ⟨D.v, 0, none⟩ = some (.pointer (some ⟨m, 0, none⟩)) := blk_cell h.hv 0
theorem DirAt.v1 (h : DirAt w D m me told steps) : w.cell? ⟨D.v, 1, none⟩ = some (.int .i64 (steps : Int)) := blk_cell h.hv 1
theorem DirAt.step (h : DirAt w D m me told steps) (n : Nat) : DirAt (w.setCell ⟨D.v, 1, none⟩ (.int .i64 (n : Int))) D m me told n :=
  ⟨by rw [blk_set _ _ _ _ h.ne_dv, h.hd], by rw [blk_setCell h.hv]; rfl⟩
end
def DirNew (w : World) (m : Nat) (me : Int) (e : Ending) (w' : World) : Prop :=
  ∃ D : DirId, e = .returned (.pointer (some ⟨D.d, 0, none⟩)) ∧ DirAt w' D m me (.pointer none) 0 ∧ Ext [] w w' ∧ w.heap.size ≤ D.d ∧ w.heap.size ≤ D.v
set_option maxHeartbeats 400000 in
theorem pNew_any (m : Nat) (me : Int) (w : World) :
    Calls Try.prog 12 #[.pointer (some ⟨m, 0, none⟩), .int .i64 me] w (DirNew w m me) := by
  go_enter Try.func12, Try.ntmps12
  go_wp2
  go_ret
  exact ⟨⟨w.heap.size + 1, w.heap.size⟩, rfl, ⟨by simp [go_sem], by simp [go_sem]⟩, ((Ext.refl [] w).alloc _).alloc _, by simp, by simp⟩
set_option maxHeartbeats 400000 in
theorem way_any (D : DirId) (m : Nat) (me : Int) (told : Value) (steps : Nat) (w : World) (h : DirAt w D m me told steps) :
    Calls Try.prog 82 #[.pointer (some ⟨D.d, 0, none⟩)] w (Ret (.pointer (some ⟨D.v, 0, none⟩)) (Ext [] w)) := by
  have hc := h.c0
  clear h
  go_enter Try.func82, Try.ntmps82
  go_wp2
  go_ret
  exact ⟨rfl, Ext.refl _ _⟩
def PS (D : DirId) (M : MemId) (me : Int) (told : Value) (steps : Nat) (ws : List UInt64) (bs : List UInt8) (w : World) (w' : World) : Prop :=
  DirAt w' D M.m me told steps ∧ MemAt w' M ws bs ∧ Ext [D.v, M.bw] w w'
set_option maxHeartbeats 2000000 in
theorem wdo_word (D : DirId) (M : MemId) (me : Int) (told : Value) (steps : Nat) (ws : List UInt64) (bs : List UInt8) (k : Nat) (kv : Int) (n : Int) (A B : UInt64) (w : World)
    (hD : DirAt w D M.m me told steps) (hM : MemAt w M ws bs) (hkv : kv = k) (hk1 : 1 ≤ k) (hk : k ≤ 4) (hs : steps ≤ 1000000000000) :
    Calls Try.prog 171 #[.pointer (some ⟨D.v, 0, none⟩), .int .u8 kv, .int .i64 n, .int .u64 (A.toNat : Int), .int .u64 (B.toNat : Int)] w
      (Ret (.int .u64 ((wT k n A ws).toNat : Int)) (PS D M me told (steps + 1) (wS k n A B ws) bs w)) := by
  have c0 := hD.v0
  have c1 := hD.v1
  have f1 := blk_free hD.hv 1
  have n1 := hD.ne_vm hM
  have n2 := hD.ne_vw hM
  have n3 := hD.ne_vb hM
  have HD := hid hD
  have HM := hid hM
  have HK := hid (And.intro hkv (And.intro hk1 hk))
  clear hD hM hkv hk1 hk
  go_enter Try.func171, Try.ntmps171
  go_wp2_with fail
  have h1 := HD.out.step (steps + 1)
  have h2 : MemAt (w.setCell ⟨D.v, 1, none⟩ (.int .i64 ((steps + 1 : Nat) : Int))) M ws bs := HM.out.ext ((Ext.refl [D.v] w).setCell (.inl (by simp)) _) (by simpa using fun e => n1 e.symm) (by simpa using fun e => n2 e.symm) (by simpa using fun e => n3 e.symm)
  have e1 : ((steps + 1 : Nat) : Int) = (steps : Int) + 1 := by omega
  rw [e1] at h1 h2
  refine (do_word M ws bs k kv n A B _ h2 HK.out.1 HK.out.2.1 HK.out.2.2).mono ?_
  rintro e w1 ⟨rfl, h3, x3⟩
  have h4 := h1.ext x3 (by simpa using HD.out.ne_dw HM.out) (by simpa using n2)
  have x4 : Ext [D.v, M.bw] w w1 := ((Ext.refl [D.v, M.bw] w).setCell (p := ⟨D.v, 1, none⟩) (.inl (by simp)) (.int .i64 ((steps : Int) + 1))).trans' (x3.mono (by simp))
  have P := hid (And.intro h4 (And.intro h3 x4))
  clear h1 h2 h3 h4 x3 x4 e1 c0 c1 f1 n1 n2 n3
  go_wp2
  go_ret
  exact ⟨rfl, P.out⟩
set_option maxHeartbeats 1000000 in
theorem pLoad_any (D : DirId) (M : MemId) (me : Int) (told : Value) (steps : Nat) (ws : List UInt64) (bs : List UInt8) (n : Int) (w : World)
    (hD : DirAt w D M.m me told steps) (hM : MemAt w M ws bs) (hs : steps ≤ 1000000000000) :
    Calls Try.prog 168 #[.pointer (some ⟨D.d, 0, none⟩), .int .i64 n] w
      (Ret (.int .u64 ((wT 1 n 0 ws).toNat : Int)) (PS D M me told (steps + 1) (wS 1 n 0 0 ws) bs w)) := by
  have HD := hid hD
  have HM := hid hM
  clear hD hM
  go_enter Try.func168, Try.ntmps168
  go_wp2_with fail
  refine (way_any D M.m me told steps _ HD.out).mono ?_
  rintro e w1 ⟨rfl, x1⟩
  have hD1 := HD.out.ext0 x1
  have hM1 := HM.out.ext0 x1
  have X1 := hid x1
  clear x1
  have HD1 := hid hD1
  have HM1 := hid hM1
  clear hD1 hM1
  go_wp2_with fail
  refine (wdo_word D M me told steps ws bs 1 1 n 0 0 w1 HD1.out HM1.out rfl (by omega) (by omega) hs).mono ?_
  rintro e w2 ⟨rfl, hD2, hM2, x2⟩
  have P := hid (And.intro hD2 (And.intro hM2 (Ext.of0 X1.out x2)))
  clear hD2 hM2 x2
  go_wp2
  go_ret
  exact ⟨rfl, P.out⟩
set_option maxHeartbeats 1000000 in
theorem pStore_any (D : DirId) (M : MemId) (me : Int) (told : Value) (steps : Nat) (ws : List UInt64) (bs : List UInt8) (n : Int) (A : UInt64) (w : World)
    (hD : DirAt w D M.m me told steps) (hM : MemAt w M ws bs) (hs : steps ≤ 1000000000000) :
    Calls Try.prog 170 #[.pointer (some ⟨D.d, 0, none⟩), .int .i64 n, .int .u64 (A.toNat : Int)] w
      (Ret (.tuple #[]) (PS D M me told (steps + 1) (wS 2 n A 0 ws) bs w)) := by
  have HD := hid hD
  have HM := hid hM
  clear hD hM
  go_enter Try.func170, Try.ntmps170
  go_wp2_with fail
  refine (way_any D M.m me told steps _ HD.out).mono ?_
  rintro e w1 ⟨rfl, x1⟩
  have hD1 := HD.out.ext0 x1
  have hM1 := HM.out.ext0 x1
  have X1 := hid x1
  clear x1
  have HD1 := hid hD1
  have HM1 := hid hM1
  clear hD1 hM1
  go_wp2_with fail
  refine (wdo_word D M me told steps ws bs 2 2 n A 0 w1 HD1.out HM1.out rfl (by omega) (by omega) hs).mono ?_
  rintro e w2 ⟨rfl, hD2, hM2, x2⟩
  have P := hid (And.intro hD2 (And.intro hM2 (Ext.of0 X1.out x2)))
  clear hD2 hM2 x2
  go_wp2
  go_end0
  exact ⟨rfl, P.out⟩
set_option maxHeartbeats 1000000 in
theorem pAdd_any (D : DirId) (M : MemId) (me : Int) (told : Value) (steps : Nat) (ws : List UInt64) (bs : List UInt8) (n : Int) (A : UInt64) (w : World)
    (hD : DirAt w D M.m me told steps) (hM : MemAt w M ws bs) (hs : steps ≤ 1000000000000) :
    Calls Try.prog 165 #[.pointer (some ⟨D.d, 0, none⟩), .int .i64 n, .int .u64 (A.toNat : Int)] w
      (Ret (.int .u64 ((wT 4 n A ws).toNat : Int)) (PS D M me told (steps + 1) (wS 4 n A 0 ws) bs w)) := by
  have HD := hid hD
  have HM := hid hM
  clear hD hM
  go_enter Try.func165, Try.ntmps165
  go_wp2_with fail
  refine (way_any D M.m me told steps _ HD.out).mono ?_
  rintro e w1 ⟨rfl, x1⟩
  have hD1 := HD.out.ext0 x1
  have hM1 := HM.out.ext0 x1
  have X1 := hid x1
  clear x1
  have HD1 := hid hD1
  have HM1 := hid hM1
  clear hD1 hM1
  go_wp2_with fail
  refine (wdo_word D M me told steps ws bs 4 4 n A 0 w1 HD1.out HM1.out rfl (by omega) (by omega) hs).mono ?_
  rintro e w2 ⟨rfl, hD2, hM2, x2⟩
  have P := hid (And.intro hD2 (And.intro hM2 (Ext.of0 X1.out x2)))
  clear hD2 hM2 x2
  go_wp2
  go_ret
  exact ⟨rfl, P.out⟩
set_option maxHeartbeats 1000000 in
theorem pCAS_any (D : DirId) (M : MemId) (me : Int) (told : Value) (steps : Nat) (ws : List UInt64) (bs : List UInt8) (n : Int) (A : UInt64) (B : UInt64) (w : World)
    (hD : DirAt w D M.m me told steps) (hM : MemAt w M ws bs) (hs : steps ≤ 1000000000000) :
    Calls Try.prog 166 #[.pointer (some ⟨D.d, 0, none⟩), .int .i64 n, .int .u64 (A.toNat : Int), .int .u64 (B.toNat : Int)] w
      (Ret (.bool (wT 3 n A ws == 1)) (PS D M me told (steps + 1) (wS 3 n A B ws) bs w)) := by
  have HD := hid hD
  have HM := hid hM
  clear hD hM
  go_enter Try.func166, Try.ntmps166
  go_wp2_with fail
  refine (way_any D M.m me told steps _ HD.out).mono ?_
  rintro e w1 ⟨rfl, x1⟩
  have hD1 := HD.out.ext0 x1
  have hM1 := HM.out.ext0 x1
  have X1 := hid x1
  clear x1
  have HD1 := hid hD1
  have HM1 := hid hM1
  clear hD1 hM1
  go_wp2_with fail
  refine (wdo_word D M me told steps ws bs 3 3 n A B w1 HD1.out HM1.out rfl (by omega) (by omega) hs).mono ?_
  rintro e w2 ⟨rfl, hD2, hM2, x2⟩
  have P := hid (And.intro hD2 (And.intro hM2 (Ext.of0 X1.out x2)))
  clear hD2 hM2 x2
  have he : ((((wT 3 n A ws).toNat : Nat) : Int) == 1) = (wT 3 n A ws == 1) := u64_eq (wT 3 n A ws) 1
  go_wp2
  go_ret
  exact ⟨rfl, P.out⟩
set_option maxHeartbeats 400000 in
theorem pSelf_any (D : DirId) (me : Int) (w : World) (hc : w.cell? ⟨D.d, 1, none⟩ = some (.int .i64 me)) :
    Calls Try.prog 169 #[.pointer (some ⟨D.d, 0, none⟩)] w (Ret (.int .i64 me) (Ext [] w)) := by
  go_enter Try.func169, Try.ntmps169
  go_wp2
  go_ret
  exact ⟨rfl, Ext.refl _ _⟩
set_option maxHeartbeats 400000 in
theorem pSteps_any (D : DirId) (m : Nat) (me : Int) (told : Value) (steps : Nat) (w : World) (h : DirAt w D m me told steps) :
    Calls Try.prog 29 #[.pointer (some ⟨D.d, 0, none⟩)] w (Ret (.int .i64 (steps : Int)) (Ext [] w)) := by
  have H := hid h
  clear h
  go_enter Try.func29, Try.ntmps29
  go_wp2_with fail
  refine (way_any D m me told steps _ H.out).mono ?_
  rintro e w1 ⟨rfl, x1⟩
  have h1 := H.out.ext0 x1
  have hc := h1.c0
  have hc1 := h1.v1
  have X1 := hid x1
  clear x1 h1
  go_wp2
  go_ret
  exact ⟨rfl, X1.out⟩
theorem wAt_set {ws : List UInt64} {n : Int} {x : UInt64} (h : wAt ws n = some x) : ws.set n.toNat x = ws := by
  unfold wAt at h
  split at h
  · cases h
  · obtain ⟨hl, rfl⟩ := List.getElem?_eq_some_iff.1 h
    exact set_same hl
theorem load_same (n : Int) (A B : UInt64) (ws : List UInt64) : wS 1 n A B ws = ws := by
  cases hx : wAt ws n with
  | none => simp [wS, hx]
  | some x => simp [wS, hx, kNow, wAt_set hx]
theorem PS.trans {D : DirId} {M : MemId} {me : Int} {told : Value} {s s' : Nat} {ws ws' : List UInt64} {bs bs' : List UInt8} {a b c : World} (h : PS D M me told s ws bs a b) (k : PS D M me told s' ws' bs' b c) : PS D M me told s' ws' bs' a c :=
  ⟨k.1, k.2.1, h.2.2.trans' k.2.2⟩
theorem PS.ext0 {D : DirId} {M : MemId} {me : Int} {told : Value} {s : Nat} {ws : List UInt64} {bs : List UInt8} {a b c : World} (h : PS D M me told s ws bs a b) (k : Ext [] b c) : PS D M me told s ws bs a c :=
  ⟨h.1.ext0 k, h.2.1.ext0 k, h.2.2.trans0 k⟩
theorem PS.of0 {D : DirId} {M : MemId} {me : Int} {told : Value} {s : Nat} {ws : List UInt64} {bs : List UInt8} {a b c : World} (h : Ext [] a b) (k : PS D M me told s ws bs b c) : PS D M me told s ws bs a c :=
  ⟨k.1, k.2.1, Ext.of0 h k.2.2⟩
theorem PS.refl {D : DirId} {M : MemId} {me : Int} {told : Value} {s : Nat} {ws : List UInt64} {bs : List UInt8} {a : World} (h : DirAt a D M.m me told s) (k : MemAt a M ws bs) : PS D M me told s ws bs a a := ⟨h, k, Ext.refl _ _⟩
theorem meth_Load (n : Nat) (a : Addr) (w : World) : (method (n + 1) 26 (.pointer (some a)) "Load").run Try.prog w = .ok (168, .pointer (some a)) w := by kernel_rfl
theorem nila_Load (n : Nat) (a : Addr) (w : World) : (nilAhead (n + 1) 26 (.pointer (some a)) "Load").run Try.prog w = .ok (some false) w := by kernel_rfl
attribute [go_sem] meth_Load nila_Load
theorem meth_Store (n : Nat) (a : Addr) (w : World) : (method (n + 1) 26 (.pointer (some a)) "Store").run Try.prog w = .ok (170, .pointer (some a)) w := by kernel_rfl
theorem nila_Store (n : Nat) (a : Addr) (w : World) : (nilAhead (n + 1) 26 (.pointer (some a)) "Store").run Try.prog w = .ok (some false) w := by kernel_rfl
attribute [go_sem] meth_Store nila_Store
theorem meth_CAS (n : Nat) (a : Addr) (w : World) : (method (n + 1) 26 (.pointer (some a)) "CAS").run Try.prog w = .ok (166, .pointer (some a)) w := by kernel_rfl
theorem nila_CAS (n : Nat) (a : Addr) (w : World) : (nilAhead (n + 1) 26 (.pointer (some a)) "CAS").run Try.prog w = .ok (some false) w := by kernel_rfl
attribute [go_sem] meth_CAS nila_CAS
theorem meth_Add (n : Nat) (a : Addr) (w : World) : (method (n + 1) 26 (.pointer (some a)) "Add").run Try.prog w = .ok (165, .pointer (some a)) w := by kernel_rfl
theorem nila_Add (n : Nat) (a : Addr) (w : World) : (nilAhead (n + 1) 26 (.pointer (some a)) "Add").run Try.prog w = .ok (some false) w := by kernel_rfl
attribute [go_sem] meth_Add nila_Add
theorem meth_Self (n : Nat) (a : Addr) (w : World) : (method (n + 1) 26 (.pointer (some a)) "Self").run Try.prog w = .ok (169, .pointer (some a)) w := by kernel_rfl
theorem nila_Self (n : Nat) (a : Addr) (w : World) : (nilAhead (n + 1) 26 (.pointer (some a)) "Self").run Try.prog w = .ok (some false) w := by kernel_rfl
attribute [go_sem] meth_Self nila_Self
theorem meth_Steps (n : Nat) (a : Addr) (w : World) : (method (n + 1) 26 (.pointer (some a)) "Steps").run Try.prog w = .ok (29, .pointer (some a)) w := by kernel_rfl
theorem nila_Steps (n : Nat) (a : Addr) (w : World) : (nilAhead (n + 1) 26 (.pointer (some a)) "Steps").run Try.prog w = .ok (some false) w := by kernel_rfl
attribute [go_sem] meth_Steps nila_Steps
theorem run_makeFunc' (fn : Fn) (first cap : Array Value) (w : World) : (Instr.makeFunc fn first cap).run Try.prog w = .ok (.func fn first cap) w := rfl
attribute [go_sem] run_makeFunc'
end Go.Proofs.Ytjdbknnacaacaaa
namespace Go.Proofs.Ytjdbknnacaacaaa
open Go Go.RowKit
set_option linter.unusedSimpArgs false
set_option linter.unusedVariables false
def bAt (bs : List UInt8) (n : Int) : Option UInt8 := if n < 0 then none else bs[n.toNat]?
def bT (n : Int) (bs : List UInt8) : UInt8 := match bAt bs n with | none => 0 | some x => x
def bS (n : Int) (b : UInt8) (bs : List UInt8) : List UInt8 := match bAt bs n with | none => bs | some _ => bs.set n.toNat b
theorem bAt_in {bs : List UInt8} {n : Nat} (h : n < bs.length) : bAt bs n = some bs[n] := by unfold bAt; rw [if_neg (by omega)]; simp [h]
theorem bAt_neg {bs : List UInt8} {n : Int} (h : n < 0) : bAt bs n = none := if_pos h
theorem bAt_far {bs : List UInt8} {n : Int} (h : (bs.length : Int) ≤ n) : bAt bs n = none := by unfold bAt; rw [if_neg (by omega)]; simp; omega
theorem u8_wrap (A : UInt64) : IntKind.u8.wrap (A.toNat : Int) = (A.toUInt8.toNat : Int) := by
  rw [IntKind.wrap_u8]; simp
theorem u64_u8 (b : UInt8) : IntKind.u64.wrap (b.toNat : Int) = ((b.toUInt64).toNat : Int) := by
  have := b.toNat_lt
  rw [IntKind.wrap_u64]; simp; omega
set_option maxRecDepth 100000 in
set_option maxHeartbeats 2000000 in
theorem do_bneg5 (M : MemId) (ws : List UInt64) (bs : List UInt8) (n : Int) (A B : UInt64) (w : World) (h : MemAt w M ws bs) (hn : n < 0) :
    Calls Try.prog 79 #[.pointer (some ⟨M.m, 0, none⟩), accV 5 n A B] w (Ret (.tuple #[.int .u64 0, .bool false]) (Ext [] w)) := by
  have hE := Ext.refl []
  have hl := h.wl
  have hl' := h.bl
  have n1 : (decide (n < 0)) = true := by simpa using hn
  unfold accV
  go_enter Try.func79, Try.ntmps79
  go_wp2_with fail
  have L0 := blk_lt h.hm
  refine wp_region_lit_lin [] [0,1,2,3,4,5,6,7,8,9] (Ext [] _) (Ext []) Try.mix (by kernel_rfl) (Ext.refl []) (fun _ _ _ => Ext.trans') (fun _ _ => Ext.trans') ((Ext.refl _ _).drew) (fun X _ f hf => ?_)
  have g3 : ∀ x i, (f x).cell? ⟨w.heap.size, i, none⟩ = (#[.int .u8 5, .int .i64 n, .int .u64 (A.toNat : Int), .int .u64 (B.toNat : Int)] : Array Value)[i]? := fun x i => blk_cell ((hf x).blk (blk_new _ _) (by simp)) i
  have HM : ∀ x, MemAt (f x) M ws bs := fun x => (h.alloc _).ext0 (hf x)
  have HM' := hid HM
  clear HM hf
  repeat (refine lexX_step rfl rfl (fun K hK => ?_); go_simp; (try go_bits); (try (simp only [↓IntWalk.iteOmega]; go_simp)); (refine hK _ ?_; clear hK K))
  clear g3 HM'
  refine lexX_nil (fun w1 hw1 => ?_)
  have HX := hid (((Ext.refl [] w).alloc (.cells #[.int .u8 5, .int .i64 n, .int .u64 (A.toNat : Int), .int .u64 (B.toNat : Int)] 120)).trans' hw1.of_drew)
  clear hw1
  go_wp2
  go_ret2
  exact ⟨rfl, HX.out⟩
set_option maxRecDepth 100000 in
set_option maxHeartbeats 2000000 in
theorem do_bfar5 (M : MemId) (ws : List UInt64) (bs : List UInt8) (n : Int) (A B : UInt64) (w : World) (h : MemAt w M ws bs) (hn : (bs.length : Int) ≤ n) :
    Calls Try.prog 79 #[.pointer (some ⟨M.m, 0, none⟩), accV 5 n A B] w (Ret (.tuple #[.int .u64 0, .bool false]) (Ext [] w)) := by
  have hE := Ext.refl []
  have hl := h.wl
  have hl' := h.bl
  have n1 : (decide (n < 0)) = false := by simp; omega
  have n2 : (decide ((bs.length : Int) ≤ n)) = true := by simpa using hn
  unfold accV
  go_enter Try.func79, Try.ntmps79
  go_wp2_with fail
  have L0 := blk_lt h.hm
  refine wp_region_lit_lin [] [0,1,2,3,4,5,6,7,8,9] (Ext [] _) (Ext []) Try.mix (by kernel_rfl) (Ext.refl []) (fun _ _ _ => Ext.trans') (fun _ _ => Ext.trans') ((Ext.refl _ _).drew) (fun X _ f hf => ?_)
  have g3 : ∀ x i, (f x).cell? ⟨w.heap.size, i, none⟩ = (#[.int .u8 5, .int .i64 n, .int .u64 (A.toNat : Int), .int .u64 (B.toNat : Int)] : Array Value)[i]? := fun x i => blk_cell ((hf x).blk (blk_new _ _) (by simp)) i
  have HM : ∀ x, MemAt (f x) M ws bs := fun x => (h.alloc _).ext0 (hf x)
  have HM' := hid HM
  clear HM hf
  repeat (refine lexX_step rfl rfl (fun K hK => ?_); go_simp; (try go_bits); (try (simp only [↓IntWalk.iteOmega]; go_simp)); (refine hK _ ?_; clear hK K))
  refine lexX_step rfl rfl (fun K hK => ?_); go_simp; refine ⟨_, fun x => ret_of (mBytes_any M ws bs (f x) (HM'.out x)), hK _ ?_⟩; clear hK K
  repeat (refine lexX_step rfl rfl (fun K hK => ?_); go_simp; (try go_bits); (try (simp only [↓IntWalk.iteOmega]; go_simp)); (refine hK _ ?_; clear hK K))
  clear g3 HM'
  refine lexX_nil (fun w1 hw1 => ?_)
  have HX := hid (((Ext.refl [] w).alloc (.cells #[.int .u8 5, .int .i64 n, .int .u64 (A.toNat : Int), .int .u64 (B.toNat : Int)] 120)).trans' hw1.of_drew)
  clear hw1
  go_wp2
  go_ret2
  exact ⟨rfl, HX.out⟩
set_option maxRecDepth 100000 in
set_option maxHeartbeats 2000000 in
theorem do_get (M : MemId) (ws : List UInt64) (bs : List UInt8) (n : Nat) (A B : UInt64) (w : World) (h : MemAt w M ws bs) (hn : n < bs.length) :
    Calls Try.prog 79 #[.pointer (some ⟨M.m, 0, none⟩), accV 5 n A B] w (fun e w' => e = .returned (.tuple #[.int .u64 (bs[n].toUInt64.toNat : Int), .bool true]) ∧ MemAt w' M ws (bs) ∧ Ext [] w w') := by
  have hE := Ext.refl []
  have hl := h.wl
  have hl' := h.bl
  have n1 : (decide ((n : Int) < 0)) = false := by simp
  have n2 : (decide ((bs.length : Int) ≤ (n : Int))) = false := by simp; omega
  unfold accV
  go_enter Try.func79, Try.ntmps79
  go_wp2_with fail
  have L0 := blk_lt h.hm
  have L1 := blk_lt h.hb
  refine wp_region_lit_lin [] [0,1,2,3,4,5,6,7,8,9] (Ext [] _) (Ext []) Try.mix (by kernel_rfl) (Ext.refl []) (fun _ _ _ => Ext.trans') (fun _ _ => Ext.trans') ((Ext.refl _ _).drew) (fun X _ f hf => ?_)
  have g3 : ∀ x i, (f x).cell? ⟨w.heap.size, i, none⟩ = (#[.int .u8 5, .int .i64 n, .int .u64 (A.toNat : Int), .int .u64 (B.toNat : Int)] : Array Value)[i]? := fun x i => blk_cell ((hf x).blk (blk_new _ _) (by simp)) i
  have HM : ∀ x, MemAt (f x) M ws bs := fun x => (h.alloc _).ext0 (hf x)
  have HM' := hid HM
  clear HM hf
  repeat (refine lexX_step rfl rfl (fun K hK => ?_); go_simp; (try go_bits); (try (simp only [↓IntWalk.iteOmega]; go_simp)); (refine hK _ ?_; clear hK K))
  refine lexX_step rfl rfl (fun K hK => ?_); go_simp; refine ⟨_, fun x => ret_of (mBytes_any M ws bs (f x) (HM'.out x)), hK _ ?_⟩; clear hK K
  repeat (refine lexX_step rfl rfl (fun K hK => ?_); go_simp; (try go_bits); (try (simp only [↓IntWalk.iteOmega]; go_simp)); (refine hK _ ?_; clear hK K))
  clear g3 HM'
  refine lexX_nil (fun w1 hw1 => ?_)
  have hx := ((Ext.refl [] w).alloc (.cells #[.int .u8 5, .int .i64 n, .int .u64 (A.toNat : Int), .int .u64 (B.toNat : Int)] 120)).trans' hw1.of_drew
  have g1 : blk w1 w.heap.size = some (.cells #[.int .u8 5, .int .i64 n, .int .u64 (A.toNat : Int), .int .u64 (B.toNat : Int)] 120 (0, 0)) := hw1.of_drew.blk (blk_new _ _) (by simp)
  have h1 := h.ext0 hx
  have hc1 := h1.c1
  have hcb := h1.cb hn
  have hfr := blk_free h1.hb n
  have L2 : M.bb ≠ w.heap.size := by omega
  have hk0 : w1.cell? ⟨w.heap.size, 0, none⟩ = some (.int .u8 5) := blk_cell g1 0
  have G1 := hid g1
  have HX := hid hx
  have H1 := hid h1
  have hu := u8_wrap A
  clear hx hw1 g1 h1
  go_wp2_with fail
  refine wp_region_lit_lin [] [0,1,2,3,4,5,6,7,8,9,10] (Ext [] _) (Ext []) Try.mix (by kernel_rfl) (Ext.refl []) (fun _ _ _ => Ext.trans') (fun _ _ h k => h.trans0 k) ((Ext.refl _ _).drew) (fun X _ f hf => ?_)
  have g3 : ∀ x i, (f x).cell? ⟨w.heap.size, i, none⟩ = (#[.int .u8 5, .int .i64 n, .int .u64 (A.toNat : Int), .int .u64 (B.toNat : Int)] : Array Value)[i]? := fun x i => blk_cell ((hf x).blk G1.out (by simp)) i
  have g0 : ∀ x, (f x).cell? ⟨M.m, 1, none⟩ = some (.slice (some ⟨M.bb, 0, none⟩) bs.length (bs.length + M.pb.size)) := fun x => (hf x).cell' hc1 (by simp)
  have gw : ∀ x, (f x).cell? ⟨M.bb, n, none⟩ = some (.int .u8 (bs[n].toNat : Int)) := fun x => (hf x).cell' hcb (by simp)
  have hu2 := u64_u8 bs[n]
  clear hf hu
  repeat (refine lexX_step rfl rfl (fun K hK => ?_); go_simp; (try go_bits); (try (simp only [↓IntWalk.iteOmega]; go_simp)); (refine hK _ ?_; clear hK K))
  refine lexX_nil (fun w2 hw2 => ?_)
  have x2 := HX.out.trans' hw2.of_drew
  have h2 := H1.out.ext0 hw2.of_drew
  clear hw2 g3 g0 gw H1 HX hc1 hcb hfr G1 hu2
  have HX := hid x2
  have H2 := hid h2
  clear x2 h2
  go_wp2
  go_ret2
  exact ⟨rfl, H2.out, HX.out⟩
set_option maxRecDepth 100000 in
set_option maxHeartbeats 2000000 in
theorem do_bneg6 (M : MemId) (ws : List UInt64) (bs : List UInt8) (n : Int) (A B : UInt64) (w : World) (h : MemAt w M ws bs) (hn : n < 0) :
    Calls Try.prog 79 #[.pointer (some ⟨M.m, 0, none⟩), accV 6 n A B] w (Ret (.tuple #[.int .u64 0, .bool false]) (Ext [] w)) := by
  have hE := Ext.refl []
  have hl := h.wl
  have hl' := h.bl
  have n1 : (decide (n < 0)) = true := by simpa using hn
  unfold accV
  go_enter Try.func79, Try.ntmps79
  go_wp2_with fail
  have L0 := blk_lt h.hm
  refine wp_region_lit_lin [] [0,1,2,3,4,5,6,7,8,9] (Ext [] _) (Ext []) Try.mix (by kernel_rfl) (Ext.refl []) (fun _ _ _ => Ext.trans') (fun _ _ => Ext.trans') ((Ext.refl _ _).drew) (fun X _ f hf => ?_)
  have g3 : ∀ x i, (f x).cell? ⟨w.heap.size, i, none⟩ = (#[.int .u8 6, .int .i64 n, .int .u64 (A.toNat : Int), .int .u64 (B.toNat : Int)] : Array Value)[i]? := fun x i => blk_cell ((hf x).blk (blk_new _ _) (by simp)) i
  have HM : ∀ x, MemAt (f x) M ws bs := fun x => (h.alloc _).ext0 (hf x)
  have HM' := hid HM
  clear HM hf
  repeat (refine lexX_step rfl rfl (fun K hK => ?_); go_simp; (try go_bits); (try (simp only [↓IntWalk.iteOmega]; go_simp)); (refine hK _ ?_; clear hK K))
  clear g3 HM'
  refine lexX_nil (fun w1 hw1 => ?_)
  have HX := hid (((Ext.refl [] w).alloc (.cells #[.int .u8 6, .int .i64 n, .int .u64 (A.toNat : Int), .int .u64 (B.toNat : Int)] 120)).trans' hw1.of_drew)
  clear hw1
  go_wp2
  go_ret2
  exact ⟨rfl, HX.out⟩
set_option maxRecDepth 100000 in
set_option maxHeartbeats 2000000 in
theorem do_bfar6 (M : MemId) (ws : List UInt64) (bs : List UInt8) (n : Int) (A B : UInt64) (w : World) (h : MemAt w M ws bs) (hn : (bs.length : Int) ≤ n) :
    Calls Try.prog 79 #[.pointer (some ⟨M.m, 0, none⟩), accV 6 n A B] w (Ret (.tuple #[.int .u64 0, .bool false]) (Ext [] w)) := by
  have hE := Ext.refl []
  have hl := h.wl
  have hl' := h.bl
  have n1 : (decide (n < 0)) = false := by simp; omega
  have n2 : (decide ((bs.length : Int) ≤ n)) = true := by simpa using hn
  unfold accV
  go_enter Try.func79, Try.ntmps79
  go_wp2_with fail
  have L0 := blk_lt h.hm
  refine wp_region_lit_lin [] [0,1,2,3,4,5,6,7,8,9] (Ext [] _) (Ext []) Try.mix (by kernel_rfl) (Ext.refl []) (fun _ _ _ => Ext.trans') (fun _ _ => Ext.trans') ((Ext.refl _ _).drew) (fun X _ f hf => ?_)
  have g3 : ∀ x i, (f x).cell? ⟨w.heap.size, i, none⟩ = (#[.int .u8 6, .int .i64 n, .int .u64 (A.toNat : Int), .int .u64 (B.toNat : Int)] : Array Value)[i]? := fun x i => blk_cell ((hf x).blk (blk_new _ _) (by simp)) i
  have HM : ∀ x, MemAt (f x) M ws bs := fun x => (h.alloc _).ext0 (hf x)
  have HM' := hid HM
  clear HM hf
  repeat (refine lexX_step rfl rfl (fun K hK => ?_); go_simp; (try go_bits); (try (simp only [↓IntWalk.iteOmega]; go_simp)); (refine hK _ ?_; clear hK K))
  refine lexX_step rfl rfl (fun K hK => ?_); go_simp; refine ⟨_, fun x => ret_of (mBytes_any M ws bs (f x) (HM'.out x)), hK _ ?_⟩; clear hK K
  repeat (refine lexX_step rfl rfl (fun K hK => ?_); go_simp; (try go_bits); (try (simp only [↓IntWalk.iteOmega]; go_simp)); (refine hK _ ?_; clear hK K))
  clear g3 HM'
  refine lexX_nil (fun w1 hw1 => ?_)
  have HX := hid (((Ext.refl [] w).alloc (.cells #[.int .u8 6, .int .i64 n, .int .u64 (A.toNat : Int), .int .u64 (B.toNat : Int)] 120)).trans' hw1.of_drew)
  clear hw1
  go_wp2
  go_ret2
  exact ⟨rfl, HX.out⟩
set_option maxRecDepth 100000 in
set_option maxHeartbeats 2000000 in
theorem do_put (M : MemId) (ws : List UInt64) (bs : List UInt8) (n : Nat) (A B : UInt64) (w : World) (h : MemAt w M ws bs) (hn : n < bs.length) :
    Calls Try.prog 79 #[.pointer (some ⟨M.m, 0, none⟩), accV 6 n A B] w (fun e w' => e = .returned (.tuple #[.int .u64 0, .bool true]) ∧ MemAt w' M ws (bs.set n A.toUInt8) ∧ Ext [M.bb] w w') := by
  have hE := Ext.refl []
  have hl := h.wl
  have hl' := h.bl
  have n1 : (decide ((n : Int) < 0)) = false := by simp
  have n2 : (decide ((bs.length : Int) ≤ (n : Int))) = false := by simp; omega
  unfold accV
  go_enter Try.func79, Try.ntmps79
  go_wp2_with fail
  have L0 := blk_lt h.hm
  have L1 := blk_lt h.hb
  refine wp_region_lit_lin [] [0,1,2,3,4,5,6,7,8,9] (Ext [] _) (Ext []) Try.mix (by kernel_rfl) (Ext.refl []) (fun _ _ _ => Ext.trans') (fun _ _ => Ext.trans') ((Ext.refl _ _).drew) (fun X _ f hf => ?_)
  have g3 : ∀ x i, (f x).cell? ⟨w.heap.size, i, none⟩ = (#[.int .u8 6, .int .i64 n, .int .u64 (A.toNat : Int), .int .u64 (B.toNat : Int)] : Array Value)[i]? := fun x i => blk_cell ((hf x).blk (blk_new _ _) (by simp)) i
  have HM : ∀ x, MemAt (f x) M ws bs := fun x => (h.alloc _).ext0 (hf x)
  have HM' := hid HM
  clear HM hf
  repeat (refine lexX_step rfl rfl (fun K hK => ?_); go_simp; (try go_bits); (try (simp only [↓IntWalk.iteOmega]; go_simp)); (refine hK _ ?_; clear hK K))
  refine lexX_step rfl rfl (fun K hK => ?_); go_simp; refine ⟨_, fun x => ret_of (mBytes_any M ws bs (f x) (HM'.out x)), hK _ ?_⟩; clear hK K
  repeat (refine lexX_step rfl rfl (fun K hK => ?_); go_simp; (try go_bits); (try (simp only [↓IntWalk.iteOmega]; go_simp)); (refine hK _ ?_; clear hK K))
  clear g3 HM'
  refine lexX_nil (fun w1 hw1 => ?_)
  have hx := ((Ext.refl [] w).alloc (.cells #[.int .u8 6, .int .i64 n, .int .u64 (A.toNat : Int), .int .u64 (B.toNat : Int)] 120)).trans' hw1.of_drew
  have g1 : blk w1 w.heap.size = some (.cells #[.int .u8 6, .int .i64 n, .int .u64 (A.toNat : Int), .int .u64 (B.toNat : Int)] 120 (0, 0)) := hw1.of_drew.blk (blk_new _ _) (by simp)
  have h1 := h.ext0 hx
  have hc1 := h1.c1
  have hcb := h1.cb hn
  have hfr := blk_free h1.hb n
  have L2 : M.bb ≠ w.heap.size := by omega
  have hk0 : w1.cell? ⟨w.heap.size, 0, none⟩ = some (.int .u8 6) := blk_cell g1 0
  have G1 := hid g1
  have HX := hid hx
  have H1 := hid h1
  have hu := u8_wrap A
  clear hx hw1 g1 h1
  go_wp2_with fail
  refine wp_region_lit_lin [10] [0,1,2,3,4,5,6,7,8,9,10] (Ext [M.bb] _) (Ext []) Try.mix (by kernel_rfl) (Ext.refl []) (fun _ _ _ => Ext.trans') (fun _ _ h k => h.trans0 k) ((Ext.refl _ _).drew) (fun X _ f hf => ?_)
  have g3 : ∀ x i, (f x).cell? ⟨w.heap.size, i, none⟩ = (#[.int .u8 6, .int .i64 n, .int .u64 (A.toNat : Int), .int .u64 (B.toNat : Int)] : Array Value)[i]? := fun x i => blk_cell ((hf x).blk G1.out (by simpa using L2.symm)) i
  have g0 : ∀ x, (f x).cell? ⟨M.m, 1, none⟩ = some (.slice (some ⟨M.bb, 0, none⟩) bs.length (bs.length + M.pb.size)) := fun x => (hf x).cell' hc1 (by simpa using H1.out.ne_mb)
  clear hf
  repeat (refine lexX_step rfl rfl (fun K hK => ?_); go_simp; (try go_bits); (try (simp only [↓IntWalk.iteOmega]; go_simp)); (refine hK _ ?_; clear hK K))
  refine lexX_effp rfl rfl rfl (fun w3 hw3 K hK => ?_)
  have h3 := H1.out.ext0 hw3.of_drew
  have q1 := h3.cb hn
  have q2 := blk_free h3.hb n
  go_simp
  refine ⟨(hw3.of_drew.mono (Y := [M.bb]) (by simp)).setCell (.inl (by simp)) _, hK _ _ ?_⟩
  clear hK K
  refine lexX_nil (fun w4 hw4 => ?_)
  have h4 := (h3.setB n A.toUInt8 hn).ext0 hw4
  have x4 := (((HX.out.mono (Y := [M.bb]) (by simp)).trans0 hw3.of_drew).setCell (p := ⟨M.bb, n, none⟩) (.inl (by simp)) (.int .u8 (A.toUInt8.toNat : Int))).trans0 hw4
  clear hw4 h3 q1 q2 hw3 g3 g0 HX H1 hc1 hcb hfr G1 hu
  have HX := hid x4
  have H4 := hid h4
  clear x4 h4
  go_wp2
  go_ret2
  exact ⟨rfl, H4.out, HX.out⟩
theorem do_get5 (M : MemId) (ws : List UInt64) (bs : List UInt8) (n : Int) (A B : UInt64) (w : World) (h : MemAt w M ws bs) :
    Calls Try.prog 79 #[.pointer (some ⟨M.m, 0, none⟩), accV 5 n A B] w (fun e w' => e = .returned (.tuple #[.int .u64 ((bT n bs).toNat : Int), .bool (bAt bs n).isSome]) ∧ MemAt w' M ws bs ∧ Ext [] w w') := by
  by_cases h0 : n < 0
  · refine (do_bneg5 M ws bs n A B w h h0).mono fun e w' ⟨he, hx⟩ => ⟨?_, h.ext0 hx, hx⟩
    simp only [bT, bAt_neg h0]; exact he
  by_cases h1 : (bs.length : Int) ≤ n
  · refine (do_bfar5 M ws bs n A B w h h1).mono fun e w' ⟨he, hx⟩ => ⟨?_, h.ext0 hx, hx⟩
    simp only [bT, bAt_far h1]; exact he
  · obtain ⟨m, rfl⟩ := Int.eq_ofNat_of_zero_le (show 0 ≤ n by omega)
    have hm : m < bs.length := by omega
    refine (do_get M ws bs m A B w h hm).mono fun e w' ⟨he, h2, hx⟩ => ⟨?_, h2, hx⟩
    have e1 := bAt_in hm
    simp only [bT, e1]
    rw [he]; simp
theorem do_put6 (M : MemId) (ws : List UInt64) (bs : List UInt8) (n : Int) (A B : UInt64) (w : World) (h : MemAt w M ws bs) :
    Calls Try.prog 79 #[.pointer (some ⟨M.m, 0, none⟩), accV 6 n A B] w (fun e w' => e = .returned (.tuple #[.int .u64 0, .bool (bAt bs n).isSome]) ∧ MemAt w' M ws (bS n A.toUInt8 bs) ∧ Ext [M.bb] w w') := by
  by_cases h0 : n < 0
  · refine (do_bneg6 M ws bs n A B w h h0).mono fun e w' ⟨he, hx⟩ => ⟨?_, ?_, hx.mono (by simp)⟩
    · simp only [bAt_neg h0]; exact he
    · simp only [bS, bAt_neg h0]; exact h.ext0 hx
  by_cases h1 : (bs.length : Int) ≤ n
  · refine (do_bfar6 M ws bs n A B w h h1).mono fun e w' ⟨he, hx⟩ => ⟨?_, ?_, hx.mono (by simp)⟩
    · simp only [bAt_far h1]; exact he
    · simp only [bS, bAt_far h1]; exact h.ext0 hx
  · obtain ⟨m, rfl⟩ := Int.eq_ofNat_of_zero_le (show 0 ≤ n by omega)
    have hm : m < bs.length := by omega
    have e1 := bAt_in hm
    refine (do_put M ws bs m A B w h hm).mono fun e w' ⟨he, h2, hx⟩ => ⟨?_, ?_, hx⟩
    · rw [e1]; exact he
    · simp only [bS, e1, Int.toNat_natCast]; exact h2
end Go.Proofs.Ytjdbknnacaacaaa
namespace Go.Proofs.Ytjdbknnacaacaaa
open Go Go.RowKit
set_option linter.unusedSimpArgs false
set_option linter.unusedVariables false
theorem DirAt.c2 {w : World} {D : DirId} {m : Nat} {me : Int} {told : Value} {steps : Nat} (h : DirAt w D m me told steps) : w.cell? ⟨D.d, 2, none⟩ = some told := blk_cell h.hd 2
theorem DirAt.tell {w : World} {D : DirId} {m : Nat} {me : Int} {told : Value} {steps : Nat} (h : DirAt w D m me told steps) (v : Value) : DirAt (w.setCell ⟨D.d, 2, none⟩ v) D m me v steps :=
  ⟨by rw [blk_setCell h.hd]; rfl, by rw [blk_set _ _ _ _ h.ne_dv.symm, h.hv]⟩
end Go.Proofs.Ytjdbknnacaacaaa
namespace Go.Proofs.Ytjdbknnacaacaaa
open Go Go.RowKit
set_option linter.unusedSimpArgs false
set_option linter.unusedVariables false
def isq : Nat → Nat
  | 0 => 0
  | n + 1 => if (isq n + 1) * (isq n + 1) ≤ n + 1 then isq n + 1 else isq n
theorem isq_spec : ∀ n, isq n * isq n ≤ n ∧ n < (isq n + 1) * (isq n + 1)
  | 0 => by simp [isq]
  | n + 1 => by
    obtain ⟨h1, h2⟩ := isq_spec n
    unfold isq
    split
    · rename_i h
      refine ⟨h, ?_⟩
      have : (isq n + 1 + 1) * (isq n + 1 + 1) = (isq n + 1) * (isq n + 1) + 2 * (isq n + 1) + 1 := by
        simp only [Nat.add_mul, Nat.mul_add]; omega
      omega
    · omega
def code (a b : Nat) : Nat := (a + b) * (a + b) + a
theorem isq_code (a b : Nat) : isq (code a b) = a + b := by
  obtain ⟨h1, h2⟩ := isq_spec (code a b)
  have hc : code a b < (a + b + 1) * (a + b + 1) := by
    unfold code
    have : (a + b + 1) * (a + b + 1) = (a + b) * (a + b) + 2 * (a + b) + 1 := by simp only [Nat.add_mul, Nat.mul_add]; omega
    omega
  have hd : (a + b) * (a + b) ≤ code a b := by unfold code; omega
  rcases Nat.lt_trichotomy (isq (code a b)) (a + b) with h | h | h
  · have := Nat.mul_le_mul (show isq (code a b) + 1 ≤ a + b by omega) (show isq (code a b) + 1 ≤ a + b by omega)
    omega
  · exact h
  · have := Nat.mul_le_mul (show a + b + 1 ≤ isq (code a b) by omega) (show a + b + 1 ≤ isq (code a b) by omega)
    omega
def aux (s : Nat) (i : Nat) : Nat := if i = 1 then s - isq s * isq s else isq s - (s - isq s * isq s)
theorem aux_1 (a b : Nat) : aux (code a b) 1 = a := by
  unfold aux
  rw [if_pos rfl, isq_code]
  unfold code; omega
theorem aux_2 (a b : Nat) : aux (code a b) 2 = b := by
  unfold aux
  rw [if_neg (by decide), isq_code]
  unfold code; omega
inductive Ob where
  | mem (ws : List UInt64) (bs : List UInt8)
  | port (m : Nat) (me : Int) (steps : Nat)
abbrev St := List Ob
def hndV (k : Nat) : Value := .pointer (some ⟨VB + k, 0, none⟩)
def prtV (k : Nat) : Value := .iface 26 (hndV k)
def obBlk (F : Emb) (k : Nat) : Ob → List Nat
  | .mem _ _ => [F.blk (VB + k), aux (F.slack (VB + k)) 1, aux (F.slack (VB + k)) 2]
  | .port _ _ _ => [F.blk (VB + k), aux (F.slack (VB + k)) 1]
def obAt (F : Emb) (S : St) (w : World) (k : Nat) : Ob → Prop
  | .mem ws bs => ∃ pw pb, MemAt w ⟨F.blk (VB + k), aux (F.slack (VB + k)) 1, aux (F.slack (VB + k)) 2, pw, pb⟩ ws bs
  | .port m me steps => (∃ td, DirAt w ⟨F.blk (VB + k), aux (F.slack (VB + k)) 1⟩ (F.blk (VB + m)) me td steps) ∧ ∃ ws bs, S[m]? = some (Ob.mem ws bs)
structure Rep (F : Emb) (S : St) (w : World) : Prop where
  base : ∀ k ob, S[k]? = some ob → F.base (VB + k) = 0
  at' : ∀ k ob, S[k]? = some ob → obAt F S w k ob
  apart : ∀ k k' ob ob', k ≠ k' → S[k]? = some ob → S[k']? = some ob' → ∀ b ∈ obBlk F k ob, b ∉ obBlk F k' ob'
def fpS (F : Emb) (S : St) (b : Nat) : Prop := ∃ k ob, S[k]? = some ob ∧ b ∈ obBlk F k ob
theorem obAt_block {F : Emb} {S : St} {w : World} {k : Nat} {ob : Ob} (h : obAt F S w k ob) : ∀ b ∈ obBlk F k ob, ∃ o, blk w b = some o := by
  intro b hb
  cases ob with
  | mem ws bs =>
    obtain ⟨pw, pb, h⟩ := h
    simp only [obBlk, List.mem_cons, List.not_mem_nil, or_false] at hb
    rcases hb with rfl | rfl | rfl
    · exact ⟨_, h.hm⟩
    · exact ⟨_, h.hw⟩
    · exact ⟨_, h.hb⟩
  | port m me steps =>
    obtain ⟨⟨td, h⟩, _⟩ := h
    simp only [obBlk, List.mem_cons, List.not_mem_nil, or_false] at hb
    rcases hb with rfl | rfl
    · exact ⟨_, h.hd⟩
    · exact ⟨_, h.hv⟩
theorem obAt_kept {F : Emb} {S : St} {w w' : World} {k : Nat} {ob : Ob} (h : obAt F S w k ob) (hk : ∀ b ∈ obBlk F k ob, w'.heap[b]? = w.heap[b]?) : obAt F S w' k ob := by
  cases ob with
  | mem ws bs =>
    obtain ⟨pw, pb, h⟩ := h
    exact ⟨pw, pb, ⟨(hk _ (by simp [obBlk])).trans h.hm, (hk _ (by simp [obBlk])).trans h.hw, (hk _ (by simp [obBlk])).trans h.hb, h.wl, h.bl⟩⟩
  | port m me steps =>
    obtain ⟨⟨td, h⟩, h2⟩ := h
    exact ⟨⟨td, (hk _ (by simp [obBlk])).trans h.hd, (hk _ (by simp [obBlk])).trans h.hv⟩, h2⟩
theorem Same.ob {F F' : Emb} {S : St} (hs : Same (fun n => VB ≤ n ∧ n < VB + S.length) F F') {k : Nat} {ob : Ob} (hk : S[k]? = some ob) : F.blk (VB + k) = F'.blk (VB + k) ∧ F.base (VB + k) = F'.base (VB + k) ∧ F.slack (VB + k) = F'.slack (VB + k) := by
  have := (List.getElem?_eq_some_iff.1 hk).1
  exact hs (VB + k) ⟨by omega, by omega⟩
theorem obBlk_same {F F' : Emb} {S : St} (hs : Same (fun n => VB ≤ n ∧ n < VB + S.length) F F') {k : Nat} {ob : Ob} (hk : S[k]? = some ob) : obBlk F' k ob = obBlk F k ob := by
  obtain ⟨h1, h2, h3⟩ := hs.ob hk
  cases ob <;> simp [obBlk, h1, h3]
theorem obAt_same {F F' : Emb} {S : St} {w : World} (hs : Same (fun n => VB ≤ n ∧ n < VB + S.length) F F') {k : Nat} {ob : Ob} (hk : S[k]? = some ob) (h : obAt F S w k ob) : obAt F' S w k ob := by
  obtain ⟨h1, h2, h3⟩ := hs.ob hk
  cases ob with
  | mem ws bs => unfold obAt at h ⊢; rw [← h1, ← h3]; exact h
  | port m me steps =>
    obtain ⟨hd, ws, bs, hm⟩ := h
    obtain ⟨k1, _, _⟩ := hs.ob hm
    show (∃ td, DirAt w ⟨F'.blk (VB + k), aux (F'.slack (VB + k)) 1⟩ (F'.blk (VB + m)) me td steps) ∧ _
    rw [← h1, ← h3, ← k1]
    exact ⟨hd, ws, bs, hm⟩
theorem Rep.same {F F' : Emb} {S : St} {w : World} (hs : Same (fun n => VB ≤ n ∧ n < VB + S.length) F F') (h : Rep F S w) : Rep F' S w ∧ ∀ b, fpS F' S b → fpS F S b :=
  ⟨⟨fun k ob hk => by rw [← (hs.ob hk).2.1]; exact h.base k ob hk, fun k ob hk => obAt_same hs hk (h.at' k ob hk), fun k k' ob ob' hne hk hk' b hb => by
    rw [obBlk_same hs hk] at hb; rw [obBlk_same hs hk']; exact h.apart k k' ob ob' hne hk hk' b hb⟩, fun b ⟨k, ob, hk, hb⟩ => ⟨k, ob, hk, by rw [obBlk_same hs hk] at hb; exact hb⟩⟩
theorem Rep.turn {F : Emb} {S S' : St} {w w' : World} {X : List Nat} {T : List Nat} (h : Rep F S w) (hx : Ext X w w') (hlen : S'.length = S.length) (hX : ∀ x ∈ X, ∃ k ∈ T, ∃ ob, S[k]? = some ob ∧ x ∈ obBlk F k ob)
    (hold : ∀ k, k ∉ T → S'[k]? = S[k]?) (hblk : ∀ k ob ob', S[k]? = some ob → S'[k]? = some ob' → obBlk F k ob' = obBlk F k ob) (hmem : ∀ k : Nat, (∃ ws bs, S[k]? = some (Ob.mem ws bs)) → ∃ ws bs, S'[k]? = some (Ob.mem ws bs)) (hnew : ∀ k ∈ T, ∀ ob, S'[k]? = some ob → obAt F S' w' k ob) :
    Rep F S' w' ∧ Kept w (fpS F S) w' ∧ ∀ b, fpS F S' b → fpS F S b := by
  have hob : ∀ k ob', S'[k]? = some ob' → ∃ ob, S[k]? = some ob := fun k ob' hk => by
    have := (List.getElem?_eq_some_iff.1 hk).1
    exact ⟨_, List.getElem?_eq_getElem (by omega)⟩
  refine ⟨⟨fun k ob' hk => ?_, fun k ob' hk => ?_, fun k k' ob1 ob2 hne hk hk' b hb => ?_⟩, ⟨hx.os, hx.tape, hx.output, hx.size, fun b hb hn => hx.block b hb (fun hbx => ?_)⟩, fun b ⟨k, ob', hk, hb⟩ => ?_⟩
  · obtain ⟨ob, ho⟩ := hob k ob' hk
    exact h.base k ob ho
  · by_cases hT : k ∈ T
    · exact hnew k hT ob' hk
    · rw [hold k hT] at hk
      have h1 := obAt_kept (w' := w') (h.at' k ob' hk) (fun b hb => by
        obtain ⟨o, ho⟩ := obAt_block (h.at' k ob' hk) b hb
        refine hx.block b (blk_lt ho) (fun hbx => ?_)
        obtain ⟨k', hk', ob, ho', hb'⟩ := hX b hbx
        exact h.apart k k' ob' ob (by rintro rfl; exact hT hk') hk ho' b hb hb')
      cases ob' with
      | mem ws bs => exact h1
      | port m me steps => exact ⟨h1.1, hmem m h1.2⟩
  · obtain ⟨o1, h1⟩ := hob k ob1 hk
    obtain ⟨o2, h2⟩ := hob k' ob2 hk'
    rw [hblk k o1 ob1 h1 hk] at hb
    rw [hblk k' o2 ob2 h2 hk']
    exact h.apart k k' o1 o2 hne h1 h2 b hb
  · obtain ⟨k, _, ob, ho, hb'⟩ := hX b hbx
    exact hn ⟨k, ob, ho, hb'⟩
  · obtain ⟨ob, ho⟩ := hob k ob' hk
    exact ⟨k, ob, ho, by rw [hblk k ob ob' ho hk] at hb; exact hb⟩
def Emb.more (F : Emb) (n b0 b1 b2 : Nat) : Emb := ⟨fun m => if m = n then b0 else F.blk m, fun m => if m = n then 0 else F.base m, fun m => if m = n then code b1 b2 else F.slack m⟩
theorem Rep.more {F : Emb} {S : St} {w w' : World} {ob : Ob} {b0 b1 b2 : Nat} (h : Rep F S w) (hx : Ext [] w w') (h0 : w.heap.size ≤ b0) (h1 : w.heap.size ≤ b1) (h2 : (∃ ws bs, ob = Ob.mem ws bs) → w.heap.size ≤ b2) (hnew : obAt (F.more (VB + S.length) b0 b1 b2) (S ++ [ob]) w' S.length ob) :
    Same (fun n => n < VB + S.length) F (F.more (VB + S.length) b0 b1 b2) ∧ Rep (F.more (VB + S.length) b0 b1 b2) (S ++ [ob]) w' ∧ Kept w (fpS F S) w' ∧ ∀ b, fpS (F.more (VB + S.length) b0 b1 b2) (S ++ [ob]) b → fpS F S b ∨ w.heap.size ≤ b := by
  have hs : Same (fun n => n < VB + S.length) F (F.more (VB + S.length) b0 b1 b2) := fun n hn => by
    have : n ≠ VB + S.length := by omega
    simp [Emb.more, this]
  have hs' : Same (fun n => VB ≤ n ∧ n < VB + S.length) F (F.more (VB + S.length) b0 b1 b2) := hs.mono (fun n hn => hn.2)
  have hget : ∀ k o, (S ++ [ob])[k]? = some o → (k = S.length ∧ o = ob) ∨ S[k]? = some o := fun k o hk => by
    by_cases hlt : k < S.length
    · rw [List.getElem?_append_left hlt] at hk; exact .inr hk
    · have : k = S.length := by have := (List.getElem?_eq_some_iff.1 hk).1; simp at this; omega
      subst this
      simp at hk
      exact .inl ⟨rfl, hk.symm⟩
  have hnb : ∀ b ∈ obBlk (F.more (VB + S.length) b0 b1 b2) S.length ob, w.heap.size ≤ b := fun b hb => by
    cases ob with
    | mem ws bs =>
      simp only [obBlk, Emb.more, if_true, List.mem_cons, List.not_mem_nil, or_false] at hb
      have := h2 ⟨ws, bs, rfl⟩
      rw [aux_1, aux_2] at hb
      rcases hb with rfl | rfl | rfl <;> simp_all
    | port m me steps =>
      simp only [obBlk, Emb.more, if_true, List.mem_cons, List.not_mem_nil, or_false] at hb
      rw [aux_1] at hb
      rcases hb with rfl | rfl <;> simp_all
  have hob : ∀ k o, S[k]? = some o → ∀ b ∈ obBlk (F.more (VB + S.length) b0 b1 b2) k o, b ∈ obBlk F k o ∧ b < w.heap.size := fun k o hk b hb => by
    rw [obBlk_same hs' hk] at hb
    obtain ⟨o', ho'⟩ := obAt_block (h.at' k o hk) b hb
    exact ⟨hb, blk_lt ho'⟩
  refine ⟨hs, ⟨fun k o hk => ?_, fun k o hk => ?_, fun k k' o o' hne hk hk' b hb hb' => ?_⟩, ⟨hx.os, hx.tape, hx.output, hx.size, fun b hb _ => hx.block b hb (by simp)⟩, fun b ⟨k, o, hk, hb⟩ => ?_⟩
  · rcases hget k o hk with ⟨rfl, rfl⟩ | hk
    · simp [Emb.more]
    · rw [← (hs'.ob hk).2.1]; exact h.base k o hk
  · rcases hget k o hk with ⟨rfl, rfl⟩ | hk
    · exact hnew
    · have h3 := obAt_kept (w' := w') (obAt_same hs' hk (h.at' k o hk)) (fun b hb => hx.block b (hob k o hk b hb).2 (by simp))
      cases o with
      | mem ws bs => exact h3
      | port m me steps =>
        obtain ⟨h4, ws, bs, h5⟩ := h3
        refine ⟨h4, ws, bs, ?_⟩
        rw [List.getElem?_append_left (List.getElem?_eq_some_iff.1 h5).1]; exact h5
  · rcases hget k o hk with ⟨e1, e2⟩ | hk1 <;> rcases hget k' o' hk' with ⟨e3, e4⟩ | hk2
    · exact hne (e1.trans e3.symm)
    · rw [e1, e2] at hb; have := hnb b hb; have := (hob _ _ hk2 b hb').2; omega
    · rw [e3, e4] at hb'; have := hnb b hb'; have := (hob _ _ hk1 b hb).2; omega
    · exact h.apart k k' o o' hne hk1 hk2 b (hob k o hk1 b hb).1 (hob k' o' hk2 b hb').1
  · rcases hget k o hk with ⟨rfl, rfl⟩ | hk
    · exact .inr (hnb b hb)
    · exact .inl ⟨k, o, hk, (hob k o hk b hb).1⟩
def accS (S : St) (p m : Nat) (me : Int) (steps : Nat) (ws : List UInt64) (bs : List UInt8) : St := (S.set p (.port m me steps)).set m (.mem ws bs)
inductive Prim : FuncId → Array Value → St → Value → St → Prop
  | pure {f args v S} (h : ∀ w, Calls Try.prog f args w (Ret v (Ext [] w))) (ha : args.all plainB = true) (hv : plainB v = true) : Prim f args S v S
  | word {k : Nat} {ws : List UInt64} {bs : List UInt8} {S : St} (n : Int) (h : S[k]? = some (Ob.mem ws bs)) : Prim 25 #[hndV k, .int .i64 n] S (.int .u64 ((wT 1 n 0 ws).toNat : Int)) S
  | do' {k : Nat} {ws : List UInt64} {bs : List UInt8} {S : St} (c : Nat) (n : Int) (A B : UInt64) (h : S[k]? = some (Ob.mem ws bs)) (h1 : 1 ≤ c) (h4 : c ≤ 4) :
      Prim 79 #[hndV k, accV c n A B] S (.tuple #[.int .u64 ((wT c n A ws).toNat : Int), .bool (wAt ws n).isSome]) (S.set k (.mem (wS c n A B ws) bs))
  | load {p m : Nat} {me : Int} {steps : Nat} {ws : List UInt64} {bs : List UInt8} {S : St} (n : Int) (h : S[p]? = some (Ob.port m me steps)) (hm : S[m]? = some (Ob.mem ws bs)) (hs : steps ≤ 1000000000000) :
      Prim 168 #[hndV p, .int .i64 n] S (.int .u64 ((wT 1 n 0 ws).toNat : Int)) (accS S p m me (steps + 1) (wS 1 n 0 0 ws) bs)
  | store {p m : Nat} {me : Int} {steps : Nat} {ws : List UInt64} {bs : List UInt8} {S : St} (n : Int) (A : UInt64) (h : S[p]? = some (Ob.port m me steps)) (hm : S[m]? = some (Ob.mem ws bs)) (hs : steps ≤ 1000000000000) :
      Prim 170 #[hndV p, .int .i64 n, .int .u64 (A.toNat : Int)] S (.tuple #[]) (accS S p m me (steps + 1) (wS 2 n A 0 ws) bs)
  | cas {p m : Nat} {me : Int} {steps : Nat} {ws : List UInt64} {bs : List UInt8} {S : St} (n : Int) (A B : UInt64) (h : S[p]? = some (Ob.port m me steps)) (hm : S[m]? = some (Ob.mem ws bs)) (hs : steps ≤ 1000000000000) :
      Prim 166 #[hndV p, .int .i64 n, .int .u64 (A.toNat : Int), .int .u64 (B.toNat : Int)] S (.bool (wT 3 n A ws == 1)) (accS S p m me (steps + 1) (wS 3 n A B ws) bs)
  | add {p m : Nat} {me : Int} {steps : Nat} {ws : List UInt64} {bs : List UInt8} {S : St} (n : Int) (A : UInt64) (h : S[p]? = some (Ob.port m me steps)) (hm : S[m]? = some (Ob.mem ws bs)) (hs : steps ≤ 1000000000000) :
      Prim 165 #[hndV p, .int .i64 n, .int .u64 (A.toNat : Int)] S (.int .u64 ((wT 4 n A ws).toNat : Int)) (accS S p m me (steps + 1) (wS 4 n A 0 ws) bs)
  | self {p m : Nat} {me : Int} {steps : Nat} {S : St} (h : S[p]? = some (Ob.port m me steps)) : Prim 169 #[hndV p] S (.int .i64 me) S
  | steps {p m : Nat} {me : Int} {steps : Nat} {S : St} (h : S[p]? = some (Ob.port m me steps)) : Prim 29 #[hndV p] S (.int .i64 (steps : Int)) S
  | mcopy {k : Nat} {ws : List UInt64} {bs : List UInt8} {S : St} (h : S[k]? = some (Ob.mem ws bs)) : Prim 57 #[hndV k] S (hndV S.length) (S ++ [.mem ws bs])
  | msame {k j : Nat} {ws us : List UInt64} {bs cs : List UInt8} {S : St} (h : S[k]? = some (Ob.mem ws bs)) (h' : S[j]? = some (Ob.mem us cs)) : Prim 59 #[hndV k, hndV j] S (.bool (decide (ws = us) && decide (bs = cs))) S
  | dget {k : Nat} {ws : List UInt64} {bs : List UInt8} {S : St} (n : Int) (A B : UInt64) (h : S[k]? = some (Ob.mem ws bs)) :
      Prim 79 #[hndV k, accV 5 n A B] S (.tuple #[.int .u64 ((bT n bs).toNat : Int), .bool (bAt bs n).isSome]) S
  | dput {k : Nat} {ws : List UInt64} {bs : List UInt8} {S : St} (n : Int) (A B : UInt64) (h : S[k]? = some (Ob.mem ws bs)) :
      Prim 79 #[hndV k, accV 6 n A B] S (.tuple #[.int .u64 0, .bool (bAt bs n).isSome]) (S.set k (.mem ws (bS n A.toUInt8 bs)))
  | pnew {m : Nat} {me : Int} {ws : List UInt64} {bs : List UInt8} {S : St} (h : S[m]? = some (Ob.mem ws bs)) : Prim 12 #[hndV m, .int .i64 me] S (hndV S.length) (S ++ [.port m me 0])
  | mnew {S : St} (a b : Nat) (ha : a ≤ 2097152) (hb : b ≤ 1048576) : Prim 114 #[.int .i64 a, .int .i64 b] S (.tuple #[hndV S.length, .int .i64 0]) (S ++ [.mem (List.replicate a 0) (List.replicate b 0)])
theorem plain_args {args : Array Value} (F : Emb) (h : args.all plainB = true) : args.map (ren F) = args := by
  apply Array.ext
  · simp
  · intro i h1 h2
    simp only [Array.getElem_map]
    exact ren_plain F ((Array.all_eq_true.1 h) i h2)
theorem ren_hnd {F : Emb} {k : Nat} (hb : F.base (VB + k) = 0) : ren F (hndV k) = .pointer (some ⟨F.blk (VB + k), 0, none⟩) := by simp [hndV, adr, hb]
theorem Prim.len {f : FuncId} {args : Array Value} {S S' : St} {v : Value} (h : Prim f args S v S') : S.length ≤ S'.length := by
  cases h <;> simp [accS]
theorem hnd_hand (c k : Nat) (h : k < c) : Hand c (hndV k) := by
  intro F F' hs
  have := hs (VB + k) ⟨by omega, by omega⟩
  simp [hndV, adr, this.1, this.2.1]
theorem Prim.hand {f : FuncId} {args : Array Value} {S S' : St} {v : Value} (h : Prim f args S v S') : Hand S'.length v := by
  cases h with
  | pure h ha hv => exact Hand.plain hv
  | pnew h => exact hnd_hand _ _ (by simp)
  | mcopy h => exact hnd_hand _ _ (by simp)
  | mnew a b ha hb =>
    have h1 := hnd_hand (S ++ [Ob.mem (List.replicate a 0) (List.replicate b 0)]).length S.length (by simp)
    intro F F' hs
    simp only [ren_tuple, List.map_toArray, List.map_cons, List.map_nil, ren_int]
    rw [h1 F F' hs]
  | _ => exact Hand.plain (by first | rfl | simp [plainB])
theorem accS_get {S : St} {p m : Nat} {me : Int} {steps : Nat} {ws : List UInt64} {bs : List UInt8} {ob ob2 : Ob} (h : S[p]? = some ob) (hm : S[m]? = some ob2) (hne : p ≠ m) : (accS S p m me steps ws bs)[p]? = some (Ob.port m me steps) ∧ (accS S p m me steps ws bs)[m]? = some (Ob.mem ws bs) := by
  have h1 := (List.getElem?_eq_some_iff.1 h).1
  have h2 := (List.getElem?_eq_some_iff.1 hm).1
  unfold accS
  constructor
  · rw [List.getElem?_set_ne (Ne.symm hne), List.getElem?_set_self h1]
  · rw [List.getElem?_set_self (by simpa using h2)]
theorem accS_other {S : St} {p m k : Nat} {me : Int} {steps : Nat} {ws : List UInt64} {bs : List UInt8} (h1 : k ≠ p) (h2 : k ≠ m) : (accS S p m me steps ws bs)[k]? = S[k]? := by
  unfold accS
  rw [List.getElem?_set_ne (Ne.symm h2), List.getElem?_set_ne (Ne.symm h1)]
def Turned (F : Emb) (S S' : St) (v : Value) (w : World) (e : Ending) (w' : World) : Prop :=
  ∃ F', Same (fun n => n < VB + S.length) F F' ∧ e = .returned (ren F' v) ∧ Rep F' S' w' ∧ Kept w (fpS F S) w' ∧ ∀ b, fpS F' S' b → fpS F S b ∨ w.heap.size ≤ b
theorem turned_acc {F : Emb} {S : St} {p m : Nat} {me : Int} {steps steps' : Nat} {ws ws' : List UInt64} {bs bs' : List UInt8} {w w' : World} {v td : Value} {pw pb : Array Value} (R : Rep F S w) (h : S[p]? = some (Ob.port m me steps)) (hm : S[m]? = some (Ob.mem ws bs)) (hv : ren F v = v)
    (hq0 : PS ⟨F.blk (VB + p), aux (F.slack (VB + p)) 1⟩ ⟨F.blk (VB + m), aux (F.slack (VB + m)) 1, aux (F.slack (VB + m)) 2, pw, pb⟩ me td steps' ws' bs' w w' ∨
      (DirAt w' ⟨F.blk (VB + p), aux (F.slack (VB + p)) 1⟩ (F.blk (VB + m)) me td steps' ∧ MemAt w' ⟨F.blk (VB + m), aux (F.slack (VB + m)) 1, aux (F.slack (VB + m)) 2, pw, pb⟩ ws' bs' ∧ Ext [aux (F.slack (VB + p)) 1, aux (F.slack (VB + m)) 2] w w')) : Turned F S (accS S p m me steps' ws' bs') v w (.returned v) w' := by
  have hq : DirAt w' ⟨F.blk (VB + p), aux (F.slack (VB + p)) 1⟩ (F.blk (VB + m)) me td steps' ∧ MemAt w' ⟨F.blk (VB + m), aux (F.slack (VB + m)) 1, aux (F.slack (VB + m)) 2, pw, pb⟩ ws' bs' ∧ Ext [aux (F.slack (VB + p)) 1, aux (F.slack (VB + m)) 1, aux (F.slack (VB + m)) 2] w w' := by
    rcases hq0 with ⟨h1, h2, h3⟩ | ⟨h1, h2, h3⟩
    · exact ⟨h1, h2, h3.mono (by simp)⟩
    · exact ⟨h1, h2, h3.mono (by simp)⟩
  clear hq0
  have hne : p ≠ m := by rintro rfl; rw [h] at hm; cases hm
  obtain ⟨g1, g2⟩ := accS_get (me := me) (steps := steps') (ws := ws') (bs := bs') h hm hne
  have hk : ∀ k ob, S[k]? = some ob → ∀ ob', (accS S p m me steps' ws' bs')[k]? = some ob' → obBlk F k ob' = obBlk F k ob := by
    intro k ob h1 ob' h2
    by_cases e1 : k = p
    · subst e1; rw [h] at h1; rw [g1] at h2; cases h1; cases h2; rfl
    · by_cases e2 : k = m
      · subst e2; rw [hm] at h1; rw [g2] at h2; cases h1; cases h2; rfl
      · rw [accS_other e1 e2, h1] at h2; cases h2; rfl
  obtain ⟨r1, r2, r3⟩ := R.turn (S' := accS S p m me steps' ws' bs') (T := [p, m]) hq.2.2 (by simp [accS]) (fun x hx => by
      simp only [List.mem_cons, List.not_mem_nil, or_false] at hx
      rcases hx with rfl | rfl | rfl
      · exact ⟨p, by simp, _, h, by simp [obBlk]⟩
      · exact ⟨m, by simp, _, hm, by simp [obBlk]⟩
      · exact ⟨m, by simp, _, hm, by simp [obBlk]⟩)
    (fun k hk => accS_other (fun e => hk (by simp [e])) (fun e => hk (by simp [e]))) (fun k ob ob' h1 h2 => hk k ob h1 ob' h2) (fun k ⟨ws1, bs1, h1⟩ => by
      by_cases e2 : k = m
      · subst e2; exact ⟨_, _, g2⟩
      · by_cases e1 : k = p
        · subst e1; rw [h] at h1; cases h1
        · exact ⟨ws1, bs1, by rw [accS_other e1 e2]; exact h1⟩) (fun k hk ob hob => by
      simp only [List.mem_cons, List.not_mem_nil, or_false] at hk
      rcases hk with rfl | rfl
      · rw [g1] at hob; cases hob; exact ⟨⟨td, hq.1⟩, _, _, g2⟩
      · rw [g2] at hob; cases hob; exact ⟨_, _, hq.2.1⟩)
  exact ⟨F, Same.refl _ _, by rw [hv], r1, r2, fun b hb => .inl (r3 b hb)⟩
theorem turned_still {F : Emb} {S : St} {w w' : World} {v : Value} (R : Rep F S w) (hv : ren F v = v) (hx : Ext [] w w') : Turned F S S v w (.returned v) w' :=
  ⟨F, Same.refl _ _, by rw [hv], ⟨R.base, fun k ob hk => obAt_kept (R.at' k ob hk) (fun b hb => by obtain ⟨o, ho⟩ := obAt_block (R.at' k ob hk) b hb; exact hx.block b (blk_lt ho) (by simp)), R.apart⟩,
    ⟨hx.os, hx.tape, hx.output, hx.size, fun b hb _ => hx.block b hb (by simp)⟩, fun b hb => .inl hb⟩
end Go.Proofs.Ytjdbknnacaacaaa
namespace Go.Proofs.Ytjdbknnacaacaaa
open Go Go.RowKit
set_option linter.unusedSimpArgs false
set_option linter.unusedVariables false
section
variable {P : Program} {e : Operand → Value} {h : AHeap} {t : TypeId} {x y : Operand} {k : IntKind} {a b : Int}
theorem ev_tmp (l : List Value) (t : Nat) : evA l (.tmp t) = l.getD t undef := rfl
theorem ev_const (l : List Value) (v : Value) : evA l (.const v) = v := rfl
theorem ev_func (l : List Value) (f : FuncId) : evA l (.func f) = .func (.func f) #[] #[] := rfl
theorem put_some (d : Nat) (v : Value) (l : List Value) : putL (some d) v l = l.set d v := rfl
theorem put_none (v : Value) (l : List Value) : putL none v l = l := rfl
theorem v_move : valA P e h (.move x) = some (e x) := rfl
theorem v_assign : valA P e h (.assign x) = some (e x) := rfl
theorem v_bin {op : BinOp} {u : TypeId} : valA P e h (.binOp op t x y u) = binOpA P op t y (e x) (e y) := rfl
theorem v_un {op : UnOp} : valA P e h (.unOp op t x) = unA op (e x) := rfl
theorem v_convert {u : TypeId} : valA P e h (.convert t u x) = convertA P t u (e x) := rfl
theorem v_field {i : Nat} : valA P e h (.field t x i) = fieldA P t (e x) i := rfl
theorem v_index : valA P e h (.index t x y) = indexA P t (e x) (e y) := rfl
theorem v_makeFunc {fn : Fn} {xs ys : Array Operand} : valA P e h (.makeFunc fn xs ys) = some (.func fn (xs.map e) (ys.map e)) := rfl
theorem v_nilCheck : valA P e h (.nilCheck x) = nilCheckA P (e x) := rfl
theorem v_fieldAddr {i : Nat} : valA P e h (.fieldAddr t x i) = fieldAddrA P t (e x) i := rfl
theorem v_indexAddr : valA P e h (.indexAddr t x y) = indexAddrA P t (e x) (e y) := rfl
def loadV (P : Program) (h : AHeap) (t : TypeId) : Value → Option Value
  | .pointer (some a) => loadA P h t a
  | _ => none
theorem v_load : valA P e h (.load t x) = loadV P h t (e x) := by
  show (match e x with | .pointer (some a) => loadA P h t a | _ => none) = _
  unfold loadV
  rfl
theorem load_ptr {a : Addr} : loadV P h t (.pointer (some a)) = loadA P h t a := rfl
def pickV (c a b : Value) : Option Value := match c with
  | .bool t => some (if t then a else b)
  | _ => none
theorem v_pick {z : Operand} : valA P e h (.pick x y z) = pickV (e x) (e y) (e z) := rfl
theorem pick_true {v u : Value} : pickV (.bool true) v u = some v := rfl
theorem pick_false {v u : Value} : pickV (.bool false) v u = some u := rfl
def extractV (v : Value) (i : Nat) : Option Value := match v with
  | .tuple vs => vs[i]?
  | _ => none
theorem v_extract {i : Nat} : valA P e h (.extract x i) = extractV (e x) i := rfl
theorem extract_tuple {vs : Array Value} {i : Nat} : extractV (.tuple vs) i = vs[i]? := rfl
theorem b_add : binOpA P .add t y (.int k a) (.int k b) = some (.int k (k.wrap (a + b))) := by simp [binOpA, binA, intA]
theorem b_sub : binOpA P .sub t y (.int k a) (.int k b) = some (.int k (k.wrap (a - b))) := by simp [binOpA, binA, intA]
theorem b_mul : binOpA P .mul t y (.int k a) (.int k b) = some (.int k (k.wrap (a * b))) := by simp [binOpA, binA, intA]
theorem b_rem (hb : b ≠ 0) : binOpA P .rem t y (.int k a) (.int k b) = some (.int k (a.tmod b)) := by simp [binOpA, binA, intA, hb]
theorem b_eql : binOpA P .eql t y (.int k a) (.int k b) = some (.bool (a == b)) := by simp [binOpA, binA, intA]
theorem b_neq : binOpA P .neq t y (.int k a) (.int k b) = some (.bool (a != b)) := by simp [binOpA, binA, intA]
theorem b_lss : binOpA P .lss t y (.int k a) (.int k b) = some (.bool (decide (a < b))) := by simp [binOpA, binA, intA]
theorem b_leq : binOpA P .leq t y (.int k a) (.int k b) = some (.bool (decide (a ≤ b))) := by simp [binOpA, binA, intA]
theorem b_gtr : binOpA P .gtr t y (.int k a) (.int k b) = some (.bool (decide (b < a))) := by simp [binOpA, binA, intA]
theorem b_geq : binOpA P .geq t y (.int k a) (.int k b) = some (.bool (decide (b ≤ a))) := by simp [binOpA, binA, intA]
def andZ (k : IntKind) (a b : Int) : Int := k.wrap (BitVec.ofInt k.bits a &&& BitVec.ofInt k.bits b).toNat
def orZ (k : IntKind) (a b : Int) : Int := k.wrap (BitVec.ofInt k.bits a ||| BitVec.ofInt k.bits b).toNat
theorem b_and : binOpA P .and t y (.int k a) (.int k b) = some (.int k (andZ k a b)) := by simp [binOpA, binA, intA, andZ]
theorem b_or : binOpA P .or t y (.int k a) (.int k b) = some (.int k (orZ k a b)) := by simp [binOpA, binA, intA, orZ]
theorem b_shl {k' : IntKind} (hb : 0 ≤ b) : binOpA P .shl t y (.int k a) (.int k' b) = some (.int k (k.wrap (a * 2 ^ min b.toNat k.bits))) := by
  have : ¬ b < 0 := by omega
  simp [binOpA, binA, shiftA, this]
theorem b_shr {k' : IntKind} (hb : 0 ≤ b) : binOpA P .shr t y (.int k a) (.int k' b) = some (.int k (a.fdiv (2 ^ min b.toNat k.bits))) := by
  have : ¬ b < 0 := by omega
  simp [binOpA, binA, shiftA, this]
theorem b_not {c : Bool} : unA .not (.bool c) = some (.bool !c) := rfl
theorem b_neg : unA .neg (.int k a) = some (.int k (k.wrap (0 - a))) := rfl
theorem cast0 : ((0 : Nat) : Int) = 0 := rfl
theorem cast1 : ((1 : Nat) : Int) = 1 := rfl
def loadR (b : Option Blk) (g : Option Bool) (s : Option Nat) (a : Addr) : Option Value := match b, g, s with
  | some b, some true, some s => if a.spot = none ∧ a.off = 0 ∧ b.cells.length = s then some (.agg b.cells.toArray) else if a.spot = none ∧ a.off + s ≤ b.cells.length then some (.agg ((b.cells.drop a.off).take s).toArray) else none
  | some b, some false, some _ => if a.spot = none then b.cells[a.off]? else none
  | _, _, _ => none
theorem loadA_eq {a : Addr} : loadA P h t a = loadR (h.get a.block) (tyAgg P t) (tySize P t) a := rfl
theorem loadR_cell {b : Blk} {s n o : Nat} : loadR (some b) (some false) (some s) ⟨n, o, none⟩ = b.cells[o]? := by simp [loadR]
theorem loadR_all {b : Blk} {s n : Nat} (hl : b.cells.length = s) : loadR (some b) (some true) (some s) ⟨n, 0, none⟩ = some (.agg b.cells.toArray) := by simp [loadR, hl]
theorem loadR_sub {b : Blk} {s n o : Nat} (hl : o + s ≤ b.cells.length) : loadR (some b) (some true) (some s) ⟨n, o, none⟩ = some (.agg ((b.cells.drop o).take s).toArray) := by
  unfold loadR
  simp only [true_and, hl, if_true]
  split
  · rename_i hc
    obtain ⟨rfl, rfl⟩ := hc
    simp
  · rfl
def tyPtr (P : Program) (t : TypeId) : Bool := match P.underlying t with | some (.pointer _) => true | _ => false
def tyIfc (P : Program) (t : TypeId) : Bool := match P.underlying t with | some (.interface _) => true | _ => false
def tySli (P : Program) (t : TypeId) : Bool := match P.underlying t with | some (.slice _) => true | _ => false
theorem b_eqp {a : Option Addr} : binOpA P .eql t y (.pointer a) (.pointer none) = cond (tyPtr P t) (some (.bool a.isNone)) none := by
  simp only [binOpA, binA, eqNilA, eqFlatA, tyPtr]
  cases P.underlying t with
  | none => rfl
  | some u => cases u <;> rfl
theorem b_eqh {k : Nat} : binOpA P .eql t y (hndV k) (.pointer none) = cond (tyPtr P t) (some (.bool false)) none := b_eqp
theorem b_eqi {u : TypeId} {v : Value} : binOpA P .eql t y (.iface u v) .nilIface = cond (tyIfc P t) (some (.bool false)) none := by
  simp only [binOpA, binA, eqNilA, eqFlatA, tyIfc]
  cases P.underlying t with
  | none => rfl
  | some u => cases u <;> rfl
theorem b_nei {u : TypeId} {v : Value} : binOpA P .neq t y (.iface u v) .nilIface = cond (tyIfc P t) (some (.bool true)) none := by
  simp only [binOpA, binA, eqNilA, eqFlatA, tyIfc]
  cases P.underlying t with
  | none => rfl
  | some u => cases u <;> rfl
theorem b_eqr {k : Nat} : binOpA P .eql t y (prtV k) .nilIface = cond (tyIfc P t) (some (.bool false)) none := b_eqi
theorem b_ner {k : Nat} : binOpA P .neq t y (prtV k) .nilIface = cond (tyIfc P t) (some (.bool true)) none := b_nei
theorem b_neb {a b : Bool} : binOpA P .neq t y (.bool a) (.bool b) = cond (tyBool P t) (some (.bool !(a == b))) none := by
  simp only [binOpA, binA, eqNilA, eqFlatA]
  cases hu : P.underlying t with
  | none => simp [tyBool, hu]
  | some u => cases u <;> simp [tyBool, hu]
def tyMk (P : Program) (t : TypeId) : Bool := match P.underlying t with | some (.interface _) => false | some _ => true | none => false
theorem v_iface : valA P e h (.makeInterface t x) = cond (tyMk P t) (some (.iface t (e x))) none := by
  simp only [valA, tyMk]
  cases P.underlying t with
  | none => rfl
  | some u => cases u <;> rfl
theorem iface_prt {k : Nat} : Value.iface 26 (hndV k) = prtV k := rfl
theorem v_len {ats : Array TypeId} {z : Operand} : valA P e h (.call { callee := .builtin .len, args := #[z], argTypes := ats }) = (match ats.toList with | [t] => lenA P t (e z) | _ => none) := by
  show (match [z], ats.toList with | [x], [t] => lenA P t (e x) | _, _ => none) = _
  cases ats.toList with
  | nil => rfl
  | cons a l => cases l <;> rfl
def min2 : Value → Value → Option Value
  | .int k x, .int _ y => some (.int k (if y < x then y else x))
  | _, _ => none
def max2 : Value → Value → Option Value
  | .int k x, .int _ y => some (.int k (if y > x then y else x))
  | _, _ => none
theorem v_build {ps : Array (Nat × Operand)} : valA P e h (.build t ps) = buildA P t (ps.toList.map fun p => (p.1, e p.2)) := rfl
theorem v_slice {lo hi mx : Option Operand} : valA P e h (.slice t x lo hi mx) = sliceA P h t (e x) (lo.map e) (hi.map e) (mx.map e) := rfl
def fill1 (o : Option (Nat × Nat)) (v : Value) (cells : List Value) (K : List Value → Option (List Value)) : Option (List Value) := match o with
  | none => none
  | some (off, size) => if v.cells.size ≠ size ∨ off + v.cells.size > cells.length then none else K (spliceA cells off v.cells.toList)
theorem fill_cons {pl : Nat → Option (Nat × Nat)} {cells : List Value} {i : Nat} {v : Value} {l : List (Nat × Value)} : fillA pl cells ((i, v) :: l) = fill1 (pl i) v cells fun c => fillA pl c l := by
  rw [fillA]
  unfold fill1
  rfl
theorem fill_nil {pl : Nat → Option (Nat × Nat)} {cells : List Value} : fillA pl cells [] = some cells := rfl
theorem fill1_one {off : Nat} {v : Value} {cells : List Value} {K : List Value → Option (List Value)} (hv : v.cells = #[v]) (hl : off < cells.length) : fill1 (some (off, 1)) v cells K = K (cells.set off v) := by
  have : ¬ ((#[v] : Array Value).size ≠ 1 ∨ off + (#[v] : Array Value).size > cells.length) := by simp; omega
  unfold fill1
  simp only [hv]
  rw [if_neg this]
  congr 1
  unfold spliceA
  rw [List.set_eq_take_append_cons_drop, if_pos hl]
  simp
theorem fill1_int {off : Nat} {n : Int} {cells : List Value} {K : List Value → Option (List Value)} (hl : off < cells.length) : fill1 (some (off, 1)) (.int k n) cells K = K (cells.set off (.int k n)) := fill1_one rfl hl
theorem fill1_bool {off : Nat} {c : Bool} {cells : List Value} {K : List Value → Option (List Value)} (hl : off < cells.length) : fill1 (some (off, 1)) (.bool c) cells K = K (cells.set off (.bool c)) := fill1_one rfl hl
theorem fill1_slice {off n c : Nat} {d : Option Addr} {cells : List Value} {K : List Value → Option (List Value)} (hl : off < cells.length) : fill1 (some (off, 1)) (.slice d n c) cells K = K (cells.set off (.slice d n c)) := fill1_one rfl hl
theorem fill1_agg {off s : Nat} {cs : Array Value} {cells : List Value} {K : List Value → Option (List Value)} (hs : cs.size = s) (hl : off + s ≤ cells.length) : fill1 (some (off, s)) (.agg cs) cells K = K (spliceA cells off cs.toList) := by
  have hc : (Value.agg cs).cells = cs := rfl
  unfold fill1
  simp only [hc]
  rw [if_neg (by omega)]
theorem c_static {f : FuncId} {args : Array Operand} {ats : Array TypeId} : callA P e (.call { callee := .value (.func f), args := args, argTypes := ats }) = (match e (.func f) with | .func (.func g) xs ys => some (g, xs ++ args.map e ++ ys) | .func (.method name) xs _ => (match xs.toList with | [.iface t (.pointer p)] => (match methA P t name with | some g => some (g, #[.pointer p] ++ args.map e) | none => none) | _ => none) | _ => none) := rfl
def callV (P : Program) (f : Value) (args : Array Value) : Option (FuncId × Array Value) := match f with
  | .func (.func g) xs ys => some (g, xs ++ args ++ ys)
  | .func (.method name) xs _ => (match xs.toList with
    | [.iface t (.pointer p)] => (match methA P t name with | some g => some (g, #[.pointer p] ++ args) | none => none)
    | _ => none)
  | _ => none
theorem c_value {f : Operand} {args : Array Operand} {ats : Array TypeId} : callA P e (.call { callee := .value f, args := args, argTypes := ats }) = callV P (e f) (args.map e) := by
  unfold callA callV
  rfl
theorem call_func {g : FuncId} {xs ys args : Array Value} : callV P (.func (.func g) xs ys) args = some (g, xs ++ args ++ ys) := rfl
theorem call_meth {name : String} {k : Nat} {ys args : Array Value} : callV P (.func (.method name) #[prtV k] ys) args = (match methA P 26 name with | some f => some (f, #[hndV k] ++ args) | none => none) := rfl
def invokeV (P : Program) (r : Value) (name : String) (args : Array Value) : Option (FuncId × Array Value) := match r with
  | .iface t (.pointer p) => (match methA P t name with | some f => some (f, #[.pointer p] ++ args) | none => none)
  | _ => none
theorem c_invoke {r : Operand} {name : String} {args : Array Operand} {ats : Array TypeId} : callA P e (.call { callee := .invoke r name, args := args, argTypes := ats }) = invokeV P (e r) name (args.map e) := by
  unfold callA invokeV
  rfl
theorem i_prt {k : Nat} {name : String} {args : Array Value} : invokeV P (prtV k) name args = (match methA P 26 name with | some f => some (f, #[hndV k] ++ args) | none => none) := rfl
theorem n_prt {k : Nat} {name : String} : nilCheckA P (.func (.method name) #[prtV k] #[]) = (match methA P 26 name with | some _ => some (.func (.method name) #[prtV k] #[]) | none => none) := rfl
theorem n_ptr {a : Addr} : nilCheckA P (.pointer (some a)) = some (.pointer (some a)) := rfl
theorem low_get {n0 n : Nat} (hn : n < n0) : (lowH n0 h).get n = h.get n := by
  unfold lowH
  simp [hn]
theorem wrap_i64 {n : Int} (h1 : -9223372036854775808 ≤ n) (h2 : n ≤ 9223372036854775807) : IntKind.i64.wrap n = n := IntWalk.i64_in n ⟨h1, h2⟩
end
def fnOK (P : Program) (f : FuncId) : Bool := match P.funcs[f]? with
  | some g => goB g
  | none => false
theorem fnOK_spec {P : Program} {f : FuncId} (h : fnOK P f = true) : ∃ g, P.funcs[f]? = some g ∧ goB g = true := by
  unfold fnOK at h
  split at h
  · rename_i g hg; exact ⟨g, hg, h⟩
  · cases h
theorem prt_clo (n c k : Nat) (h : k < c) : Clo (Kn n c) (prtV k) := by
  intro F F' hs
  have := hs (VB + k) (.inr ⟨by omega, by omega⟩)
  simp [prtV, hndV, adr, this.1, this.2.1]
theorem hnd_clo (n c k : Nat) (h : k < c) : Clo (Kn n c) (hndV k) := by
  intro F F' hs
  have := hs (VB + k) (.inr ⟨by omega, by omega⟩)
  simp [hndV, adr, this.1, this.2.1]
theorem clo0 {K : Nat → Prop} : ∀ u ∈ (#[] : Array Value).toList, Clo K u := fun u hu => by cases hu
theorem clo1 {K : Nat → Prop} {a : Value} (ha : Clo K a) : ∀ u ∈ #[a].toList, Clo K u := fun u hu => by
  simp only [List.mem_cons, List.not_mem_nil, or_false] at hu; subst hu; exact ha
theorem clo2 {K : Nat → Prop} {a b : Value} (ha : Clo K a) (hb : Clo K b) : ∀ u ∈ #[a, b].toList, Clo K u := fun u hu => by
  simp only [List.mem_cons, List.not_mem_nil, or_false] at hu; rcases hu with rfl | rfl; exact ha; exact hb
theorem clo3 {K : Nat → Prop} {a b c : Value} (ha : Clo K a) (hb : Clo K b) (hc : Clo K c) : ∀ u ∈ #[a, b, c].toList, Clo K u := fun u hu => by
  simp only [List.mem_cons, List.not_mem_nil, or_false] at hu; rcases hu with rfl | rfl | rfl; exact ha; exact hb; exact hc
theorem clo4 {K : Nat → Prop} {a b c d : Value} (ha : Clo K a) (hb : Clo K b) (hc : Clo K c) (hd : Clo K d) : ∀ u ∈ #[a, b, c, d].toList, Clo K u := fun u hu => by
  simp only [List.mem_cons, List.not_mem_nil, or_false] at hu; rcases hu with rfl | rfl | rfl | rfl; exact ha; exact hb; exact hc; exact hd
theorem clo5 {K : Nat → Prop} {a b c d e : Value} (ha : Clo K a) (hb : Clo K b) (hc : Clo K c) (hd : Clo K d) (he : Clo K e) : ∀ u ∈ #[a, b, c, d, e].toList, Clo K u := fun u hu => by
  simp only [List.mem_cons, List.not_mem_nil, or_false] at hu; rcases hu with rfl | rfl | rfl | rfl | rfl; exact ha; exact hb; exact hc; exact hd; exact he
theorem hhand {c k : Nat} (h : k < c) : Hand c (hndV k) := hnd_hand c k h
theorem iclo {K : Nat → Prop} {k : IntKind} {n : Int} : Clo K (.int k n) := Clo.plain rfl
theorem gclo {K : Nat → Prop} {N T : Nat} : Clo K (.agg (geoC N T)) := Clo.plain (by simp [plainB, geoC])
theorem geo_plain (N T : Nat) : plainB (.agg (geoC N T)) = true := by simp [plainB, geoC]
theorem geo_len (N T : Nat) : (geoC N T).toList.length = 22 := by simp [geoC]
theorem geo_size (N T : Nat) : (geoC N T).size = 22 := by simp [geoC]
theorem geo_all (N T : Nat) : (geoC N T).toList.all cellB = true := by simp [geoC, cellB]
theorem splice_all {l vs : List Value} (h : l.length = vs.length) : spliceA l 0 vs = vs := by simp [spliceA, h]
theorem splice_geo {l : List Value} {N T : Nat} (h : l.length = 22) : spliceA l 0 (geoC N T).toList = (geoC N T).toList := splice_all (by rw [h, geo_len])
theorem splice_succ {a : Value} {l vs : List Value} {n : Nat} : spliceA (a :: l) (n + 1) vs = a :: spliceA l n vs := by
  unfold spliceA
  rw [show n + 1 + vs.length = (n + vs.length) + 1 by omega]
  rfl
theorem splice_cons {a v : Value} {l vs : List Value} : spliceA (a :: l) 0 (v :: vs) = v :: spliceA l 0 vs := by
  unfold spliceA
  rw [show 0 + (v :: vs).length = (0 + vs.length) + 1 by simp]
  rfl
theorem splice_nil {l : List Value} : spliceA l 0 [] = l := by simp [spliceA]
theorem cellB_int (k : IntKind) (n : Int) : cellB (.int k n) = true := rfl
theorem cellB_bool (b : Bool) : cellB (.bool b) = true := rfl
theorem cellB_ptr (a : Option Addr) : cellB (.pointer a) = true := rfl
theorem cellB_slice (a : Option Addr) (n c : Nat) : cellB (.slice a n c) = true := rfl
theorem cellB_iface (t : TypeId) (v : Value) : cellB (.iface t v) = true := rfl
theorem cellB_func (fn : Fn) (xs ys : Array Value) : cellB (.func fn xs ys) = true := rfl
theorem cellB_hnd (k : Nat) : cellB (hndV k) = true := rfl
theorem cellB_prt (k : Nat) : cellB (prtV k) = true := rfl
theorem cellB_ni : cellB .nilIface = true := rfl
theorem cellB_nf : cellB .nilFunc = true := rfl
theorem cells_agg (cs : Array Value) : (Value.agg cs).cells = cs := rfl
theorem cells_int (k : IntKind) (n : Int) : (Value.int k n).cells = #[.int k n] := rfl
theorem cells_bool (b : Bool) : (Value.bool b).cells = #[.bool b] := rfl
theorem cells_ptr (a : Option Addr) : (Value.pointer a).cells = #[.pointer a] := rfl
theorem cells_slice (a : Option Addr) (n c : Nat) : (Value.slice a n c).cells = #[.slice a n c] := rfl
theorem cells_iface (t : TypeId) (v : Value) : (Value.iface t v).cells = #[.iface t v] := rfl
theorem cells_func (fn : Fn) (xs ys : Array Value) : (Value.func fn xs ys).cells = #[.func fn xs ys] := rfl
theorem cells_prt (k : Nat) : (prtV k).cells = #[prtV k] := rfl
theorem cells_hnd (k : Nat) : (hndV k).cells = #[hndV k] := rfl
section
variable {P : Program} {σ : Type} {X : Face P σ} {fn : Func} {A : Conf σ → Prop} {ops : Array Oper} {k : List Item} {i : Nat} {tmps : List Value} {h : AHeap} {S : σ} {o : Oper} {n0 : Nat} {W : List Nat} {hf : AHeap} {Kf : List Value → AHeap → σ → Prop} {born : List (Nat × Nat)}
def ctl2 : List Item → Option (List Item)
  | .code .skip :: k | .code (.label _) :: k | .inBlock _ :: k => some k
  | .code (.seq a b) :: k => some (.code a :: .code b :: k)
  | .code (.block id b) :: k => some (.code b :: .inBlock id :: k)
  | .code (.exit id) :: k => exitTo id k
  | .code (.goto l) :: k => gotoIn l k
  | .inRegion _ [] :: k => some k
  | .code (.scope b) :: k => some (.code b :: .inScope b :: k)
  | .inScope _ :: k => some k
  | _ => none
theorem ctl_of {l l' : List Item} (hc : ctl2 l = some l') : ctl tmps l = some l' := by
  unfold ctl2 at hc
  split at hc <;> first | (cases hc; rfl) | exact hc | cases hc
theorem Goes.ctl2 {todo todo' : List Item} (hc : Go.Proofs.Ytjdbknnacaacaaa.ctl2 todo = some todo') (hk : Goes X fn A (.run todo' tmps h S)) : Goes X fn A (.run todo tmps h S) := .ctl (ctl_of hc) hk
theorem Goes.yes {c : Operand} {x y : Code} (hc : evA tmps c = .bool true) (hk : Goes X fn A (.run (.code x :: k) tmps h S)) : Goes X fn A (.run (.code (.cond c x y) :: k) tmps h S) :=
  .cond hc (fun _ => hk) (fun h => by cases h)
theorem Goes.no {c : Operand} {x y : Code} (hc : evA tmps c = .bool false) (hk : Goes X fn A (.run (.code y :: k) tmps h S)) : Goes X fn A (.run (.code (.cond c x y) :: k) tmps h S) :=
  .cond hc (fun h => by cases h) (fun _ => hk)
theorem Goes.loop {b : Code} (hk : Goes X fn A (.run (.code b :: .inLoop b :: k) tmps h S)) : Goes X fn A (.run (.code (.loop b) :: k) tmps h S) := .ctl rfl hk
theorem Goes.inLoop {b : Code} (hk : Goes X fn A (.run (.code b :: .inLoop b :: k) tmps h S)) : Goes X fn A (.run (.inLoop b :: k) tmps h S) := .ctl rfl hk
theorem At.prim2 (ho : ops.toList[i]? = some o) (hw : Region.wanted o (yieldedL ops tmps) = true) (hb : opOK o.op = true)
    (hk : ∀ K : List Value → σ → Prop, (∀ t S', At X fn A ops k (i + 1) t h S' → K t S') → CallK (fun f args => fnOK P f = true ∧ ∃ v S', X.prim f args S v S' ∧ K (putL o.dst v tmps) S') (callA P (evA tmps) o.op)) : At X fn A ops k i tmps h S := by
  have := hk _ fun _ _ h => h
  cases hv : callA P (evA tmps) o.op with
  | none => rw [hv] at this; exact this.elim
  | some x =>
    obtain ⟨f, args⟩ := x
    rw [hv] at this
    obtain ⟨hf, hr⟩ := this
    obtain ⟨g, h1, h2⟩ := fnOK_spec hf
    exact At.prim (g := g) (at_list ho) hw (opOK_all hb) (by rw [hv]; exact ⟨h1, h2, hr⟩)
theorem At.call2 (ho : ops.toList[i]? = some o) (hw : Region.wanted o (yieldedL ops tmps) = true) (hb : opOK o.op = true)
    (hk : ∀ K : List Value → σ → Prop, (∀ t S', At X fn A ops k (i + 1) t h S' → K t S') → CallK (fun f args => ∃ v S', Does X f args [] S v S' ∧ K (putL o.dst v tmps) S') (callA P (evA tmps) o.op)) : At X fn A ops k i tmps h S :=
  At.call (at_list ho) hw (opOK_all hb) (hk _ fun _ _ h => h)
theorem RG.prim2 (hl : h.Low) (ho : ops.toList[i]? = some o) (hw : Region.wanted o (yieldedL ops tmps) = true) (hb : opOK o.op = true) (hq : wrB W i o = false)
    (hk : ∀ K : List Value → σ → Prop, (∀ t S', RGF X W ops n0 hf Kf (i + 1) t h S' born → K t S') → CallK (fun f args => fnOK P f = true ∧ ∃ v S', X.prim f args S v S' ∧ K (putL o.dst v tmps) S') (callA P (evA tmps) o.op)) (hnf : farB W i = false := by rfl) : RGF X W ops n0 hf Kf i tmps h S born := by
  have := hk _ fun _ _ h => h
  cases hv : callA P (evA tmps) o.op with
  | none => rw [hv] at this; exact this.elim
  | some x =>
    obtain ⟨f, args⟩ := x
    rw [hv] at this
    obtain ⟨hf, hr⟩ := this
    obtain ⟨g, h1, h2⟩ := fnOK_spec hf
    exact RG.prim (g := g) hl (at_list ho) hw (opOK_all hb) hq (by rw [hv]; exact ⟨h1, h2, hr⟩) hnf
theorem RG.call2 (hl : h.Low) (ho : ops.toList[i]? = some o) (hw : Region.wanted o (yieldedL ops tmps) = true) (hb : opOK o.op = true) (hq : wrB W i o = false)
    (hk : ∀ K : List Value → σ → Prop, (∀ t S', RGF X W ops n0 hf Kf (i + 1) t h S' born → K t S') → CallK (fun f args => ∃ v S', Does X f args [] S v S' ∧ K (putL o.dst v tmps) S') (callA P (evA tmps) o.op)) (hnf : farB W i = false := by rfl) : RGF X W ops n0 hf Kf i tmps h S born :=
  RG.call hl (at_list ho) hw (opOK_all hb) hq (hk _ fun _ _ h => h) hnf
end
attribute [go_sem] OpK NewK StoreK CallK ev_tmp ev_const ev_func put_some put_none v_move v_assign v_bin v_un v_convert v_field v_index v_makeFunc v_nilCheck v_fieldAddr v_indexAddr v_load load_ptr v_pick pick_true pick_false v_extract extract_tuple b_add b_sub b_mul b_rem b_eql b_neq b_lss b_leq b_gtr b_geq b_and b_or b_shl b_shr b_not b_neg c_value call_func call_meth c_invoke i_prt n_prt n_ptr low_get wrap_i64 heapL_addO heapL_putO heapL_put Option.join_some heapL_get heapL_next geo_len geo_size geo_all splice_geo cells_agg cells_int cells_bool cells_ptr cells_slice cells_iface cells_func cells_prt cells_hnd List.getElem?_cons_zero List.getElem?_cons_succ Array.toArray_toList if_true if_false List.getElem?_toArray List.length_cons List.length_nil List.map_toArray List.map_cons List.map_nil List.append_toArray List.cons_append List.nil_append true_and List.getD_cons_zero List.getD_cons_succ List.set_cons_zero List.set_cons_succ newA convertA fieldAddrA indexAddrA fieldA indexA partA lenA storeOp storeA loadA_eq loadR_cell loadR_sub Int.toNat_natCast
attribute [go_sem high] loadR_all
attribute [go_sem] v_iface iface_prt fill1_agg eq_self and_false false_and List.drop_succ_cons List.drop_zero List.take_succ_cons List.take_zero splice_succ splice_cons splice_nil cellB_int cellB_bool cellB_ptr cellB_slice cellB_iface cellB_func cellB_hnd cellB_prt cellB_ni cellB_nf List.size_toArray List.all_cons List.all_nil Bool.and_true cast0 cast1 Int.cast_ofNat_Int decide_true decide_false b_eqp b_eqh b_eqi b_nei b_eqr b_ner b_neb cond_true cond_false Option.isNone_some Option.isNone_none Bool.not_true Bool.not_false v_len v_build v_slice buildA fill_cons fill_nil fill1_int fill1_bool fill1_slice zerosL Option.map_some
attribute [go_sem] and_true Nat.le_refl Nat.zero_add
attribute [go_sem_proc] Nat.reduceLT Nat.reduceGT Nat.reduceEqDiff Int.reduceNatCast Int.reduceEq Int.reduceNe Nat.reduceDiv Nat.reduceMod Int.reduceTDiv Int.reduceTMod Nat.reduceAdd Nat.reduceLeDiff Nat.reduceMul Nat.reduceSub Int.reduceLE Int.reduceLT Int.reduceToNat Int.reduceAdd Int.reduceSub Int.reduceMul Int.reduceBEq Int.reduceBNe Int.reduceNeg
end Go.Proofs.Ytjdbknnacaacaaa
