/-
  The abstract machine over this program's memories and direct ports: what a state of them is in a world; what their functions do to it.
  Conditions: where a step count is told, it is below 10^12.
-/
import Derived.Test.YtceddijolfpppaaAx11
import Derived.Test.YtceddijolfpppaaBytes
import Derived.Test.YtceddijolfpppaaTell
namespace Go.Proofs.Ytceddijolfpppaa
open Go Go.RowKit
set_option linter.unusedSimpArgs false
set_option linter.unusedVariables false

/-- Two numbers in one. -/
def isq : Nat → Nat
  | 0 => 0
  | n + 1 => if (isq n + 1) * (isq n + 1) ≤ n + 1 then isq n + 1 else isq n
theorem isq_spec : ∀ n, isq n * isq n ≤ n ∧ n < (isq n + 1) * (isq n + 1)
  | 0 => by simp [isq]
  | n + 1 => by
    obtain ⟨h1, h2⟩ := isq_spec n
    unfold isq
    split
    · rename_i h
      refine ⟨h, ?_⟩
      have : (isq n + 1 + 1) * (isq n + 1 + 1) = (isq n + 1) * (isq n + 1) + 2 * (isq n + 1) + 1 := by
        simp only [Nat.add_mul, Nat.mul_add]; omega
      omega
    · omega
def code (a b : Nat) : Nat := (a + b) * (a + b) + a
theorem isq_code (a b : Nat) : isq (code a b) = a + b := by
  obtain ⟨h1, h2⟩ := isq_spec (code a b)
  have hc : code a b < (a + b + 1) * (a + b + 1) := by
    unfold code
    have : (a + b + 1) * (a + b + 1) = (a + b) * (a + b) + 2 * (a + b) + 1 := by simp only [Nat.add_mul, Nat.mul_add]; omega
    omega
  have hd : (a + b) * (a + b) ≤ code a b := by unfold code; omega
  rcases Nat.lt_trichotomy (isq (code a b)) (a + b) with h | h | h
  · have := Nat.mul_le_mul (show isq (code a b) + 1 ≤ a + b by omega) (show isq (code a b) + 1 ≤ a + b by omega)
    omega
  · exact h
  · have := Nat.mul_le_mul (show a + b + 1 ≤ isq (code a b) by omega) (show a + b + 1 ≤ isq (code a b) by omega)
    omega
/-- The further numbers that a handle's slack holds. -/
def aux (s : Nat) (i : Nat) : Nat := if i = 1 then s - isq s * isq s else isq s - (s - isq s * isq s)
theorem aux_1 (a b : Nat) : aux (code a b) 1 = a := by
  unfold aux
  rw [if_pos rfl, isq_code]
  unfold code; omega
theorem aux_2 (a b : Nat) : aux (code a b) 2 = b := by
  unfold aux
  rw [if_neg (by decide), isq_code]
  unfold code; omega

/-- A memory: words, bytes. A direct port: its memory, its thread, its steps. -/
inductive Ob where
  | mem (ws : List UInt64) (bs : List UInt8)
  | port (m : Nat) (me : Int) (steps : Nat)

abbrev St := List Ob

def hndV (k : Nat) : Value := .pointer (some ⟨VB + k, 0, none⟩)
def prtV (k : Nat) : Value := .iface 33 (hndV k)

def obBlk (F : Emb) (k : Nat) : Ob → List Nat
  | .mem _ _ => [F.blk (VB + k), aux (F.slack (VB + k)) 1, aux (F.slack (VB + k)) 2]
  | .port _ _ _ => [F.blk (VB + k), aux (F.slack (VB + k)) 1]

def obAt (F : Emb) (S : St) (w : World) (k : Nat) : Ob → Prop
  | .mem ws bs => ∃ pw pb, MemAt w ⟨F.blk (VB + k), aux (F.slack (VB + k)) 1, aux (F.slack (VB + k)) 2, pw, pb⟩ ws bs
  | .port m me steps => (∃ td, DirAt w ⟨F.blk (VB + k), aux (F.slack (VB + k)) 1⟩ (F.blk (VB + m)) me td steps) ∧ ∃ ws bs, S[m]? = some (Ob.mem ws bs)

structure Rep (F : Emb) (S : St) (w : World) : Prop where
  base : ∀ k ob, S[k]? = some ob → F.base (VB + k) = 0
  at' : ∀ k ob, S[k]? = some ob → obAt F S w k ob
  apart : ∀ k k' ob ob', k ≠ k' → S[k]? = some ob → S[k']? = some ob' → ∀ b ∈ obBlk F k ob, b ∉ obBlk F k' ob'

def fpS (F : Emb) (S : St) (b : Nat) : Prop := ∃ k ob, S[k]? = some ob ∧ b ∈ obBlk F k ob

theorem obAt_block {F : Emb} {S : St} {w : World} {k : Nat} {ob : Ob} (h : obAt F S w k ob) : ∀ b ∈ obBlk F k ob, ∃ o, blk w b = some o := by
  intro b hb
  cases ob with
  | mem ws bs =>
    obtain ⟨pw, pb, h⟩ := h
    simp only [obBlk, List.mem_cons, List.not_mem_nil, or_false] at hb
    rcases hb with rfl | rfl | rfl
    · exact ⟨_, h.hm⟩
    · exact ⟨_, h.hw⟩
    · exact ⟨_, h.hb⟩
  | port m me steps =>
    obtain ⟨⟨td, h⟩, _⟩ := h
    simp only [obBlk, List.mem_cons, List.not_mem_nil, or_false] at hb
    rcases hb with rfl | rfl
    · exact ⟨_, h.hd⟩
    · exact ⟨_, h.hv⟩

theorem obAt_kept {F : Emb} {S : St} {w w' : World} {k : Nat} {ob : Ob} (h : obAt F S w k ob) (hk : ∀ b ∈ obBlk F k ob, w'.heap[b]? = w.heap[b]?) : obAt F S w' k ob := by
  cases ob with
  | mem ws bs =>
    obtain ⟨pw, pb, h⟩ := h
    exact ⟨pw, pb, ⟨(hk _ (by simp [obBlk])).trans h.hm, (hk _ (by simp [obBlk])).trans h.hw, (hk _ (by simp [obBlk])).trans h.hb, h.wl, h.bl⟩⟩
  | port m me steps =>
    obtain ⟨⟨td, h⟩, h2⟩ := h
    exact ⟨⟨td, (hk _ (by simp [obBlk])).trans h.hd, (hk _ (by simp [obBlk])).trans h.hv⟩, h2⟩

theorem Same.ob {F F' : Emb} {S : St} (hs : Same (fun n => VB ≤ n ∧ n < VB + S.length) F F') {k : Nat} {ob : Ob} (hk : S[k]? = some ob) : F.blk (VB + k) = F'.blk (VB + k) ∧ F.base (VB + k) = F'.base (VB + k) ∧ F.slack (VB + k) = F'.slack (VB + k) := by
  have := (List.getElem?_eq_some_iff.1 hk).1
  exact hs (VB + k) ⟨by omega, by omega⟩

theorem obBlk_same {F F' : Emb} {S : St} (hs : Same (fun n => VB ≤ n ∧ n < VB + S.length) F F') {k : Nat} {ob : Ob} (hk : S[k]? = some ob) : obBlk F' k ob = obBlk F k ob := by
  obtain ⟨h1, h2, h3⟩ := hs.ob hk
  cases ob <;> simp [obBlk, h1, h3]

theorem obAt_same {F F' : Emb} {S : St} {w : World} (hs : Same (fun n => VB ≤ n ∧ n < VB + S.length) F F') {k : Nat} {ob : Ob} (hk : S[k]? = some ob) (h : obAt F S w k ob) : obAt F' S w k ob := by
  obtain ⟨h1, h2, h3⟩ := hs.ob hk
  cases ob with
  | mem ws bs => unfold obAt at h ⊢; rw [← h1, ← h3]; exact h
  | port m me steps =>
    obtain ⟨hd, ws, bs, hm⟩ := h
    obtain ⟨k1, _, _⟩ := hs.ob hm
    show (∃ td, DirAt w ⟨F'.blk (VB + k), aux (F'.slack (VB + k)) 1⟩ (F'.blk (VB + m)) me td steps) ∧ _
    rw [← h1, ← h3, ← k1]
    exact ⟨hd, ws, bs, hm⟩

theorem Rep.same {F F' : Emb} {S : St} {w : World} (hs : Same (fun n => VB ≤ n ∧ n < VB + S.length) F F') (h : Rep F S w) : Rep F' S w ∧ ∀ b, fpS F' S b → fpS F S b :=
  ⟨⟨fun k ob hk => by rw [← (hs.ob hk).2.1]; exact h.base k ob hk, fun k ob hk => obAt_same hs hk (h.at' k ob hk), fun k k' ob ob' hne hk hk' b hb => by
    rw [obBlk_same hs hk] at hb; rw [obBlk_same hs hk']; exact h.apart k k' ob ob' hne hk hk' b hb⟩, fun b ⟨k, ob, hk, hb⟩ => ⟨k, ob, hk, by rw [obBlk_same hs hk] at hb; exact hb⟩⟩

/-- Some objects turn, their blocks stay theirs. -/
theorem Rep.turn {F : Emb} {S S' : St} {w w' : World} {X : List Nat} {T : List Nat} (h : Rep F S w) (hx : Ext X w w') (hlen : S'.length = S.length) (hX : ∀ x ∈ X, ∃ k ∈ T, ∃ ob, S[k]? = some ob ∧ x ∈ obBlk F k ob)
    (hold : ∀ k, k ∉ T → S'[k]? = S[k]?) (hblk : ∀ k ob ob', S[k]? = some ob → S'[k]? = some ob' → obBlk F k ob' = obBlk F k ob) (hmem : ∀ k : Nat, (∃ ws bs, S[k]? = some (Ob.mem ws bs)) → ∃ ws bs, S'[k]? = some (Ob.mem ws bs)) (hnew : ∀ k ∈ T, ∀ ob, S'[k]? = some ob → obAt F S' w' k ob) :
    Rep F S' w' ∧ Kept w (fpS F S) w' ∧ ∀ b, fpS F S' b → fpS F S b := by
  have hob : ∀ k ob', S'[k]? = some ob' → ∃ ob, S[k]? = some ob := fun k ob' hk => by
    have := (List.getElem?_eq_some_iff.1 hk).1
    exact ⟨_, List.getElem?_eq_getElem (by omega)⟩
  refine ⟨⟨fun k ob' hk => ?_, fun k ob' hk => ?_, fun k k' ob1 ob2 hne hk hk' b hb => ?_⟩, ⟨hx.os, hx.tape, hx.output, hx.size, fun b hb hn => hx.block b hb (fun hbx => ?_)⟩, fun b ⟨k, ob', hk, hb⟩ => ?_⟩
  · obtain ⟨ob, ho⟩ := hob k ob' hk
    exact h.base k ob ho
  · by_cases hT : k ∈ T
    · exact hnew k hT ob' hk
    · rw [hold k hT] at hk
      have h1 := obAt_kept (w' := w') (h.at' k ob' hk) (fun b hb => by
        obtain ⟨o, ho⟩ := obAt_block (h.at' k ob' hk) b hb
        refine hx.block b (blk_lt ho) (fun hbx => ?_)
        obtain ⟨k', hk', ob, ho', hb'⟩ := hX b hbx
        exact h.apart k k' ob' ob (by rintro rfl; exact hT hk') hk ho' b hb hb')
      cases ob' with
      | mem ws bs => exact h1
      | port m me steps => exact ⟨h1.1, hmem m h1.2⟩
  · obtain ⟨o1, h1⟩ := hob k ob1 hk
    obtain ⟨o2, h2⟩ := hob k' ob2 hk'
    rw [hblk k o1 ob1 h1 hk] at hb
    rw [hblk k' o2 ob2 h2 hk']
    exact h.apart k k' o1 o2 hne h1 h2 b hb
  · obtain ⟨k, _, ob, ho, hb'⟩ := hX b hbx
    exact hn ⟨k, ob, ho, hb'⟩
  · obtain ⟨ob, ho⟩ := hob k ob' hk
    exact ⟨k, ob, ho, by rw [hblk k ob ob' ho hk] at hb; exact hb⟩

/-- A new object lies there. -/
def Emb.more (F : Emb) (n b0 b1 b2 : Nat) : Emb := ⟨fun m => if m = n then b0 else F.blk m, fun m => if m = n then 0 else F.base m, fun m => if m = n then code b1 b2 else F.slack m⟩

theorem Rep.more {F : Emb} {S : St} {w w' : World} {ob : Ob} {b0 b1 b2 : Nat} (h : Rep F S w) (hx : Ext [] w w') (h0 : w.heap.size ≤ b0) (h1 : w.heap.size ≤ b1) (h2 : (∃ ws bs, ob = Ob.mem ws bs) → w.heap.size ≤ b2) (hnew : obAt (F.more (VB + S.length) b0 b1 b2) (S ++ [ob]) w' S.length ob) :
    Same (fun n => n < VB + S.length) F (F.more (VB + S.length) b0 b1 b2) ∧ Rep (F.more (VB + S.length) b0 b1 b2) (S ++ [ob]) w' ∧ Kept w (fpS F S) w' ∧ ∀ b, fpS (F.more (VB + S.length) b0 b1 b2) (S ++ [ob]) b → fpS F S b ∨ w.heap.size ≤ b := by
  have hs : Same (fun n => n < VB + S.length) F (F.more (VB + S.length) b0 b1 b2) := fun n hn => by
    have : n ≠ VB + S.length := by omega
    simp [Emb.more, this]
  have hs' : Same (fun n => VB ≤ n ∧ n < VB + S.length) F (F.more (VB + S.length) b0 b1 b2) := hs.mono (fun n hn => hn.2)
  have hget : ∀ k o, (S ++ [ob])[k]? = some o → (k = S.length ∧ o = ob) ∨ S[k]? = some o := fun k o hk => by
    by_cases hlt : k < S.length
    · rw [List.getElem?_append_left hlt] at hk; exact .inr hk
    · have : k = S.length := by have := (List.getElem?_eq_some_iff.1 hk).1; simp at this; omega
      subst this
      simp at hk
      exact .inl ⟨rfl, hk.symm⟩
  have hnb : ∀ b ∈ obBlk (F.more (VB + S.length) b0 b1 b2) S.length ob, w.heap.size ≤ b := fun b hb => by
    cases ob with
    | mem ws bs =>
      simp only [obBlk, Emb.more, if_true, List.mem_cons, List.not_mem_nil, or_false] at hb
      have := h2 ⟨ws, bs, rfl⟩
      rw [aux_1, aux_2] at hb
      rcases hb with rfl | rfl | rfl <;> simp_all
    | port m me steps =>
      simp only [obBlk, Emb.more, if_true, List.mem_cons, List.not_mem_nil, or_false] at hb
      rw [aux_1] at hb
      rcases hb with rfl | rfl <;> simp_all
  have hob : ∀ k o, S[k]? = some o → ∀ b ∈ obBlk (F.more (VB + S.length) b0 b1 b2) k o, b ∈ obBlk F k o ∧ b < w.heap.size := fun k o hk b hb => by
    rw [obBlk_same hs' hk] at hb
    obtain ⟨o', ho'⟩ := obAt_block (h.at' k o hk) b hb
    exact ⟨hb, blk_lt ho'⟩
  refine ⟨hs, ⟨fun k o hk => ?_, fun k o hk => ?_, fun k k' o o' hne hk hk' b hb hb' => ?_⟩, ⟨hx.os, hx.tape, hx.output, hx.size, fun b hb _ => hx.block b hb (by simp)⟩, fun b ⟨k, o, hk, hb⟩ => ?_⟩
  · rcases hget k o hk with ⟨rfl, rfl⟩ | hk
    · simp [Emb.more]
    · rw [← (hs'.ob hk).2.1]; exact h.base k o hk
  · rcases hget k o hk with ⟨rfl, rfl⟩ | hk
    · exact hnew
    · have h3 := obAt_kept (w' := w') (obAt_same hs' hk (h.at' k o hk)) (fun b hb => hx.block b (hob k o hk b hb).2 (by simp))
      cases o with
      | mem ws bs => exact h3
      | port m me steps =>
        obtain ⟨h4, ws, bs, h5⟩ := h3
        refine ⟨h4, ws, bs, ?_⟩
        rw [List.getElem?_append_left (List.getElem?_eq_some_iff.1 h5).1]; exact h5
  · rcases hget k o hk with ⟨e1, e2⟩ | hk1 <;> rcases hget k' o' hk' with ⟨e3, e4⟩ | hk2
    · exact hne (e1.trans e3.symm)
    · rw [e1, e2] at hb; have := hnb b hb; have := (hob _ _ hk2 b hb').2; omega
    · rw [e3, e4] at hb'; have := hnb b hb'; have := (hob _ _ hk1 b hb).2; omega
    · exact h.apart k k' o o' hne hk1 hk2 b (hob k o hk1 b hb).1 (hob k' o' hk2 b hb').1
  · rcases hget k o hk with ⟨rfl, rfl⟩ | hk
    · exact .inr (hnb b hb)
    · exact .inl ⟨k, o, hk, (hob k o hk b hb).1⟩

/-- An access by a port. -/
def accS (S : St) (p m : Nat) (me : Int) (steps : Nat) (ws : List UInt64) (bs : List UInt8) : St := (S.set p (.port m me steps)).set m (.mem ws bs)

/-- What the functions do that are known by what they do. -/
inductive Prim : FuncId → Array Value → St → Value → St → Prop
  | pure {f args v S} (h : ∀ w, Calls Try.prog f args w (Ret v (Ext [] w))) (ha : args.all plainB = true) (hv : plainB v = true) : Prim f args S v S
  | word {k : Nat} {ws : List UInt64} {bs : List UInt8} {S : St} (n : Int) (h : S[k]? = some (Ob.mem ws bs)) : Prim 30 #[hndV k, .int .i64 n] S (.int .u64 ((wT 1 n 0 ws).toNat : Int)) S
  | do' {k : Nat} {ws : List UInt64} {bs : List UInt8} {S : St} (c : Nat) (n : Int) (A B : UInt64) (h : S[k]? = some (Ob.mem ws bs)) (h1 : 1 ≤ c) (h4 : c ≤ 4) :
      Prim 85 #[hndV k, accV c n A B] S (.tuple #[.int .u64 ((wT c n A ws).toNat : Int), .bool (wAt ws n).isSome]) (S.set k (.mem (wS c n A B ws) bs))
  | load {p m : Nat} {me : Int} {steps : Nat} {ws : List UInt64} {bs : List UInt8} {S : St} (n : Int) (h : S[p]? = some (Ob.port m me steps)) (hm : S[m]? = some (Ob.mem ws bs)) (hs : steps ≤ 1000000000000) :
      Prim 44 #[hndV p, .int .i64 n] S (.int .u64 ((wT 1 n 0 ws).toNat : Int)) (accS S p m me (steps + 1) (wS 1 n 0 0 ws) bs)
  | store {p m : Nat} {me : Int} {steps : Nat} {ws : List UInt64} {bs : List UInt8} {S : St} (n : Int) (A : UInt64) (h : S[p]? = some (Ob.port m me steps)) (hm : S[m]? = some (Ob.mem ws bs)) (hs : steps ≤ 1000000000000) :
      Prim 52 #[hndV p, .int .i64 n, .int .u64 (A.toNat : Int)] S (.tuple #[]) (accS S p m me (steps + 1) (wS 2 n A 0 ws) bs)
  | cas {p m : Nat} {me : Int} {steps : Nat} {ws : List UInt64} {bs : List UInt8} {S : St} (n : Int) (A B : UInt64) (h : S[p]? = some (Ob.port m me steps)) (hm : S[m]? = some (Ob.mem ws bs)) (hs : steps ≤ 1000000000000) :
      Prim 174 #[hndV p, .int .i64 n, .int .u64 (A.toNat : Int), .int .u64 (B.toNat : Int)] S (.bool (wT 3 n A ws == 1)) (accS S p m me (steps + 1) (wS 3 n A B ws) bs)
  | add {p m : Nat} {me : Int} {steps : Nat} {ws : List UInt64} {bs : List UInt8} {S : St} (n : Int) (A : UInt64) (h : S[p]? = some (Ob.port m me steps)) (hm : S[m]? = some (Ob.mem ws bs)) (hs : steps ≤ 1000000000000) :
      Prim 173 #[hndV p, .int .i64 n, .int .u64 (A.toNat : Int)] S (.int .u64 ((wT 4 n A ws).toNat : Int)) (accS S p m me (steps + 1) (wS 4 n A 0 ws) bs)
  | self {p m : Nat} {me : Int} {steps : Nat} {S : St} (h : S[p]? = some (Ob.port m me steps)) : Prim 177 #[hndV p] S (.int .i64 me) S
  | steps {p m : Nat} {me : Int} {steps : Nat} {S : St} (h : S[p]? = some (Ob.port m me steps)) : Prim 29 #[hndV p] S (.int .i64 (steps : Int)) S
  | mcopy {k : Nat} {ws : List UInt64} {bs : List UInt8} {S : St} (h : S[k]? = some (Ob.mem ws bs)) : Prim 70 #[hndV k] S (hndV S.length) (S ++ [.mem ws bs])
  | msame {k j : Nat} {ws us : List UInt64} {bs cs : List UInt8} {S : St} (h : S[k]? = some (Ob.mem ws bs)) (h' : S[j]? = some (Ob.mem us cs)) : Prim 73 #[hndV k, hndV j] S (.bool (decide (ws = us) && decide (bs = cs))) S
  | byte {k : Nat} {ws : List UInt64} {bs : List UInt8} {S : St} (n : Int) (h : S[k]? = some (Ob.mem ws bs)) : Prim 79 #[hndV k, .int .i64 n] S (.int .u8 ((bT n bs).toNat : Int)) S
  | dget {k : Nat} {ws : List UInt64} {bs : List UInt8} {S : St} (n : Int) (A B : UInt64) (h : S[k]? = some (Ob.mem ws bs)) :
      Prim 85 #[hndV k, accV 5 n A B] S (.tuple #[.int .u64 ((bT n bs).toNat : Int), .bool (bAt bs n).isSome]) S
  | dput {k : Nat} {ws : List UInt64} {bs : List UInt8} {S : St} (n : Int) (A B : UInt64) (h : S[k]? = some (Ob.mem ws bs)) :
      Prim 85 #[hndV k, accV 6 n A B] S (.tuple #[.int .u64 0, .bool (bAt bs n).isSome]) (S.set k (.mem ws (bS n A.toUInt8 bs)))
  | get {p m : Nat} {me : Int} {steps : Nat} {ws : List UInt64} {bs : List UInt8} {S : St} (n : Int) (h : S[p]? = some (Ob.port m me steps)) (hm : S[m]? = some (Ob.mem ws bs)) (hs : steps ≤ 1000000000000) :
      Prim 175 #[hndV p, .int .i64 n] S (.int .u8 ((bT n bs).toNat : Int)) (accS S p m me (steps + 1) ws bs)
  | put {p m : Nat} {me : Int} {steps : Nat} {ws : List UInt64} {bs : List UInt8} {S : St} (n : Int) (b : UInt8) (h : S[p]? = some (Ob.port m me steps)) (hm : S[m]? = some (Ob.mem ws bs)) (hs : steps ≤ 1000000000000) :
      Prim 176 #[hndV p, .int .i64 n, .int .u8 (b.toNat : Int)] S (.tuple #[]) (accS S p m me (steps + 1) ws (bS n b bs))
  | tell {p m : Nat} {me : Int} {steps : Nat} {S : St} (cs : Array Value) (h : S[p]? = some (Ob.port m me steps)) (hc : plainB (.agg cs) = true) : Prim 178 #[hndV p, .agg cs] S (.tuple #[]) (S.set p (.port m me steps))
  | fresh {p m : Nat} {me : Int} {steps : Nat} {S : St} (h : S[p]? = some (Ob.port m me steps)) : Prim 84 #[hndV p] S (.tuple #[]) (S.set p (.port m me 0))
  | pnew {m : Nat} {me : Int} {ws : List UInt64} {bs : List UInt8} {S : St} (h : S[m]? = some (Ob.mem ws bs)) : Prim 19 #[hndV m, .int .i64 me] S (hndV S.length) (S ++ [.port m me 0])
  | mnew {S : St} (a b : Nat) (ha : a ≤ 2097152) (hb : b ≤ 1048576) : Prim 90 #[.int .i64 a, .int .i64 b] S (.tuple #[hndV S.length, .int .i64 0]) (S ++ [.mem (List.replicate a 0) (List.replicate b 0)])

theorem plain_args {args : Array Value} (F : Emb) (h : args.all plainB = true) : args.map (ren F) = args := by
  apply Array.ext
  · simp
  · intro i h1 h2
    simp only [Array.getElem_map]
    exact ren_plain F ((Array.all_eq_true.1 h) i h2)

theorem ren_hnd {F : Emb} {k : Nat} (hb : F.base (VB + k) = 0) : ren F (hndV k) = .pointer (some ⟨F.blk (VB + k), 0, none⟩) := by simp [hndV, adr, hb]

theorem Prim.len {f : FuncId} {args : Array Value} {S S' : St} {v : Value} (h : Prim f args S v S') : S.length ≤ S'.length := by
  cases h <;> simp [accS]

theorem hnd_hand (c k : Nat) (h : k < c) : Hand c (hndV k) := by
  intro F F' hs
  have := hs (VB + k) ⟨by omega, by omega⟩
  simp [hndV, adr, this.1, this.2.1]

theorem Prim.hand {f : FuncId} {args : Array Value} {S S' : St} {v : Value} (h : Prim f args S v S') : Hand S'.length v := by
  cases h with
  | pure h ha hv => exact Hand.plain hv
  | pnew h => exact hnd_hand _ _ (by simp)
  | mcopy h => exact hnd_hand _ _ (by simp)
  | mnew a b ha hb =>
    have h1 := hnd_hand (S ++ [Ob.mem (List.replicate a 0) (List.replicate b 0)]).length S.length (by simp)
    intro F F' hs
    simp only [ren_tuple, List.map_toArray, List.map_cons, List.map_nil, ren_int]
    rw [h1 F F' hs]
  | _ => exact Hand.plain (by first | rfl | simp [plainB])

theorem accS_get {S : St} {p m : Nat} {me : Int} {steps : Nat} {ws : List UInt64} {bs : List UInt8} {ob ob2 : Ob} (h : S[p]? = some ob) (hm : S[m]? = some ob2) (hne : p ≠ m) : (accS S p m me steps ws bs)[p]? = some (Ob.port m me steps) ∧ (accS S p m me steps ws bs)[m]? = some (Ob.mem ws bs) := by
  have h1 := (List.getElem?_eq_some_iff.1 h).1
  have h2 := (List.getElem?_eq_some_iff.1 hm).1
  unfold accS
  constructor
  · rw [List.getElem?_set_ne (Ne.symm hne), List.getElem?_set_self h1]
  · rw [List.getElem?_set_self (by simpa using h2)]
theorem accS_other {S : St} {p m k : Nat} {me : Int} {steps : Nat} {ws : List UInt64} {bs : List UInt8} (h1 : k ≠ p) (h2 : k ≠ m) : (accS S p m me steps ws bs)[k]? = S[k]? := by
  unfold accS
  rw [List.getElem?_set_ne (Ne.symm h2), List.getElem?_set_ne (Ne.symm h1)]

/-- What is said of a call that turns objects. -/
def Turned (F : Emb) (S S' : St) (v : Value) (w : World) (e : Ending) (w' : World) : Prop :=
  ∃ F', Same (fun n => n < VB + S.length) F F' ∧ e = .returned (ren F' v) ∧ Rep F' S' w' ∧ Kept w (fpS F S) w' ∧ ∀ b, fpS F' S' b → fpS F S b ∨ w.heap.size ≤ b

/-- Behind an access by a port. -/
theorem turned_acc {F : Emb} {S : St} {p m : Nat} {me : Int} {steps steps' : Nat} {ws ws' : List UInt64} {bs bs' : List UInt8} {w w' : World} {v td : Value} {pw pb : Array Value} (R : Rep F S w) (h : S[p]? = some (Ob.port m me steps)) (hm : S[m]? = some (Ob.mem ws bs)) (hv : ren F v = v)
    (hq0 : PS ⟨F.blk (VB + p), aux (F.slack (VB + p)) 1⟩ ⟨F.blk (VB + m), aux (F.slack (VB + m)) 1, aux (F.slack (VB + m)) 2, pw, pb⟩ me td steps' ws' bs' w w' ∨
      (DirAt w' ⟨F.blk (VB + p), aux (F.slack (VB + p)) 1⟩ (F.blk (VB + m)) me td steps' ∧ MemAt w' ⟨F.blk (VB + m), aux (F.slack (VB + m)) 1, aux (F.slack (VB + m)) 2, pw, pb⟩ ws' bs' ∧ Ext [aux (F.slack (VB + p)) 1, aux (F.slack (VB + m)) 2] w w')) : Turned F S (accS S p m me steps' ws' bs') v w (.returned v) w' := by
  have hq : DirAt w' ⟨F.blk (VB + p), aux (F.slack (VB + p)) 1⟩ (F.blk (VB + m)) me td steps' ∧ MemAt w' ⟨F.blk (VB + m), aux (F.slack (VB + m)) 1, aux (F.slack (VB + m)) 2, pw, pb⟩ ws' bs' ∧ Ext [aux (F.slack (VB + p)) 1, aux (F.slack (VB + m)) 1, aux (F.slack (VB + m)) 2] w w' := by
    rcases hq0 with ⟨h1, h2, h3⟩ | ⟨h1, h2, h3⟩
    · exact ⟨h1, h2, h3.mono (by simp)⟩
    · exact ⟨h1, h2, h3.mono (by simp)⟩
  clear hq0
  have hne : p ≠ m := by rintro rfl; rw [h] at hm; cases hm
  obtain ⟨g1, g2⟩ := accS_get (me := me) (steps := steps') (ws := ws') (bs := bs') h hm hne
  have hk : ∀ k ob, S[k]? = some ob → ∀ ob', (accS S p m me steps' ws' bs')[k]? = some ob' → obBlk F k ob' = obBlk F k ob := by
    intro k ob h1 ob' h2
    by_cases e1 : k = p
    · subst e1; rw [h] at h1; rw [g1] at h2; cases h1; cases h2; rfl
    · by_cases e2 : k = m
      · subst e2; rw [hm] at h1; rw [g2] at h2; cases h1; cases h2; rfl
      · rw [accS_other e1 e2, h1] at h2; cases h2; rfl
  obtain ⟨r1, r2, r3⟩ := R.turn (S' := accS S p m me steps' ws' bs') (T := [p, m]) hq.2.2 (by simp [accS]) (fun x hx => by
      simp only [List.mem_cons, List.not_mem_nil, or_false] at hx
      rcases hx with rfl | rfl | rfl
      · exact ⟨p, by simp, _, h, by simp [obBlk]⟩
      · exact ⟨m, by simp, _, hm, by simp [obBlk]⟩
      · exact ⟨m, by simp, _, hm, by simp [obBlk]⟩)
    (fun k hk => accS_other (fun e => hk (by simp [e])) (fun e => hk (by simp [e]))) (fun k ob ob' h1 h2 => hk k ob h1 ob' h2) (fun k ⟨ws1, bs1, h1⟩ => by
      by_cases e2 : k = m
      · subst e2; exact ⟨_, _, g2⟩
      · by_cases e1 : k = p
        · subst e1; rw [h] at h1; cases h1
        · exact ⟨ws1, bs1, by rw [accS_other e1 e2]; exact h1⟩) (fun k hk ob hob => by
      simp only [List.mem_cons, List.not_mem_nil, or_false] at hk
      rcases hk with rfl | rfl
      · rw [g1] at hob; cases hob; exact ⟨⟨td, hq.1⟩, _, _, g2⟩
      · rw [g2] at hob; cases hob; exact ⟨_, _, hq.2.1⟩)
  exact ⟨F, Same.refl _ _, by rw [hv], r1, r2, fun b hb => .inl (r3 b hb)⟩

/-- A port alone turns. -/
theorem turned_port {F : Emb} {S S' : St} {p m : Nat} {me : Int} {steps steps' : Nat} {w w' : World} {v : Value} (R : Rep F S w) (h : S[p]? = some (Ob.port m me steps)) (hS : S' = S.set p (.port m me steps')) (hv : ren F v = v)
    (hx : Ext [F.blk (VB + p), aux (F.slack (VB + p)) 1] w w') (hD : ∃ td, DirAt w' ⟨F.blk (VB + p), aux (F.slack (VB + p)) 1⟩ (F.blk (VB + m)) me td steps') : Turned F S S' v w (.returned v) w' := by
  subst hS
  obtain ⟨_, ws, bs, hm⟩ := R.at' _ _ h
  have hne : p ≠ m := by rintro rfl; rw [h] at hm; cases hm
  have hlt := (List.getElem?_eq_some_iff.1 h).1
  have g1 : (S.set p (.port m me steps'))[p]? = some (.port m me steps') := List.getElem?_set_self hlt
  have g2 : ∀ k, k ≠ p → (S.set p (.port m me steps'))[k]? = S[k]? := fun k hk => List.getElem?_set_ne (Ne.symm hk)
  obtain ⟨r1, r2, r3⟩ := R.turn (S' := S.set p (.port m me steps')) (T := [p]) hx (by simp) (fun x hx => by
      simp only [List.mem_cons, List.not_mem_nil, or_false] at hx
      rcases hx with rfl | rfl
      · exact ⟨p, by simp, _, h, by simp [obBlk]⟩
      · exact ⟨p, by simp, _, h, by simp [obBlk]⟩)
    (fun k hk => g2 k (fun e => hk (by simp [e]))) (fun k ob ob' h1 h2 => by
      by_cases e : k = p
      · subst e; rw [h] at h1; rw [g1] at h2; cases h1; cases h2; rfl
      · rw [g2 k e, h1] at h2; cases h2; rfl) (fun k ⟨ws1, bs1, h1⟩ => by
      by_cases e : k = p
      · subst e; rw [h] at h1; cases h1
      · exact ⟨ws1, bs1, by rw [g2 k e]; exact h1⟩) (fun k hk ob hob => by
      simp only [List.mem_cons, List.not_mem_nil, or_false] at hk
      subst hk
      rw [g1] at hob; cases hob
      exact ⟨hD, ws, bs, by rw [g2 m (Ne.symm hne)]; exact hm⟩)
  exact ⟨F, Same.refl _ _, by rw [hv], r1, r2, fun b hb => .inl (r3 b hb)⟩

theorem turned_still {F : Emb} {S : St} {w w' : World} {v : Value} (R : Rep F S w) (hv : ren F v = v) (hx : Ext [] w w') : Turned F S S v w (.returned v) w' :=
  ⟨F, Same.refl _ _, by rw [hv], ⟨R.base, fun k ob hk => obAt_kept (R.at' k ob hk) (fun b hb => by obtain ⟨o, ho⟩ := obAt_block (R.at' k ob hk) b hb; exact hx.block b (blk_lt ho) (by simp)), R.apart⟩,
    ⟨hx.os, hx.tape, hx.output, hx.size, fun b hb _ => hx.block b hb (by simp)⟩, fun b hb => .inl hb⟩

end Go.Proofs.Ytceddijolfpppaa
