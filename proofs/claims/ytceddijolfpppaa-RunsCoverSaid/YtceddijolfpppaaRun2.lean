/-
  A run of the abstract machine that the kernel carries out, part 2: operations.
  No condition: definitions and laws.
-/
import Derived.Test.YtceddijolfpppaaRun1
namespace Go.Proofs.Ytceddijolfpppaa
open Go Go.RowKit
set_option linter.unusedSimpArgs false
set_option linter.unusedVariables false

section
variable {P : Program} {e : Operand → Value} {rows : List (Option Blk)}

/-! ### values, with lists in place of arrays -/
def partK (P : Program) (t : TypeId) (cs : List Value) (off : Nat) : Option Value := match tyAgg P t, tySize P t with
  | some true, some s => some (.agg ⟨(cs.drop off).take s⟩)
  | some false, _ => cs[off]?
  | _, _ => none
theorem partK_eq {t : TypeId} {cs : Array Value} {off : Nat} : partK P t cs.toList off = partA P t cs off := by
  unfold partK partA
  rcases tyAgg P t with _ | _ | _ <;> rcases tySize P t with _ | s <;> try rfl
  · simp
  · simp
  · simp only [Option.some.injEq, Value.agg.injEq]
    apply Array.ext'
    simp [Array.toList_extract, List.extract_eq_take_drop]
def fieldK (P : Program) (t : TypeId) (x : Value) (i : Nat) : Option Value := match x, tyField P t i with
  | .agg cs, some (off, ft) => partK P ft cs.toList off
  | _, _ => none
theorem fieldK_eq {t : TypeId} {x : Value} {i : Nat} : fieldK P t x i = fieldA P t x i := by
  unfold fieldK fieldA
  cases x with
  | agg cs => cases tyField P t i with
    | none => rfl
    | some p => obtain ⟨off, ft⟩ := p; exact partK_eq
  | _ => cases tyField P t i <;> rfl
def indexK (P : Program) (t : TypeId) (x i : Value) : Option Value := match x, i, tyArray P t with
  | .agg cs, .int _ n, some (_, el) => (match tySize P el with
    | some s => (match n with
      | .ofNat m => (match tyArray P t with | some (len, _) => (match Nat.ble (m + 1) len with | true => partK P el cs.toList (m * s) | false => none) | none => none)
      | .negSucc _ => none)
    | none => none)
  | _, _, _ => none
theorem indexK_eq {t : TypeId} {x i v : Value} (h : indexK P t x i = some v) : indexA P t x i = some v := by
  unfold indexK at h
  split at h
  · rename_i cs k n len el hta
    unfold indexA
    simp only [hta] at h ⊢
    split at h
    · rename_i s hs
      split at h
      · rename_i m
        split at h
        · rename_i hb
          have := Nat.le_of_ble_eq_true hb
          have hn : (Int.ofNat m).toNat = m := rfl
          have hc : 0 ≤ Int.ofNat m ∧ Int.ofNat m < (len : Int) := ⟨Int.natCast_nonneg m, Int.ofNat_lt.2 (by omega)⟩
          rw [partK_eq] at h
          simp only [hs, hc, and_self, if_true, hn]
          exact h
        · cases h
      · cases h
    · cases h
  · cases h
def valK (P : Program) (e : Operand → Value) (h : AHeap) (op : Op) : Option Value := match op with
  | .field t x i => fieldK P t (e x) i
  | .index t x i => (match indexK P t (e x) (e i) with | some v => some v | none => valA P e h op)
  | .makeFunc fn xs ys => some (.func fn ⟨xs.toList.map e⟩ ⟨ys.toList.map e⟩)
  | _ => valA P e h op
theorem valK_eq {h : AHeap} {op : Op} {v : Value} (hv : valK P e h op = some v) : valA P e h op = some v := by
  unfold valK at hv
  split at hv
  · rw [fieldK_eq] at hv; exact hv
  · split at hv
    · rename_i v' hv'; cases hv; exact indexK_eq hv'
    · exact hv
  · cases hv
    simp only [valA, Option.some.injEq, Value.func.injEq, true_and]
    constructor <;> (apply Array.ext'; simp)
  · exact hv

/-- A call: which function, with which arguments. -/
def callK (P : Program) (e : Operand → Value) : Op → Option (FuncId × List Value)
  | .call { callee := .value f, args, .. } => (match e f with
    | .func (.func g) xs ys => some (g, xs.toList ++ (args.toList.map e ++ ys.toList))
    | _ => none)
  | .call { callee := .invoke r name, args, .. } => (match e r with
    | .iface t (.pointer p) => (match methA P t name with | some f => some (f, .pointer p :: args.toList.map e) | none => none)
    | _ => none)
  | _ => none
theorem callK_eq {op : Op} {f : FuncId} {args : List Value} (h : callK P e op = some (f, args)) : callA P e op = some (f, args.toArray) := by
  unfold callK at h
  split at h
  · split at h
    · rename_i g xs ys hf
      cases h
      simp only [callA, hf, Option.some.injEq, Prod.mk.injEq, true_and]
      apply Array.ext'; simp
    · cases h
  · split at h
    · rename_i t p hr
      split at h
      · rename_i f' hm
        cases h
        simp only [callA, hr, hm, Option.some.injEq, Prod.mk.injEq, true_and]
        apply Array.ext'; simp
      · cases h
    · cases h
  · cases h

/-! ### what writes rows -/
def storeL (P : Program) (l : List (Option Blk)) (t : TypeId) (a : Addr) (v : Value) : Option (List (Option Blk)) := match (l[a.block]?).join, tySize P t with
  | some b, some s =>
    if a.spot = none ∧ b.ro = false then
      (match v with
      | .agg cs => if cs.toList.length = s ∧ a.off + s ≤ b.cells.length ∧ cs.toList.all cellB = true then some (l.set a.block (some { b with cells := spliceA b.cells a.off cs.toList })) else none
      | .tuple _ => none
      | v => if s = 1 ∧ a.off < b.cells.length then some (l.set a.block (some { b with cells := b.cells.set a.off v })) else none)
    else none
  | _, _ => none
theorem row_lt {l : List (Option Blk)} {n : Nat} {b : Blk} (h : (l[n]?).join = some b) : n < l.length := by
  rcases Nat.lt_or_ge n l.length with h' | h'
  · exact h'
  · rw [List.getElem?_eq_none h'] at h; cases h
theorem storeL_eq {l l' : List (Option Blk)} {t : TypeId} {a : Addr} {v : Value} (h : storeL P l t a v = some l') : storeA P (heapL l) t a v = some (heapL l') := by
  unfold storeL at h
  unfold storeA
  rw [heapL_get]
  split at h
  · rename_i b s hb hs
    have hlt := row_lt hb
    simp only [hb, hs]
    split at h
    · rename_i hc
      rw [if_pos hc]
      cases v with
      | agg cs =>
        simp only at h ⊢
        split at h
        · rename_i hc2
          rw [if_pos (by simpa using hc2)]
          cases h
          rw [heapL_put _ _ _ hlt]
        · cases h
      | tuple cs => cases h
      | _ =>
        simp only at h ⊢
        split at h
        · rename_i hc2
          cases h
          rw [if_pos hc2, heapL_put _ _ _ hlt]
        · cases h
    · cases h
  · cases h

def wrL (P : Program) (e : Operand → Value) (l : List (Option Blk)) : Op → Option (Value × List (Option Blk))
  | .store t x y => (match e x with | .pointer (some a) => (match storeL P l t a (e y) with | some l' => some (undef, l') | none => none) | _ => none)
  | .call { callee := .builtin .append, args, argTypes } => (match args.toList, argTypes.toList with
    | [x, y], [t, t'] => if t = t' then (match e x, tySlice P t, e y with
      | .slice none 0 0, some el, .slice _ 0 _ => (match tySize P el with | some _ => some (.slice none 0 0, l) | none => none)
      | .slice (some a) sl sc, some el, .slice b n c => (match tySize P el with
        | some s => if sl + n ≤ sc then (match n, cellsA (heapL l) s (.slice b n c), (l[a.block]?).join with
            | 0, _, _ => some (.slice (some a) sl sc, l)
            | _, some news, some bk => if bk.ro = false ∧ a.spot = none ∧ a.off + sl * s + news.length ≤ bk.cells.length ∧ news.length = n * s ∧ news.all cellB = true then
                some (.slice (some a) (sl + n) sc, l.set a.block (some { bk with cells := spliceA bk.cells (a.off + sl * s) news })) else none
            | _, _, _ => none)
          else (match appendA P (heapL l) t (e x) (e y) with
            | some (cs, el, need, false) => (match Nat.ble l.length a.block with
              | true => none
              | false => some (.slice (some ⟨l.length, 0, none⟩) need need, (l.set a.block none) ++ [some ⟨cs, el, false, tySize P el⟩]))
            | _ => none)
        | none => none)
      | _, _, _ => none) else none
    | _, _ => none)
  | _ => none
theorem wrL_eq {l l' : List (Option Blk)} {op : Op} {v : Value} (h : wrL P e l op = some (v, l')) : wrA P e (heapL l) op = some (v, heapL l') := by
  unfold wrL at h
  split at h
  · rename_i t x y
    split at h
    · rename_i a ha
      split at h
      · rename_i l1 hl
        cases h
        simp only [wrA, ha, storeL_eq hl, Option.map_some]
      · cases h
    · cases h
  · rename_i args argTypes
    split at h
    · rename_i x y t t' hargs htys
      split at h
      · rename_i htt
        simp only [wrA, hargs, htys, if_pos htt]
        split at h
        · rename_i el q1 q2 he1 he2 he3
          split at h
          · rename_i s hs; cases h; simp only [he1, he2, he3, hs]
          · cases h
        · rename_i a sl sc el b n c he1 he2 he3
          simp only [he1, he2, he3]
          split at h
          · rename_i s hs
            simp only [hs]
            split at h
            · rename_i hle
              rw [if_pos hle]
              rw [heapL_get]
              cases n with
              | zero => cases h; rfl
              | succ n =>
                cases hc1 : cellsA (heapL l) s (.slice b (n + 1) c) with
                | none => rw [hc1] at h; cases h
                | some news =>
                  cases hb1 : (l[a.block]?).join with
                  | none => rw [hc1, hb1] at h; cases h
                  | some bk =>
                    rw [hc1, hb1] at h
                    simp only at h ⊢
                    split at h
                    · rename_i hcond
                      rw [if_pos hcond]
                      cases h
                      rw [heapL_put _ _ _ (row_lt hb1)]
                    · cases h
            · rename_i hle
              rw [if_neg hle]
              split at h
              · rename_i cs el' need hap
                split at h
                · cases h
                · rename_i hb
                  have hlt : a.block < l.length := by
                    rcases Nat.lt_or_ge a.block l.length with h' | h'
                    · exact h'
                    · rw [Nat.ble_eq_true_of_le h'] at hb; cases hb
                  cases h
                  rw [he1, he3] at hap
                  simp only [hap, heapL_next]
                  rw [heapL_putO _ _ _ hlt, heapL_addO]
              · cases h
          · cases h
        · cases h
      · cases h
    · cases h
  · cases h
end

/-! ### operations that are worked out once -/
/-- A frame. -/
abbrev FR (d : Nat) := TT Value d
def opF (d n : Nat) : Operand → Bx (FR d → Value)
  | .tmp i => gF undef d n i
  | .const v => ⟨fun _ => v⟩
  | .global _ => ⟨fun _ => undef⟩
  | .func f => ⟨fun _ => .func (.func f) #[] #[]⟩
def evF (d n : Nat) (t : FR d) (x : Operand) : Value := (opF d n x).f t
theorem evF_eq {d n : Nat} (h : n ≤ 2 ^ d) (t : FR d) : evF d n t = evA (absT d n t) := by
  funext x
  cases x with
  | tmp i => exact gF_eq h t i
  | _ => rfl
def dstF (d n : Nat) : Option Tmp → Bx (FR d → Value → FR d)
  | some i => sF d n i
  | none => ⟨fun t _ => t⟩
theorem dstF_eq {d n : Nat} (h : n ≤ 2 ^ d) (dst : Option Tmp) (t : FR d) (v : Value) : absT d n ((dstF d n dst).f t v) = putL dst v (absT d n t) := by
  cases dst with
  | none => rfl
  | some i => exact sF_eq h t i v
def argsF (d n : Nat) : List Operand → Bx (FR d → List Value)
  | [] => ⟨fun _ => []⟩
  | x :: l => ⟨fun t => (opF d n x).f t :: (argsF d n l).f t⟩
theorem argsF_eq {d n : Nat} (t : FR d) : ∀ l : List Operand, (argsF d n l).f t = l.map (evF d n t)
  | [] => rfl
  | x :: l => by
    show (opF d n x).f t :: (argsF d n l).f t = _
    rw [argsF_eq t l]; rfl

def kindN : IntKind → Nat
  | .i8 => 0 | .i16 => 1 | .i32 => 2 | .i64 => 3 | .u8 => 4 | .u16 => 5 | .u32 => 6 | .u64 => 7
def sameK (k k' : IntKind) : Bool := Nat.beq (kindN k) (kindN k')
theorem sameK_eq {k k' : IntKind} (h : sameK k k' = true) : k = k' := by
  have := Nat.eq_of_beq_eq_true h
  cases k <;> cases k' <;> first | rfl | (exact absurd this (by decide))
def wrF (k : IntKind) : Bx (Int → Int) := match k with
  | .i64 => ⟨fun z => match z with
    | .ofNat n => (match Nat.ble n 9223372036854775807 with | true => .ofNat n | false => IntKind.i64.wrap (.ofNat n))
    | .negSucc n => (match Nat.ble n 9223372036854775807 with | true => .negSucc n | false => IntKind.i64.wrap (.negSucc n))⟩
  | .u64 => ⟨fun z => match z with
    | .ofNat n => (match Nat.ble n 18446744073709551615 with | true => .ofNat n | false => IntKind.u64.wrap (.ofNat n))
    | .negSucc n => IntKind.u64.wrap (.negSucc n)⟩
  | k => ⟨fun z => k.wrap z⟩
theorem wrF_eq (k : IntKind) (z : Int) : (wrF k).f z = k.wrap z := by
  unfold wrF
  split
  · simp only
    cases z with
    | ofNat n =>
      simp only
      split
      · rename_i h
        have := Nat.le_of_ble_eq_true h
        exact (wrap_i64 (by simp only [Int.ofNat_eq_natCast]; omega) (by simp only [Int.ofNat_eq_natCast]; omega)).symm
      · rfl
    | negSucc n =>
      simp only
      split
      · rename_i h
        have := Nat.le_of_ble_eq_true h
        exact (wrap_i64 (by omega) (by omega)).symm
      · rfl
  · simp only
    cases z with
    | ofNat n =>
      simp only
      split
      · rename_i h
        have := Nat.le_of_ble_eq_true h
        rw [IntKind.wrap_u64]
        simp only [Int.ofNat_eq_natCast]; omega
      · rfl
    | negSucc n => rfl
  · rfl
def eqZ (a b : Int) : Bool := match a, b with
  | .ofNat a, .ofNat b => Nat.beq a b
  | .negSucc a, .negSucc b => Nat.beq a b
  | _, _ => false
theorem eqZ_eq (a b : Int) : eqZ a b = (a == b) := by
  rw [Bool.eq_iff_iff, beq_iff_eq]
  cases a <;> cases b <;> simp [eqZ] <;> omega
def leZ (a b : Int) : Bool := match a, b with
  | .ofNat a, .ofNat b => Nat.ble a b
  | .negSucc a, .negSucc b => Nat.ble b a
  | .negSucc _, .ofNat _ => true
  | .ofNat _, .negSucc _ => false
theorem leZ_eq (a b : Int) : leZ a b = decide (a ≤ b) := by
  rw [Bool.eq_iff_iff, decide_eq_true_eq]
  cases a <;> cases b <;> simp [leZ, Int.negSucc_eq] <;> omega
def notB (b : Bool) : Bool := match b with | true => false | false => true
theorem notB_eq (b : Bool) : notB b = !b := by cases b <;> rfl

def int2 (a b : Value) (K : IntKind → Int → Int → Value) (E : Option Value) : Option Value := match a, b with
  | .int k x, .int k' y => (match sameK k k' with | true => some (K k x y) | false => none)
  | _, _ => E
theorem int2_of {a b v : Value} {K : IntKind → Int → Int → Value} {E : Option Value} (h : int2 a b K E = some v) : (∃ k x y, a = .int k x ∧ b = .int k y ∧ v = K k x y) ∨ E = some v := by
  unfold int2 at h
  split at h
  · split at h
    · rename_i hk
      cases h
      obtain rfl := sameK_eq hk
      exact .inl ⟨_, _, _, rfl, rfl, rfl⟩
    · cases h
  · exact .inr h
def binF (P : Program) (op : BinOp) (ty : TypeId) (y : Operand) : Bx (Value → Value → Option Value) := match op with
  | .add => ⟨fun a b => int2 a b (fun k x z => .int k ((wrF k).f (Int.add x z))) none⟩
  | .sub => ⟨fun a b => int2 a b (fun k x z => .int k ((wrF k).f (Int.sub x z))) none⟩
  | .eql => ⟨fun a b => int2 a b (fun _ x z => .bool (eqZ x z)) (binOpA P .eql ty y a b)⟩
  | .neq => ⟨fun a b => int2 a b (fun _ x z => .bool (notB (eqZ x z))) (binOpA P .neq ty y a b)⟩
  | .leq => ⟨fun a b => int2 a b (fun _ x z => .bool (leZ x z)) none⟩
  | .lss => ⟨fun a b => int2 a b (fun _ x z => .bool (notB (leZ z x))) none⟩
  | .geq => ⟨fun a b => int2 a b (fun _ x z => .bool (leZ z x)) none⟩
  | .gtr => ⟨fun a b => int2 a b (fun _ x z => .bool (notB (leZ x z))) none⟩
  | op => ⟨fun a b => binOpA P op ty y a b⟩
def noShift : BinOp → Bool
  | .shl | .shr => false
  | _ => true
theorem binOpA_int {P : Program} {op : BinOp} {ty : TypeId} {y : Operand} {k : IntKind} {x z : Int} {v : Value} (h : intA op k x z = some v) (hs : noShift op = true) : binOpA P op ty y (.int k x) (.int k z) = some v := by
  unfold binOpA binA
  cases op <;> first | (exact absurd hs (by decide)) | (simp only [if_true, h])
theorem binF_eq {P : Program} {op : BinOp} {ty : TypeId} {y : Operand} {a b v : Value} (h : (binF P op ty y).f a b = some v) : binOpA P op ty y a b = some v := by
  unfold binF at h
  split at h
  · rcases int2_of h with ⟨k, x, z, rfl, rfl, rfl⟩ | h
    · exact binOpA_int (by simp only [intA, wrF_eq]; rfl) rfl
    · cases h
  · rcases int2_of h with ⟨k, x, z, rfl, rfl, rfl⟩ | h
    · exact binOpA_int (by simp only [intA, wrF_eq]; rfl) rfl
    · cases h
  · rcases int2_of h with ⟨k, x, z, rfl, rfl, rfl⟩ | h
    · exact binOpA_int (by simp only [intA, eqZ_eq]) rfl
    · exact h
  · rcases int2_of h with ⟨k, x, z, rfl, rfl, rfl⟩ | h
    · exact binOpA_int (by simp only [intA, eqZ_eq, notB_eq]; rfl) rfl
    · exact h
  · rcases int2_of h with ⟨k, x, z, rfl, rfl, rfl⟩ | h
    · exact binOpA_int (by simp only [intA, leZ_eq]) rfl
    · cases h
  · rcases int2_of h with ⟨k, x, z, rfl, rfl, rfl⟩ | h
    · exact binOpA_int (by simp only [intA, leZ_eq, notB_eq, ← decide_not, Int.not_le]) rfl
    · cases h
  · rcases int2_of h with ⟨k, x, z, rfl, rfl, rfl⟩ | h
    · exact binOpA_int (by simp only [intA, leZ_eq, ge_iff_le]) rfl
    · cases h
  · rcases int2_of h with ⟨k, x, z, rfl, rfl, rfl⟩ | h
    · exact binOpA_int (by simp only [intA, leZ_eq, notB_eq, ← decide_not, Int.not_le, gt_iff_lt]) rfl
    · cases h
  · exact h

/-- What a variable holds. -/
def cellF (h : AHeap) (x : Value) (K : Blk → Nat → Option Value) : Option Value := match x with
  | .pointer (some ⟨b, o, none⟩) => (match h.get b with | some bk => K bk o | none => none)
  | _ => none
def loadF (P : Program) (d n : Nat) (ty : TypeId) (x : Operand) : Bx (FR d → AHeap → Option Value) := match tyAgg P ty, tySize P ty with
  | some false, some _ => ⟨fun t h => cellF h ((opF d n x).f t) fun bk o => bk.cells[o]?⟩
  | some true, some s => ⟨fun t h => cellF h ((opF d n x).f t) fun bk o => match Nat.beq o 0 && Nat.beq bk.cells.length s with
    | true => some (.agg ⟨bk.cells⟩)
    | false => (match Nat.ble (o + s) bk.cells.length with | true => some (.agg ⟨(bk.cells.drop o).take s⟩) | false => none)⟩
  | _, _ => ⟨fun _ _ => none⟩
theorem loadF_eq {P : Program} {d n : Nat} {ty : TypeId} {x : Operand} {t : FR d} {h : AHeap} {v : Value} (hv : (loadF P d n ty x).f t h = some v) : valA P (evF d n t) h (.load ty x) = some v := by
  unfold loadF at hv
  simp only [valA]
  have key : ∀ {K : Blk → Nat → Option Value}, cellF h ((opF d n x).f t) K = some v → ∃ b o bk, evF d n t x = .pointer (some ⟨b, o, none⟩) ∧ h.get b = some bk ∧ K bk o = some v := by
    intro K hk
    unfold cellF at hk
    split at hk
    · rename_i b o hx
      split at hk
      · rename_i bk hb; exact ⟨b, o, bk, hx, hb, hk⟩
      · cases hk
    · cases hk
  split at hv
  · rename_i s h1 h2
    obtain ⟨b, o, bk, e1, e2, e3⟩ := key hv
    simp only [e1, loadA, e2, h1, h2, if_true, e3]
  · rename_i s h1 h2
    obtain ⟨b, o, bk, e1, e2, e3⟩ := key hv
    simp only [e1, loadA, e2, h1, h2, true_and]
    split at e3
    · rename_i hc
      simp only [Bool.and_eq_true] at hc
      have c1 := Nat.eq_of_beq_eq_true hc.1
      have c2 := Nat.eq_of_beq_eq_true hc.2
      rw [if_pos ⟨c1, c2⟩]
      exact e3
    · rename_i hc
      split at e3
      · rename_i hle
        have := Nat.le_of_ble_eq_true hle
        split
        · rename_i hcc
          rw [hcc.1, hcc.2, Nat.beq_refl, Nat.beq_refl] at hc
          cases hc
        · first | (rw [if_pos this]; exact e3) | exact e3
      · cases e3
  · cases hv

def valF (P : Program) (d n : Nat) (op : Op) : Bx (FR d → AHeap → Option Value) := match op with
  | .move x => ⟨fun t _ => some ((opF d n x).f t)⟩
  | .assign x => ⟨fun t _ => some ((opF d n x).f t)⟩
  | .pick c a b => ⟨fun t _ => match (opF d n c).f t with | .bool true => some ((opF d n a).f t) | .bool false => some ((opF d n b).f t) | _ => none⟩
  | .extract x i => ⟨fun t _ => match (opF d n x).f t with | .tuple vs => vs.toList[i]? | _ => none⟩
  | .binOp o ty x y _ => ⟨fun t _ => (binF P o ty y).f ((opF d n x).f t) ((opF d n y).f t)⟩
  | .convert s e x => (match tyConv P s e with
    | some k => ⟨fun t _ => match (opF d n x).f t with | .int _ z => some (.int k ((wrF k).f z)) | _ => none⟩
    | none => ⟨fun _ _ => none⟩)
  | .field ty x i => (match tyField P ty i with
    | some (off, ft) => (match tyAgg P ft, tySize P ft with
      | some true, some s => ⟨fun t _ => match (opF d n x).f t with | .agg cs => some (.agg ⟨(cs.toList.drop off).take s⟩) | _ => none⟩
      | some false, _ => ⟨fun t _ => match (opF d n x).f t with | .agg cs => cs.toList[off]? | _ => none⟩
      | _, _ => ⟨fun _ _ => none⟩)
    | none => ⟨fun _ _ => none⟩)
  | .fieldAddr ty x i => (match tyField P ty i with
    | some (off, ft) => (match tySize P ft with
      | some (_ + 1) => ⟨fun t _ => match (opF d n x).f t with | .pointer (some ⟨b, o, none⟩) => some (.pointer (some ⟨b, o + off, none⟩)) | _ => none⟩
      | _ => ⟨fun _ _ => none⟩)
    | none => ⟨fun _ _ => none⟩)
  | .load ty x => loadF P d n ty x
  | .makeFunc fn xs ys => ⟨fun t _ => some (.func fn ⟨(argsF d n xs.toList).f t⟩ ⟨(argsF d n ys.toList).f t⟩)⟩
  | .nilCheck x => ⟨fun t _ => match (opF d n x).f t with | .pointer (some a) => some (.pointer (some a)) | v => nilCheckA P v⟩
  | .makeInterface ty x => (match tyMk P ty with
    | true => ⟨fun t _ => some (.iface ty ((opF d n x).f t))⟩
    | false => ⟨fun _ _ => none⟩)
  | op => ⟨fun t h => valK P (evF d n t) h op⟩
theorem valF_eq {P : Program} {d n : Nat} {op : Op} {t : FR d} {h : AHeap} {v : Value} (hv : (valF P d n op).f t h = some v) : valA P (evF d n t) h op = some v := by
  unfold valF at hv
  split at hv
  · exact hv
  · exact hv
  · rename_i c a b
    simp only at hv
    split at hv
    · rename_i hc
      have hc' : evF d n t c = .bool true := hc
      simp only [valA, hc', if_true]; exact hv
    · rename_i hc
      have hc' : evF d n t c = .bool false := hc
      simp only [valA, hc', Bool.false_eq_true, if_false]; exact hv
    · cases hv
  · rename_i x i
    simp only at hv
    split at hv
    · rename_i vs hc
      have hc' : evF d n t x = .tuple vs := hc
      simp only [valA, hc']; simpa using hv
    · cases hv
  · exact binF_eq hv
  · rename_i s e x
    split at hv
    · rename_i k hk
      simp only at hv
      split at hv
      · rename_i k' z hc
        have hc' : evF d n t x = .int k' z := hc
        rw [wrF_eq] at hv
        simp only [valA, convertA, hc', hk]; exact hv
      · cases hv
    · cases hv
  · rename_i ty x i
    split at hv
    · rename_i off ft hf
      split at hv
      · rename_i s h1 h2
        simp only at hv
        split at hv
        · rename_i cs hc
          have hc' : evF d n t x = .agg cs := hc
          simp only [valA]
          rw [← fieldK_eq, hc']
          unfold fieldK partK
          simp only [hf, h1, h2]; exact hv
        · cases hv
      · rename_i h1
        simp only at hv
        split at hv
        · rename_i cs hc
          have hc' : evF d n t x = .agg cs := hc
          simp only [valA]
          rw [← fieldK_eq, hc']
          unfold fieldK partK
          simp only [hf, h1]; exact hv
        · cases hv
      · cases hv
    · cases hv
  · rename_i ty x i
    split at hv
    · rename_i off ft hf
      split at hv
      · rename_i m hs
        simp only at hv
        split at hv
        · rename_i b o hc
          have hc' : evF d n t x = .pointer (some ⟨b, o, none⟩) := hc
          simp only [valA, fieldAddrA, hc', hf, hs, if_true]; exact hv
        · cases hv
      · cases hv
    · cases hv
  · exact loadF_eq hv
  · rename_i fn xs ys
    simp only [argsF_eq, Option.some.injEq] at hv
    subst hv
    simp only [valA, Option.some.injEq, Value.func.injEq, true_and]
    constructor <;> (apply Array.ext'; simp)
  · rename_i x
    simp only at hv
    split at hv
    · rename_i a hc
      have hc' : evF d n t x = .pointer (some a) := hc
      simp only [valA, hc']; exact hv
    · exact hv
  · rename_i ty x
    split at hv
    · rename_i hm
      rw [v_iface, hm]
      exact hv
    · cases hv
  · exact valK_eq hv

/-- The cells of a value: a list that is handed on as it is. -/
def cellsF (v : Value) : List Value := match v with
  | .agg cs => (match cs with | ⟨l⟩ => l)
  | v => [v]
theorem cellsF_eq (v : Value) : cellsF v = v.cells.toList := by
  cases v <;> rfl
/-- A new row. -/
def newF (P : Program) (d n : Nat) (op : Op) : Bx (FR d → AHeap → Nat → Option (Value × Option Blk)) := match op with
  | .box ty x => ⟨fun t _ m => some (.pointer (some ⟨m, 0, none⟩), some ⟨cellsF ((opF d n x).f t), ty, false, some 0⟩)⟩
  | .alloc ty => (match tyZero P ty with
    | some z => (match plainB z with
      | true => ⟨fun _ _ m => some (.pointer (some ⟨m, 0, none⟩), some ⟨cellsF z, ty, false, some 0⟩)⟩
      | false => ⟨fun _ _ _ => none⟩)
    | none => ⟨fun _ _ _ => none⟩)
  | op => ⟨fun t h m => newA P (evF d n t) h m op⟩
theorem newF_eq {P : Program} {d n : Nat} {op : Op} {t : FR d} {h : AHeap} {m : Nat} {x : Value × Option Blk} (hv : (newF P d n op).f t h m = some x) : newA P (evF d n t) h m op = some x := by
  unfold newF at hv
  split at hv
  · simp only [cellsF_eq] at hv
    simp only [newA]
    exact hv
  · split at hv
    · rename_i z hz
      split at hv
      · rename_i hp
        simp only [cellsF_eq] at hv
        simp only [newA, hz, hp, if_true]
        exact hv
      · cases hv
    · cases hv
  · exact hv
/-- A call: which function, with which arguments. -/
def callF (P : Program) (d n : Nat) (op : Op) : Bx (FR d → Option (FuncId × List Value)) := match op with
  | .call { callee := .value (.func g), args, .. } => ⟨fun t => some (g, (argsF d n args.toList).f t)⟩
  | op => ⟨fun t => callK P (evF d n t) op⟩
theorem callF_eq {P : Program} {d n : Nat} {op : Op} {t : FR d} {f : FuncId} {args : List Value} (h : (callF P d n op).f t = some (f, args)) : callA P (evF d n t) op = some (f, args.toArray) := by
  unfold callF at h
  split at h
  · rename_i g al _
    simp only [argsF_eq, Option.some.injEq, Prod.mk.injEq] at h
    obtain ⟨rfl, rfl⟩ := h
    simp only [callA, evF, opF, Option.some.injEq, Prod.mk.injEq, true_and]
    apply Array.ext'; simp
  · exact callK_eq h
end Go.Proofs.Ytceddijolfpppaa
