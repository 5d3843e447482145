/-
  A run of the abstract machine that the kernel carries out, part 2: operations.
  No condition: definitions and laws.
-/
import Derived.Test.YtjdbknnacaacaaaUCopy
namespace Go.Proofs.Ytjdbknnacaacaaa
open Go Go.RowKit
set_option linter.unusedSimpArgs false
set_option linter.unusedVariables false
section
variable {P : Program} {e : Operand → Value} {rows : List (Option Blk)}
def partK (P : Program) (t : TypeId) (cs : List Value) (off : Nat) : Option Value := match tyAgg P t, tySize P t with
  | some true, some s => some (.agg ⟨(cs.drop off).take s⟩)
  | some false, _ => cs[off]?
  | _, _ => none
theorem partK_eq {t : TypeId} {cs : Array Value} {off : Nat} : partK P t cs.toList off = partA P t cs off := by
  unfold partK partA
  rcases tyAgg P t with _ | _ | _ <;> rcases tySize P t with _ | s <;> try rfl
  · simp
  · simp
  · simp only [Option.some.injEq, Value.agg.injEq]
    apply Array.ext'
    simp [Array.toList_extract, List.extract_eq_take_drop]
def fieldK (P : Program) (t : TypeId) (x : Value) (i : Nat) : Option Value := match x, tyField P t i with
  | .agg cs, some (off, ft) => partK P ft cs.toList off
  | _, _ => none
theorem fieldK_eq {t : TypeId} {x : Value} {i : Nat} : fieldK P t x i = fieldA P t x i := by
  unfold fieldK fieldA
  cases x with
  | agg cs => cases tyField P t i with
    | none => rfl
    | some p => obtain ⟨off, ft⟩ := p; exact partK_eq
  | _ => cases tyField P t i <;> rfl
def indexK (P : Program) (t : TypeId) (x i : Value) : Option Value := match x, i, tyArray P t with
  | .agg cs, .int _ n, some (_, el) => (match tySize P el with
    | some s => (match n with
      | .ofNat m => (match tyArray P t with | some (len, _) => (match Nat.ble (m + 1) len with | true => partK P el cs.toList (m * s) | false => none) | none => none)
      | .negSucc _ => none)
    | none => none)
  | _, _, _ => none
theorem indexK_eq {t : TypeId} {x i v : Value} (h : indexK P t x i = some v) : indexA P t x i = some v := by
  unfold indexK at h
  split at h
  · rename_i cs k n len el hta
    unfold indexA
    simp only [hta] at h ⊢
    split at h
    · rename_i s hs
      split at h
      · rename_i m
        split at h
        · rename_i hb
          have := Nat.le_of_ble_eq_true hb
          have hn : (Int.ofNat m).toNat = m := rfl
          have hc : 0 ≤ Int.ofNat m ∧ Int.ofNat m < (len : Int) := ⟨Int.natCast_nonneg m, Int.ofNat_lt.2 (by omega)⟩
          rw [partK_eq] at h
          simp only [hs, hc, and_self, if_true, hn]
          exact h
        · cases h
      · cases h
    · cases h
  · cases h
def valK (P : Program) (e : Operand → Value) (h : AHeap) (op : Op) : Option Value := match op with
  | .field t x i => fieldK P t (e x) i
  | .index t x i => (match indexK P t (e x) (e i) with | some v => some v | none => valA P e h op)
  | .makeFunc fn xs ys => some (.func fn ⟨xs.toList.map e⟩ ⟨ys.toList.map e⟩)
  | _ => valA P e h op
theorem valK_eq {h : AHeap} {op : Op} {v : Value} (hv : valK P e h op = some v) : valA P e h op = some v := by
  unfold valK at hv
  split at hv
  · rw [fieldK_eq] at hv; exact hv
  · split at hv
    · rename_i v' hv'; cases hv; exact indexK_eq hv'
    · exact hv
  · cases hv
    simp only [valA, Option.some.injEq, Value.func.injEq, true_and]
    constructor <;> (apply Array.ext'; simp)
  · exact hv
def callK (P : Program) (e : Operand → Value) : Op → Option (FuncId × List Value)
  | .call { callee := .value f, args, .. } => (match e f with
    | .func (.func g) xs ys => some (g, xs.toList ++ (args.toList.map e ++ ys.toList))
    | _ => none)
  | .call { callee := .invoke r name, args, .. } => (match e r with
    | .iface t (.pointer p) => (match methA P t name with | some f => some (f, .pointer p :: args.toList.map e) | none => none)
    | _ => none)
  | _ => none
theorem callK_eq {op : Op} {f : FuncId} {args : List Value} (h : callK P e op = some (f, args)) : callA P e op = some (f, args.toArray) := by
  unfold callK at h
  split at h
  · split at h
    · rename_i g xs ys hf
      cases h
      simp only [callA, hf, Option.some.injEq, Prod.mk.injEq, true_and]
      apply Array.ext'; simp
    · cases h
  · split at h
    · rename_i t p hr
      split at h
      · rename_i f' hm
        cases h
        simp only [callA, hr, hm, Option.some.injEq, Prod.mk.injEq, true_and]
        apply Array.ext'; simp
      · cases h
    · cases h
  · cases h
def storeL (P : Program) (l : List (Option Blk)) (t : TypeId) (a : Addr) (v : Value) : Option (List (Option Blk)) := match (l[a.block]?).join, tySize P t with
  | some b, some s =>
    if a.spot = none ∧ b.ro = false then
      (match v with
      | .agg cs => if cs.toList.length = s ∧ a.off + s ≤ b.cells.length ∧ cs.toList.all cellB = true then some (l.set a.block (some { b with cells := spliceA b.cells a.off cs.toList })) else none
      | .tuple _ => none
      | v => if s = 1 ∧ a.off < b.cells.length then some (l.set a.block (some { b with cells := b.cells.set a.off v })) else none)
    else none
  | _, _ => none
theorem row_lt {l : List (Option Blk)} {n : Nat} {b : Blk} (h : (l[n]?).join = some b) : n < l.length := by
  rcases Nat.lt_or_ge n l.length with h' | h'
  · exact h'
  · rw [List.getElem?_eq_none h'] at h; cases h
theorem storeL_eq {l l' : List (Option Blk)} {t : TypeId} {a : Addr} {v : Value} (h : storeL P l t a v = some l') : storeA P (heapL l) t a v = some (heapL l') := by
  unfold storeL at h
  unfold storeA
  rw [heapL_get]
  split at h
  · rename_i b s hb hs
    have hlt := row_lt hb
    simp only [hb, hs]
    split at h
    · rename_i hc
      rw [if_pos hc]
      cases v with
      | agg cs =>
        simp only at h ⊢
        split at h
        · rename_i hc2
          rw [if_pos (by simpa using hc2)]
          cases h
          rw [heapL_put _ _ _ hlt]
        · cases h
      | tuple cs => cases h
      | _ =>
        simp only at h ⊢
        split at h
        · rename_i hc2
          cases h
          rw [if_pos hc2, heapL_put _ _ _ hlt]
        · cases h
    · cases h
  · cases h
def wrL (P : Program) (e : Operand → Value) (l : List (Option Blk)) : Op → Option (Value × List (Option Blk))
  | .store t x y => (match e x with | .pointer (some a) => (match storeL P l t a (e y) with | some l' => some (undef, l') | none => none) | _ => none)
  | .call { callee := .builtin .append, args, argTypes } => (match args.toList, argTypes.toList with
    | [x, y], [t, t'] => if t = t' then (match e x, tySlice P t, e y with
      | .slice none 0 0, some el, .slice _ 0 _ => (match tySize P el with | some _ => some (.slice none 0 0, l) | none => none)
      | .slice (some a) sl sc, some el, .slice b n c => (match tySize P el with
        | some s => if sl + n ≤ sc then (match n, cellsA (heapL l) s (.slice b n c), (l[a.block]?).join with
            | 0, _, _ => some (.slice (some a) sl sc, l)
            | _, some news, some bk => if bk.ro = false ∧ a.spot = none ∧ a.off + sl * s + news.length ≤ bk.cells.length ∧ news.length = n * s ∧ news.all cellB = true then
                some (.slice (some a) (sl + n) sc, l.set a.block (some { bk with cells := spliceA bk.cells (a.off + sl * s) news })) else none
            | _, _, _ => none)
          else (match appendA P (heapL l) t (e x) (e y) with
            | some (cs, el, need, false) => (match Nat.ble l.length a.block with
              | true => none
              | false => some (.slice (some ⟨l.length, 0, none⟩) need need, (l.set a.block none) ++ [some ⟨cs, el, false, tySize P el⟩]))
            | _ => none)
        | none => none)
      | _, _, _ => none) else none
    | _, _ => none)
  | _ => none
theorem wrL_eq {l l' : List (Option Blk)} {op : Op} {v : Value} (h : wrL P e l op = some (v, l')) : wrA P e (heapL l) op = some (v, heapL l') := by
  unfold wrL at h
  split at h
  · rename_i t x y
    split at h
    · rename_i a ha
      split at h
      · rename_i l1 hl
        cases h
        simp only [wrA, ha, storeL_eq hl, Option.map_some]
      · cases h
    · cases h
  · rename_i args argTypes
    split at h
    · rename_i x y t t' hargs htys
      split at h
      · rename_i htt
        simp only [wrA, hargs, htys, if_pos htt]
        split at h
        · rename_i el q1 q2 he1 he2 he3
          split at h
          · rename_i s hs; cases h; simp only [he1, he2, he3, hs]
          · cases h
        · rename_i a sl sc el b n c he1 he2 he3
          simp only [he1, he2, he3]
          split at h
          · rename_i s hs
            simp only [hs]
            split at h
            · rename_i hle
              rw [if_pos hle]
              rw [heapL_get]
              cases n with
              | zero => cases h; rfl
              | succ n =>
                cases hc1 : cellsA (heapL l) s (.slice b (n + 1) c) with
                | none => rw [hc1] at h; cases h
                | some news =>
                  cases hb1 : (l[a.block]?).join with
                  | none => rw [hc1, hb1] at h; cases h
                  | some bk =>
                    rw [hc1, hb1] at h
                    simp only at h ⊢
                    split at h
                    · rename_i hcond
                      rw [if_pos hcond]
                      cases h
                      rw [heapL_put _ _ _ (row_lt hb1)]
                    · cases h
            · rename_i hle
              rw [if_neg hle]
              split at h
              · rename_i cs el' need hap
                split at h
                · cases h
                · rename_i hb
                  have hlt : a.block < l.length := by
                    rcases Nat.lt_or_ge a.block l.length with h' | h'
                    · exact h'
                    · rw [Nat.ble_eq_true_of_le h'] at hb; cases hb
                  cases h
                  rw [he1, he3] at hap
                  simp only [hap, heapL_next]
                  rw [heapL_putO _ _ _ hlt, heapL_addO]
              · cases h
          · cases h
        · cases h
      · cases h
    · cases h
  · cases h
end
abbrev FR (d : Nat) := TT Value d
def opF (d n : Nat) : Operand → Bx (FR d → Value)
  | .tmp i => gF undef d n i
  | .const v => ⟨fun _ => v⟩
  | .global _ => ⟨fun _ => undef⟩
  | .func f => ⟨fun _ => .func (.func f) #[] #[]⟩
def evF (d n : Nat) (t : FR d) (x : Operand) : Value := (opF d n x).f t
theorem evF_eq {d n : Nat} (h : n ≤ 2 ^ d) (t : FR d) : evF d n t = evA (absT d n t) := by
  funext x
  cases x with
  | tmp i => exact gF_eq h t i
  | _ => rfl
def dstF (d n : Nat) : Option Tmp → Bx (FR d → Value → FR d)
  | some i => sF d n i
  | none => ⟨fun t _ => t⟩
theorem dstF_eq {d n : Nat} (h : n ≤ 2 ^ d) (dst : Option Tmp) (t : FR d) (v : Value) : absT d n ((dstF d n dst).f t v) = putL dst v (absT d n t) := by
  cases dst with
  | none => rfl
  | some i => exact sF_eq h t i v
def argsF (d n : Nat) : List Operand → Bx (FR d → List Value)
  | [] => ⟨fun _ => []⟩
  | x :: l => ⟨fun t => (opF d n x).f t :: (argsF d n l).f t⟩
theorem argsF_eq {d n : Nat} (t : FR d) : ∀ l : List Operand, (argsF d n l).f t = l.map (evF d n t)
  | [] => rfl
  | x :: l => by
    show (opF d n x).f t :: (argsF d n l).f t = _
    rw [argsF_eq t l]; rfl
def kindN : IntKind → Nat
  | .i8 => 0 | .i16 => 1 | .i32 => 2 | .i64 => 3 | .u8 => 4 | .u16 => 5 | .u32 => 6 | .u64 => 7
def sameK (k k' : IntKind) : Bool := Nat.beq (kindN k) (kindN k')
theorem sameK_eq {k k' : IntKind} (h : sameK k k' = true) : k = k' := by
  have := Nat.eq_of_beq_eq_true h
  cases k <;> cases k' <;> first | rfl | (exact absurd this (by decide))
def wrF (k : IntKind) : Bx (Int → Int) := match k with
  | .i64 => ⟨fun z => match z with
    | .ofNat n => (match Nat.ble n 9223372036854775807 with | true => .ofNat n | false => IntKind.i64.wrap (.ofNat n))
    | .negSucc n => (match Nat.ble n 9223372036854775807 with | true => .negSucc n | false => IntKind.i64.wrap (.negSucc n))⟩
  | .u64 => ⟨fun z => match z with
    | .ofNat n => (match Nat.ble n 18446744073709551615 with | true => .ofNat n | false => IntKind.u64.wrap (.ofNat n))
    | .negSucc n => IntKind.u64.wrap (.negSucc n)⟩
  | k => ⟨fun z => k.wrap z⟩
theorem wrF_eq (k : IntKind) (z : Int) : (wrF k).f z = k.wrap z := by
  unfold wrF
  split
  · simp only
    cases z with
    | ofNat n =>
      simp only
      split
      · rename_i h
        have := Nat.le_of_ble_eq_true h
        exact (wrap_i64 (by simp only [Int.ofNat_eq_natCast]; omega) (by simp only [Int.ofNat_eq_natCast]; omega)).symm
      · rfl
    | negSucc n =>
      simp only
      split
      · rename_i h
        have := Nat.le_of_ble_eq_true h
        exact (wrap_i64 (by omega) (by omega)).symm
      · rfl
  · simp only
    cases z with
    | ofNat n =>
      simp only
      split
      · rename_i h
        have := Nat.le_of_ble_eq_true h
        rw [IntKind.wrap_u64]
        simp only [Int.ofNat_eq_natCast]; omega
      · rfl
    | negSucc n => rfl
  · rfl
def eqZ (a b : Int) : Bool := match a, b with
  | .ofNat a, .ofNat b => Nat.beq a b
  | .negSucc a, .negSucc b => Nat.beq a b
  | _, _ => false
theorem eqZ_eq (a b : Int) : eqZ a b = (a == b) := by
  rw [Bool.eq_iff_iff, beq_iff_eq]
  cases a <;> cases b <;> simp [eqZ] <;> omega
def leZ (a b : Int) : Bool := match a, b with
  | .ofNat a, .ofNat b => Nat.ble a b
  | .negSucc a, .negSucc b => Nat.ble b a
  | .negSucc _, .ofNat _ => true
  | .ofNat _, .negSucc _ => false
theorem leZ_eq (a b : Int) : leZ a b = decide (a ≤ b) := by
  rw [Bool.eq_iff_iff, decide_eq_true_eq]
  cases a <;> cases b <;> simp [leZ, Int.negSucc_eq] <;> omega
def notB (b : Bool) : Bool := match b with | true => false | false => true
theorem notB_eq (b : Bool) : notB b = !b := by cases b <;> rfl
def int2 (a b : Value) (K : IntKind → Int → Int → Value) (E : Option Value) : Option Value := match a, b with
  | .int k x, .int k' y => (match sameK k k' with | true => some (K k x y) | false => none)
  | _, _ => E
theorem int2_of {a b v : Value} {K : IntKind → Int → Int → Value} {E : Option Value} (h : int2 a b K E = some v) : (∃ k x y, a = .int k x ∧ b = .int k y ∧ v = K k x y) ∨ E = some v := by
  unfold int2 at h
  split at h
  · split at h
    · rename_i hk
      cases h
      obtain rfl := sameK_eq hk
      exact .inl ⟨_, _, _, rfl, rfl, rfl⟩
    · cases h
  · exact .inr h
def binF (P : Program) (op : BinOp) (ty : TypeId) (y : Operand) : Bx (Value → Value → Option Value) := match op with
  | .add => ⟨fun a b => int2 a b (fun k x z => .int k ((wrF k).f (Int.add x z))) none⟩
  | .sub => ⟨fun a b => int2 a b (fun k x z => .int k ((wrF k).f (Int.sub x z))) none⟩
  | .eql => ⟨fun a b => int2 a b (fun _ x z => .bool (eqZ x z)) (binOpA P .eql ty y a b)⟩
  | .neq => ⟨fun a b => int2 a b (fun _ x z => .bool (notB (eqZ x z))) (binOpA P .neq ty y a b)⟩
  | .leq => ⟨fun a b => int2 a b (fun _ x z => .bool (leZ x z)) none⟩
  | .lss => ⟨fun a b => int2 a b (fun _ x z => .bool (notB (leZ z x))) none⟩
  | .geq => ⟨fun a b => int2 a b (fun _ x z => .bool (leZ z x)) none⟩
  | .gtr => ⟨fun a b => int2 a b (fun _ x z => .bool (notB (leZ x z))) none⟩
  | op => ⟨fun a b => binOpA P op ty y a b⟩
def noShift : BinOp → Bool
  | .shl | .shr => false
  | _ => true
theorem binOpA_int {P : Program} {op : BinOp} {ty : TypeId} {y : Operand} {k : IntKind} {x z : Int} {v : Value} (h : intA op k x z = some v) (hs : noShift op = true) : binOpA P op ty y (.int k x) (.int k z) = some v := by
  unfold binOpA binA
  cases op <;> first | (exact absurd hs (by decide)) | (simp only [if_true, h])
theorem binF_eq {P : Program} {op : BinOp} {ty : TypeId} {y : Operand} {a b v : Value} (h : (binF P op ty y).f a b = some v) : binOpA P op ty y a b = some v := by
  unfold binF at h
  split at h
  · rcases int2_of h with ⟨k, x, z, rfl, rfl, rfl⟩ | h
    · exact binOpA_int (by simp only [intA, wrF_eq]; rfl) rfl
    · cases h
  · rcases int2_of h with ⟨k, x, z, rfl, rfl, rfl⟩ | h
    · exact binOpA_int (by simp only [intA, wrF_eq]; rfl) rfl
    · cases h
  · rcases int2_of h with ⟨k, x, z, rfl, rfl, rfl⟩ | h
    · exact binOpA_int (by simp only [intA, eqZ_eq]) rfl
    · exact h
  · rcases int2_of h with ⟨k, x, z, rfl, rfl, rfl⟩ | h
    · exact binOpA_int (by simp only [intA, eqZ_eq, notB_eq]; rfl) rfl
    · exact h
  · rcases int2_of h with ⟨k, x, z, rfl, rfl, rfl⟩ | h
    · exact binOpA_int (by simp only [intA, leZ_eq]) rfl
    · cases h
  · rcases int2_of h with ⟨k, x, z, rfl, rfl, rfl⟩ | h
    · exact binOpA_int (by simp only [intA, leZ_eq, notB_eq, ← decide_not, Int.not_le]) rfl
    · cases h
  · rcases int2_of h with ⟨k, x, z, rfl, rfl, rfl⟩ | h
    · exact binOpA_int (by simp only [intA, leZ_eq, ge_iff_le]) rfl
    · cases h
  · rcases int2_of h with ⟨k, x, z, rfl, rfl, rfl⟩ | h
    · exact binOpA_int (by simp only [intA, leZ_eq, notB_eq, ← decide_not, Int.not_le, gt_iff_lt]) rfl
    · cases h
  · exact h
def cellF (h : AHeap) (x : Value) (K : Blk → Nat → Option Value) : Option Value := match x with
  | .pointer (some ⟨b, o, none⟩) => (match h.get b with | some bk => K bk o | none => none)
  | _ => none
def loadF (P : Program) (d n : Nat) (ty : TypeId) (x : Operand) : Bx (FR d → AHeap → Option Value) := match tyAgg P ty, tySize P ty with
  | some false, some _ => ⟨fun t h => cellF h ((opF d n x).f t) fun bk o => bk.cells[o]?⟩
  | some true, some s => ⟨fun t h => cellF h ((opF d n x).f t) fun bk o => match Nat.beq o 0 && Nat.beq bk.cells.length s with
    | true => some (.agg ⟨bk.cells⟩)
    | false => (match Nat.ble (o + s) bk.cells.length with | true => some (.agg ⟨(bk.cells.drop o).take s⟩) | false => none)⟩
  | _, _ => ⟨fun _ _ => none⟩
theorem loadF_eq {P : Program} {d n : Nat} {ty : TypeId} {x : Operand} {t : FR d} {h : AHeap} {v : Value} (hv : (loadF P d n ty x).f t h = some v) : valA P (evF d n t) h (.load ty x) = some v := by
  unfold loadF at hv
  simp only [valA]
  have key : ∀ {K : Blk → Nat → Option Value}, cellF h ((opF d n x).f t) K = some v → ∃ b o bk, evF d n t x = .pointer (some ⟨b, o, none⟩) ∧ h.get b = some bk ∧ K bk o = some v := by
    intro K hk
    unfold cellF at hk
    split at hk
    · rename_i b o hx
      split at hk
      · rename_i bk hb; exact ⟨b, o, bk, hx, hb, hk⟩
      · cases hk
    · cases hk
  split at hv
  · rename_i s h1 h2
    obtain ⟨b, o, bk, e1, e2, e3⟩ := key hv
    simp only [e1, loadA, e2, h1, h2, if_true, e3]
  · rename_i s h1 h2
    obtain ⟨b, o, bk, e1, e2, e3⟩ := key hv
    simp only [e1, loadA, e2, h1, h2, true_and]
    split at e3
    · rename_i hc
      simp only [Bool.and_eq_true] at hc
      have c1 := Nat.eq_of_beq_eq_true hc.1
      have c2 := Nat.eq_of_beq_eq_true hc.2
      rw [if_pos ⟨c1, c2⟩]
      exact e3
    · rename_i hc
      split at e3
      · rename_i hle
        have := Nat.le_of_ble_eq_true hle
        split
        · rename_i hcc
          rw [hcc.1, hcc.2, Nat.beq_refl, Nat.beq_refl] at hc
          cases hc
        · first | (rw [if_pos this]; exact e3) | exact e3
      · cases e3
  · cases hv
def valF (P : Program) (d n : Nat) (op : Op) : Bx (FR d → AHeap → Option Value) := match op with
  | .move x => ⟨fun t _ => some ((opF d n x).f t)⟩
  | .assign x => ⟨fun t _ => some ((opF d n x).f t)⟩
  | .pick c a b => ⟨fun t _ => match (opF d n c).f t with | .bool true => some ((opF d n a).f t) | .bool false => some ((opF d n b).f t) | _ => none⟩
  | .extract x i => ⟨fun t _ => match (opF d n x).f t with | .tuple vs => vs.toList[i]? | _ => none⟩
  | .binOp o ty x y _ => ⟨fun t _ => (binF P o ty y).f ((opF d n x).f t) ((opF d n y).f t)⟩
  | .convert s e x => (match tyConv P s e with
    | some k => ⟨fun t _ => match (opF d n x).f t with | .int _ z => some (.int k ((wrF k).f z)) | _ => none⟩
    | none => ⟨fun _ _ => none⟩)
  | .field ty x i => (match tyField P ty i with
    | some (off, ft) => (match tyAgg P ft, tySize P ft with
      | some true, some s => ⟨fun t _ => match (opF d n x).f t with | .agg cs => some (.agg ⟨(cs.toList.drop off).take s⟩) | _ => none⟩
      | some false, _ => ⟨fun t _ => match (opF d n x).f t with | .agg cs => cs.toList[off]? | _ => none⟩
      | _, _ => ⟨fun _ _ => none⟩)
    | none => ⟨fun _ _ => none⟩)
  | .fieldAddr ty x i => (match tyField P ty i with
    | some (off, ft) => (match tySize P ft with
      | some (_ + 1) => ⟨fun t _ => match (opF d n x).f t with | .pointer (some ⟨b, o, none⟩) => some (.pointer (some ⟨b, o + off, none⟩)) | _ => none⟩
      | _ => ⟨fun _ _ => none⟩)
    | none => ⟨fun _ _ => none⟩)
  | .load ty x => loadF P d n ty x
  | .makeFunc fn xs ys => ⟨fun t _ => some (.func fn ⟨(argsF d n xs.toList).f t⟩ ⟨(argsF d n ys.toList).f t⟩)⟩
  | .nilCheck x => ⟨fun t _ => match (opF d n x).f t with | .pointer (some a) => some (.pointer (some a)) | v => nilCheckA P v⟩
  | .makeInterface ty x => (match tyMk P ty with
    | true => ⟨fun t _ => some (.iface ty ((opF d n x).f t))⟩
    | false => ⟨fun _ _ => none⟩)
  | op => ⟨fun t h => valK P (evF d n t) h op⟩
theorem valF_eq {P : Program} {d n : Nat} {op : Op} {t : FR d} {h : AHeap} {v : Value} (hv : (valF P d n op).f t h = some v) : valA P (evF d n t) h op = some v := by
  unfold valF at hv
  split at hv
  · exact hv
  · exact hv
  · rename_i c a b
    simp only at hv
    split at hv
    · rename_i hc
      have hc' : evF d n t c = .bool true := hc
      simp only [valA, hc', if_true]; exact hv
    · rename_i hc
      have hc' : evF d n t c = .bool false := hc
      simp only [valA, hc', Bool.false_eq_true, if_false]; exact hv
    · cases hv
  · rename_i x i
    simp only at hv
    split at hv
    · rename_i vs hc
      have hc' : evF d n t x = .tuple vs := hc
      simp only [valA, hc']; simpa using hv
    · cases hv
  · exact binF_eq hv
  · rename_i s e x
    split at hv
    · rename_i k hk
      simp only at hv
      split at hv
      · rename_i k' z hc
        have hc' : evF d n t x = .int k' z := hc
        rw [wrF_eq] at hv
        simp only [valA, convertA, hc', hk]; exact hv
      · cases hv
    · cases hv
  · rename_i ty x i
    split at hv
    · rename_i off ft hf
      split at hv
      · rename_i s h1 h2
        simp only at hv
        split at hv
        · rename_i cs hc
          have hc' : evF d n t x = .agg cs := hc
          simp only [valA]
          rw [← fieldK_eq, hc']
          unfold fieldK partK
          simp only [hf, h1, h2]; exact hv
        · cases hv
      · rename_i h1
        simp only at hv
        split at hv
        · rename_i cs hc
          have hc' : evF d n t x = .agg cs := hc
          simp only [valA]
          rw [← fieldK_eq, hc']
          unfold fieldK partK
          simp only [hf, h1]; exact hv
        · cases hv
      · cases hv
    · cases hv
  · rename_i ty x i
    split at hv
    · rename_i off ft hf
      split at hv
      · rename_i m hs
        simp only at hv
        split at hv
        · rename_i b o hc
          have hc' : evF d n t x = .pointer (some ⟨b, o, none⟩) := hc
          simp only [valA, fieldAddrA, hc', hf, hs, if_true]; exact hv
        · cases hv
      · cases hv
    · cases hv
  · exact loadF_eq hv
  · rename_i fn xs ys
    simp only [argsF_eq, Option.some.injEq] at hv
    subst hv
    simp only [valA, Option.some.injEq, Value.func.injEq, true_and]
    constructor <;> (apply Array.ext'; simp)
  · rename_i x
    simp only at hv
    split at hv
    · rename_i a hc
      have hc' : evF d n t x = .pointer (some a) := hc
      simp only [valA, hc']; exact hv
    · exact hv
  · rename_i ty x
    split at hv
    · rename_i hm
      rw [v_iface, hm]
      exact hv
    · cases hv
  · exact valK_eq hv
def cellsF (v : Value) : List Value := match v with
  | .agg cs => (match cs with | ⟨l⟩ => l)
  | v => [v]
theorem cellsF_eq (v : Value) : cellsF v = v.cells.toList := by
  cases v <;> rfl
def newF (P : Program) (d n : Nat) (op : Op) : Bx (FR d → AHeap → Nat → Option (Value × Option Blk)) := match op with
  | .box ty x => ⟨fun t _ m => some (.pointer (some ⟨m, 0, none⟩), some ⟨cellsF ((opF d n x).f t), ty, false, some 0⟩)⟩
  | .alloc ty => (match tyZero P ty with
    | some z => (match plainB z with
      | true => ⟨fun _ _ m => some (.pointer (some ⟨m, 0, none⟩), some ⟨cellsF z, ty, false, some 0⟩)⟩
      | false => ⟨fun _ _ _ => none⟩)
    | none => ⟨fun _ _ _ => none⟩)
  | op => ⟨fun t h m => newA P (evF d n t) h m op⟩
theorem newF_eq {P : Program} {d n : Nat} {op : Op} {t : FR d} {h : AHeap} {m : Nat} {x : Value × Option Blk} (hv : (newF P d n op).f t h m = some x) : newA P (evF d n t) h m op = some x := by
  unfold newF at hv
  split at hv
  · simp only [cellsF_eq] at hv
    simp only [newA]
    exact hv
  · split at hv
    · rename_i z hz
      split at hv
      · rename_i hp
        simp only [cellsF_eq] at hv
        simp only [newA, hz, hp, if_true]
        exact hv
      · cases hv
    · cases hv
  · exact hv
def callF (P : Program) (d n : Nat) (op : Op) : Bx (FR d → Option (FuncId × List Value)) := match op with
  | .call { callee := .value (.func g), args, .. } => ⟨fun t => some (g, (argsF d n args.toList).f t)⟩
  | op => ⟨fun t => callK P (evF d n t) op⟩
theorem callF_eq {P : Program} {d n : Nat} {op : Op} {t : FR d} {f : FuncId} {args : List Value} (h : (callF P d n op).f t = some (f, args)) : callA P (evF d n t) op = some (f, args.toArray) := by
  unfold callF at h
  split at h
  · rename_i g al _
    simp only [argsF_eq, Option.some.injEq, Prod.mk.injEq] at h
    obtain ⟨rfl, rfl⟩ := h
    simp only [callA, evF, opF, Option.some.injEq, Prod.mk.injEq, true_and]
    apply Array.ext'; simp
  · exact callK_eq h
end Go.Proofs.Ytjdbknnacaacaaa
namespace Go.Proofs.Ytjdbknnacaacaaa
open Go Go.RowKit
set_option linter.unusedSimpArgs false
set_option linter.unusedVariables false
structure KF (P : Program) {σ : Type} (X : Face P σ) (κ : Type) where
  abs : κ → σ
  wf : κ → Prop
  cnt : κ → Nat
  prim : FuncId → List Value → κ → Option (Value × κ)
  known : FuncId → List Value → Option Value
  known_ok : ∀ f args v, known f args = some v → ∀ S, Does X f args.toArray [] S v S
  cnt_ok : ∀ s, wf s → cnt s = X.cnt (abs s)
  prim_ok : ∀ f args s v s', wf s → prim f args s = some (v, s') → wf s' ∧ X.prim f args.toArray (abs s) v (abs s') ∧ fnOK P f = true
def yieldF (d n : Nat) (ops : Array Oper) (j : Nat) : Bx (FR d → Option Bool) := match (ops[j]?).bind (·.dst) with
  | some i => ⟨fun t => match (gF undef d n i).f t with | .bool b => some b | _ => none⟩
  | none => ⟨fun _ => none⟩
theorem yieldF_eq {d n : Nat} (h : n ≤ 2 ^ d) {ops : Array Oper} {t : FR d} {j : Nat} : (yieldF d n ops j).f t = yieldedL ops (absT d n t) j := by
  unfold yieldF yieldedL
  cases (ops[j]?).bind (·.dst) with
  | none => rfl
  | some i =>
    simp only [Option.bind_some]
    rw [gF_eq h t i, List.getD_eq_getElem?_getD]
    cases (absT d n t)[i]? with
    | none => simp [undef]
    | some v => cases v <;> rfl
def wantB (x : Option Bool) (w : Bool) : Bool := match x, w with
  | some true, true => true
  | some false, false => true
  | _, _ => false
theorem wantB_eq (x : Option Bool) (w : Bool) : wantB x w = (x == some w) := by
  cases x with
  | none => cases w <;> rfl
  | some b => cases b <;> cases w <;> rfl
def plain1 : Value → Bool
  | .int _ _ | .bool _ | .string _ | .nilIface | .nilFunc | .pointer none | .slice none _ _ => true
  | _ => false
def plainQ : Value → Bool
  | .agg cs => cs.toList.all plain1
  | .tuple cs => cs.toList.all plain1
  | v => plain1 v
def hi1 (c : Nat) (v : Value) : Bool := match v with
  | .pointer (some a) => Nat.ble VB a.block && Nat.ble (a.block + 1) (VB + c)
  | .iface _ (.pointer (some a)) => Nat.ble VB a.block && Nat.ble (a.block + 1) (VB + c)
  | .agg cs => cs.toList.all plain1
  | v => plain1 v
def hiB (c : Nat) (v : Value) : Bool := match plainQ v with
  | true => true
  | false => (match v with
    | .agg cs => cs.toList.all (hi1 c)
    | .tuple cs => cs.toList.all (hi1 c)
    | v => hi1 c v)
theorem nmA_all {cs : Array Value} {p : Nat → Prop} (h : ∀ v ∈ cs.toList, ∀ n ∈ nmV v, p n) : ∀ n ∈ nmA cs, p n := by
  obtain ⟨l⟩ := cs
  simp only [nmA]
  have : ∀ (l : List Value), (∀ v ∈ l, ∀ n ∈ nmV v, p n) → ∀ n ∈ nmL l, p n := by
    intro l
    induction l with
    | nil => intro _ n hn; simp [nmL] at hn
    | cons v l ih =>
      intro h n hn
      simp only [nmL, List.mem_append] at hn
      rcases hn with hn | hn
      · exact h v List.mem_cons_self n hn
      · exact ih (fun u hu => h u (List.mem_cons_of_mem _ hu)) n hn
  exact this l h
theorem plain1_nm {v : Value} (h : plain1 v = true) : nmV v = [] := by
  unfold plain1 at h
  split at h <;> first | (simp [nmV]; done) | cases h
theorem plainQ_nm {v : Value} (h : plainQ v = true) : ∀ n ∈ nmV v, False := by
  unfold plainQ at h
  split at h
  · simp only [nmV]
    exact nmA_all fun u hu n hn => by rw [plain1_nm (List.all_eq_true.1 h u hu)] at hn; cases hn
  · simp only [nmV]
    exact nmA_all fun u hu n hn => by rw [plain1_nm (List.all_eq_true.1 h u hu)] at hn; cases hn
  · intro n hn; rw [plain1_nm h] at hn; cases hn
theorem hi1_nm {c : Nat} {v : Value} (h : hi1 c v = true) : ∀ n ∈ nmV v, VB ≤ n ∧ n < VB + c := by
  unfold hi1 at h
  split at h
  · simp only [Bool.and_eq_true] at h
    intro n hn
    simp only [nmV, List.mem_singleton] at hn
    subst hn
    exact ⟨Nat.le_of_ble_eq_true h.1, Nat.le_of_ble_eq_true h.2⟩
  · simp only [Bool.and_eq_true] at h
    intro n hn
    simp only [nmV, List.mem_singleton] at hn
    subst hn
    exact ⟨Nat.le_of_ble_eq_true h.1, Nat.le_of_ble_eq_true h.2⟩
  · simp only [nmV]
    exact nmA_all fun u hu n hn => by rw [plain1_nm (List.all_eq_true.1 h u hu)] at hn; cases hn
  · intro n hn; rw [plain1_nm h] at hn; cases hn
theorem hiB_nm {c : Nat} {v : Value} (h : hiB c v = true) : ∀ n ∈ nmV v, VB ≤ n ∧ n < VB + c := by
  unfold hiB at h
  split at h
  · rename_i hq; exact fun n hn => (plainQ_nm hq n hn).elim
  · split at h
    · simp only [nmV]
      exact nmA_all fun u hu n hn => hi1_nm (List.all_eq_true.1 h u hu) n hn
    · simp only [nmV]
      exact nmA_all fun u hu n hn => hi1_nm (List.all_eq_true.1 h u hu) n hn
    · exact hi1_nm h
def reachK (rows : List (Option Blk)) : Nat → List Nat → List Nat → List Nat
  | 0, _, seen => seen
  | _ + 1, [], seen => seen
  | f + 1, n :: work, seen => match Nat.ble VB n || seen.elem n with
    | true => reachK rows f work seen
    | false => reachK rows f ((match (rows[n]?).join with | some b => nmL b.cells | none => []) ++ work) (seen ++ [n])
def idxK (ns : List Nat) (n : Nat) : Nat := match Nat.ble VB n with | true => n | false => ns.idxOf n
def okN (ns : List Nat) (c : Nat) (n : Nat) : Bool := ns.elem n || (Nat.ble VB n && Nat.ble (n + 1) (VB + c))
def mvB (f : Nat → Nat) (b : Blk) : Blk := { b with cells := b.cells.map (mvV f) }
def nodupB : List Nat → Bool
  | [] => true
  | n :: l => !l.elem n && nodupB l
theorem nodupB_ok : ∀ {l : List Nat}, nodupB l = true → l.Nodup
  | [], _ => List.nodup_nil
  | n :: l, h => by
    simp only [nodupB, Bool.and_eq_true, Bool.not_eq_true', List.elem_eq_mem, decide_eq_false_iff_not] at h
    exact List.nodup_cons.2 ⟨h.1, nodupB_ok h.2⟩
def lendK (rows : List (Option Blk)) (vis : Nat → Bool) (ro : Bool) (ns : List Nat) (c : Nat) : List Nat → Option (List Blk)
  | [] => some []
  | n :: l => match (rows[n]?).join, vis n, lendK rows vis ro ns c l with
    | some b, true, some bs => (match (nmL b.cells).all (okN ns c) with
      | true => some (⟨b.cells.map (mvV (idxK ns)), b.elem, b.ro || ro, b.grow⟩ :: bs)
      | false => none)
    | _, _, _ => none
def retK (k : Nat) (ex : List Nat) (n : Nat) : Nat := match Nat.ble VB n with | true => n | false => (match Nat.ble (n + 1) k with | true => n | false => k + ex.idxOf n)
def okR (k : Nat) (ex : List Nat) (c : Nat) (n : Nat) : Bool := Nat.ble (n + 1) k || ex.elem n || (Nat.ble VB n && Nat.ble (n + 1) (VB + c))
def rowK (rows1 : List (Option Blk)) (k : Nat) (ex : List Nat) (c : Nat) (n : Nat) : Option Blk := match (rows1[n]?).join with
  | some b => (match !b.ro && (nmL b.cells).all (okR k ex c) with
    | true => some (mvB (retK k ex) b)
    | false => none)
  | none => none
def backsK (rows1 : List (Option Blk)) (k : Nat) (ex : List Nat) (c : Nat) : List Blk → Nat → Option (List Blk)
  | [], _ => some []
  | b :: l, i => match b.ro with
    | true => (match backsK rows1 k ex c l (i + 1) with | some l' => some (b :: l') | none => none)
    | false => (match rowK rows1 k ex c i, backsK rows1 k ex c l (i + 1) with | some b', some l' => some (b' :: l') | _, _ => none)
def newsK (rows1 : List (Option Blk)) (k : Nat) (ex : List Nat) (c : Nat) : List Nat → Option (List Blk)
  | [] => some []
  | n :: l => match rowK rows1 k ex c n, newsK rows1 k ex c l with | some b, some bs => some (b :: bs) | _, _ => none
def backRK (f : Nat → Nat) (rows : List (Option Blk)) : List Nat → List Blk → List Blk → List (Option Blk)
  | n :: ns, b :: l, b' :: l' => (match b.ro with
    | true => backRK f rows ns l l'
    | false => (backRK f rows ns l l').set n (some (mvB f b')))
  | _, _, _ => rows
def appK (rows : List (Option Blk)) (f : Nat → Nat) : List Blk → List (Option Blk)
  | [] => rows
  | l => rows ++ l.map fun b => some (mvB f b)
def openNames (rows1 : List (Option Blk)) : List Blk → Nat → List Nat
  | [], _ => []
  | b :: l, i => match b.ro with
    | true => openNames rows1 l (i + 1)
    | false => (match (rows1[i]?).join with | some b' => nmL b'.cells | none => []) ++ openNames rows1 l (i + 1)
section
variable {P : Program} {σ κ : Type} {X : Face P σ}
abbrev RunT (κ : Type) := Func → Code → List Value → List (Option Blk) → κ → Option (Value × List (Option Blk) × κ)
def fastB (l : List Blk) (b : Bool) : Bool := match l with
  | [] => b
  | _ :: _ => false
def endK (K : KF P X κ) (ro : Bool) (rows : List (Option Blk)) (ns : List Nat) (l : List Blk) : Value × List (Option Blk) × κ → Option (Value × List (Option Blk) × κ)
  | (v0, rows1, s') => match fastB l (hiB (K.cnt s') v0) with
    | true => some (v0, rows, s')
    | false =>
      let k := ns.length
      let ex := (reachK rows1 100000 (nmV v0 ++ openNames rows1 l 0) []).filter fun n => Nat.ble k n
      (match nodupB ex && (nmV v0).all (okR k ex (K.cnt s')) && ex.all (fun n => Nat.ble (n + 1) VB) && Nat.ble (rows.length + k + ex.length) 999999, backsK rows1 k ex (K.cnt s') l 0, newsK rows1 k ex (K.cnt s') ex with
      | true, some l', some new =>
        let up := upN ns rows.length
        some (mvV up (mvV (retK k ex) v0), appK (match ro with | true => rows | false => backRK up rows ns l l') up new, s')
      | _, _, _ => none)
def callGo (K : KF P X κ) (run : RunT κ) (vis : Nat → Bool) (ro : Bool) (rows : List (Option Blk)) (s : κ) (f : FuncId) (args : List Value) : Option (Value × List (Option Blk) × κ) :=
  match P.funcs[f]? with
  | none => none
  | some g => match goB g, g.body with
    | true, some c => (match args.all (hiB (K.cnt s)) && Nat.ble rows.length 999999 with
      | true => (match run g c args [] s with
        | some x => endK K ro rows [] [] x
        | none => none)
      | false =>
        let nm := nmL args
        let ns := reachK rows 100000 nm []
        (match nm.all (okN ns (K.cnt s)) && nodupB ns && Nat.ble ns.length 1000 && Nat.ble (rows.length + ns.length) 999999, lendK rows vis ro ns (K.cnt s) ns with
        | true, some l => (match run g c (args.map (mvV (idxK ns))) (l.map some) s with
          | some x => endK K ro rows ns l x
          | none => none)
        | _, _ => none))
    | _, _ => none
def kindK : Op → Nat
  | .alloc _ | .box .. | .buildSlice .. | .makeSlice .. => 1
  | .store .. => 2
  | .call c => (match c.callee with | .builtin .append => 4 | .builtin _ => 0 | _ => 3)
  | .slice .. => 5
  | _ => 0
def newK (rows : List (Option Blk)) (s : κ) (x : Option (Value × Option Blk)) : Option (Value × List (Option Blk) × κ) := match x with
  | some (v, ob) => (match Nat.ble rows.length 999999 with | true => some (v, rows ++ [ob], s) | false => none)
  | none => none
def wrK (P : Program) (e : Operand → Value) (rows : List (Option Blk)) (s : κ) (op : Op) : Option (Value × List (Option Blk) × κ) := match wrL P e rows op with
  | some (v, rows') => (match Nat.ble rows.length 999999 with | true => some (v, rows', s) | false => none)
  | none => none
def clK (K : KF P X κ) (run : RunT κ) (vis : Nat → Bool) (ro : Bool) (rows : List (Option Blk)) (s : κ) : Option (FuncId × List Value) → Option (Value × List (Option Blk) × κ)
  | some (f, args) => (match K.prim f args s with
    | some (v, s') => some (v, rows, s')
    | none => (match K.known f args with
      | some v => some (v, rows, s)
      | none => callGo K run vis ro rows s f args))
  | none => none
def oneF (K : KF P X κ) (d n : Nat) (op : Op) : Bx (RunT κ → FR d → List (Option Blk) → κ → Option (Value × List (Option Blk) × κ)) := match kindK op with
  | 0 => ⟨fun _ t rows s => match (valF P d n op).f t (heapL rows) with | some v => some (v, rows, s) | none => none⟩
  | 1 => ⟨fun _ t rows s => newK rows s ((newF P d n op).f t (heapL rows) rows.length)⟩
  | 2 => ⟨fun _ t rows s => wrK P (evF d n t) rows s op⟩
  | 3 => ⟨fun run t rows s => clK K run (fun _ => true) false rows s ((callF P d n op).f t)⟩
  | 4 => ⟨fun _ t rows s => match newK rows s ((newF P d n op).f t (heapL rows) rows.length) with | some x => some x | none => wrK P (evF d n t) rows s op⟩
  | _ => ⟨fun _ t rows s => match (valF P d n op).f t (heapL rows) with | some v => some (v, rows, s) | none => newK rows s ((newF P d n op).f t (heapL rows) rows.length)⟩
def okK : Op → Bool
  | .sliceToArrayPointer _ x => operB x
  | op => opOK op
theorem okK_all {o : Op} (h : okK o = true) : o.operands.all operB = true := by
  unfold okK at h
  split at h
  · simp [Op.operands, h]
  · exact opOK_all h
theorem okK_call {o : Op} (h : okK o = true) (hk : kindK o = 3) : opOK o = true := by
  unfold okK at h
  split at h
  · cases hk
  · exact h
structure O3 (d : Nat) (κ : Type) where
  t : FR d
  r : List (Option Blk)
  s : κ
def goOn (d n : Nat) (dst : Option Tmp) (next : Bx (RunT κ → FR d → List (Option Blk) → κ → Option (O3 d κ))) : Bx (RunT κ → FR d → Option (Value × List (Option Blk) × κ) → Option (O3 d κ)) :=
  ⟨fun run t x => match x with | some (v, rows', s') => next.f run ((dstF d n dst).f t v) rows' s' | none => none⟩
def actF' (K : KF P X κ) (d n : Nat) (o : Oper) (next : Bx (RunT κ → FR d → List (Option Blk) → κ → Option (O3 d κ))) : Bx (RunT κ → FR d → List (Option Blk) → κ → Option (O3 d κ)) := match kindK o.op with
  | 0 => ⟨fun run t rows s => match (valF P d n o.op).f t (heapL rows) with | some v => next.f run ((dstF d n o.dst).f t v) rows s | none => none⟩
  | _ => ⟨fun run t rows s => (goOn d n o.dst next).f run t ((oneF K d n o.op).f run t rows s)⟩
def stepF (K : KF P X κ) (d n : Nat) (ops : Array Oper) (o : Oper) (next : Bx (RunT κ → FR d → List (Option Blk) → κ → Option (O3 d κ))) : Bx (RunT κ → FR d → List (Option Blk) → κ → Option (O3 d κ)) := match okK o.op with
  | false => ⟨fun _ _ _ _ => none⟩
  | true => (match o.guard with
    | none => actF' K d n o next
    | some (j, w) => ⟨fun run t rows s => match wantB ((yieldF d n ops j).f t) w with
      | true => (actF' K d n o next).f run t rows s
      | false => next.f run ((dstF d n o.dst).f t undef) rows s⟩)
def opsF (K : KF P X κ) (d n : Nat) (ops : Array Oper) : List Oper → Bx (RunT κ → FR d → List (Option Blk) → κ → Option (O3 d κ))
  | [] => ⟨fun _ t rows s => some ⟨t, rows, s⟩⟩
  | o :: l => stepF K d n ops o (opsF K d n ops l)
def visB (n0 : Nat) (born : List (Nat × Nat)) (mask : Nat) (n : Nat) : Bool := Nat.ble (n + 1) n0 || born.any (fun p => p.2 == n && mask.testBit p.1)
structure DE where
  n0 : Nat
  T : List Nat
  hf : AHeap
def farH (T : List Nat) (rows : List (Option Blk)) : AHeap := ⟨fun n => match T.elem n with
  | true => ((rows[n]?).join).map (fun b => { b with ro := true })
  | false => none, rows.length⟩
def storeOK (d n : Nat) (op : Op) : Bx (FR d → List Nat → Bool) := match op with
  | .store _ x _ => ⟨fun t T => match T with
    | [] => true
    | T => (match (opF d n x).f t with | .pointer (some a) => notB (T.elem a.block) | _ => false)⟩
  | _ => ⟨fun _ T => match T with | [] => true | _ => false⟩
def oneD (K : KF P X κ) (d n : Nat) (mask : Nat) (inW : Bool) (op : Op) : Bx (RunT κ → FR d → List (Option Blk) → κ → DE → List (Nat × Nat) → Option (Value × List (Option Blk) × κ)) := match kindK op with
  | 0 => ⟨fun _ t rows s de born => match (valF P d n op).f t (visH de.n0 born mask (heapL rows)) with | some v => some (v, rows, s) | none => none⟩
  | 1 => ⟨fun _ t rows s de born => newK rows s ((newF P d n op).f t (visH de.n0 born mask (heapL rows)) rows.length)⟩
  | 2 => ⟨fun _ t rows s de _ => match (storeOK d n op).f t de.T with | true => wrK P (evF d n t) rows s op | false => none⟩
  | 3 => (match inW with
    | true => ⟨fun run t rows s de _ => match de.T with | [] => clK K run (fun _ => true) false rows s ((callF P d n op).f t) | _ => none⟩
    | false => ⟨fun run t rows s de born => clK K run (visB de.n0 born mask) true rows s ((callF P d n op).f t)⟩)
  | 4 => (match inW with
    | true => ⟨fun _ t rows s de _ => match (storeOK d n op).f t de.T with | true => (match newK rows s ((newF P d n op).f t (heapL rows) rows.length) with | some x => some x | none => wrK P (evF d n t) rows s op) | false => none⟩
    | false => ⟨fun _ t rows s de born => newK rows s ((newF P d n op).f t (visH de.n0 born mask (heapL rows)) rows.length)⟩)
  | _ => ⟨fun _ t rows s de born => match (valF P d n op).f t (visH de.n0 born mask (heapL rows)) with | some v => some (v, rows, s) | none => none⟩
def farD (K : KF P X κ) (d n : Nat) (W : List Nat) (mask i : Nat) (op : Op) : Bx (RunT κ → FR d → List (Option Blk) → κ → DE → List (Nat × Nat) → Option (Value × List (Option Blk) × κ)) := match farB W i with
  | false => oneD K d n mask (W.contains i) op
  | true => (match kindK op with
    | 0 => ⟨fun _ t rows s de _ => match (valF P d n op).f t de.hf with | some v => some (v, rows, s) | none => none⟩
    | _ => ⟨fun _ _ _ _ _ _ => none⟩)
def goOnD (d n : Nat) (i : Nat) (dst : Option Tmp) (next : Bx (RunT κ → FR d → List (Option Blk) → κ → DE → List (Nat × Nat) → Option (O3 d κ))) : Bx (RunT κ → FR d → Nat → DE → List (Nat × Nat) → Option (Value × List (Option Blk) × κ) → Option (O3 d κ)) :=
  ⟨fun run t len de born x => match x with | some (v, rows', s') => next.f run ((dstF d n dst).f t v) rows' s' de (bornN i len rows'.length ++ born) | none => none⟩
def stepD (K : KF P X κ) (d n : Nat) (ops : Array Oper) (W : List Nat) (ms : List Nat) (o : Oper) (i : Nat) (next : Bx (RunT κ → FR d → List (Option Blk) → κ → DE → List (Nat × Nat) → Option (O3 d κ))) : Bx (RunT κ → FR d → List (Option Blk) → κ → DE → List (Nat × Nat) → Option (O3 d κ)) := match okK o.op with
  | false => ⟨fun _ _ _ _ _ _ => none⟩
  | true => (match o.guard with
    | none => ⟨fun run t rows s de born => (goOnD d n i o.dst next).f run t rows.length de born ((farD K d n W (ms.getD i 0) i o.op).f run t rows s de born)⟩
    | some (j, w) => ⟨fun run t rows s de born => match wantB ((yieldF d n ops j).f t) w with
      | true => (goOnD d n i o.dst next).f run t rows.length de born ((farD K d n W (ms.getD i 0) i o.op).f run t rows s de born)
      | false => next.f run ((dstF d n o.dst).f t undef) rows s de born⟩)
def opsD (K : KF P X κ) (d n : Nat) (ops : Array Oper) (W : List Nat) (ms : List Nat) : List Oper → Nat → Bx (RunT κ → FR d → List (Option Blk) → κ → DE → List (Nat × Nat) → Option (O3 d κ))
  | [], _ => ⟨fun _ t rows s _ _ => some ⟨t, rows, s⟩⟩
  | o :: l, i => stepD K d n ops W ms o i (opsD K d n ops W ms l (i + 1))
def appW : List Oper → Nat → List Nat
  | [], _ => []
  | o :: l, i => match Nat.beq (kindK o.op) 4 with | true => i :: appW l (i + 1) | false => appW l (i + 1)
def callW : List Oper → Nat → List Nat
  | [], _ => []
  | o :: l, i => match Nat.beq (kindK o.op) 4 || Nat.beq (kindK o.op) 3 with | true => i :: callW l (i + 1) | false => callW l (i + 1)
def loadW : List Oper → Nat → List Nat
  | [], _ => []
  | o :: l, i => match o.op with | .load _ _ => (i + 1000000) :: loadW l (i + 1) | _ => loadW l (i + 1)
def pickW (ops : Array Oper) : List (List Nat) → Option (List Nat)
  | [] => none
  | W :: l => match drawB W ops with | true => some W | false => pickW ops l
def drawW (ops : Array Oper) : Option (List Nat) := match Nat.ble ops.toList.length 1000000 with
  | true => pickW ops [callW ops.toList 0, appW ops.toList 0, loadW ops.toList 0, appW ops.toList 0 ++ loadW ops.toList 0, []]
  | false => none
def farT (d n : Nat) (W : List Nat) : List Oper → Nat → Bx (FR d → List Nat)
  | [], _ => ⟨fun _ => []⟩
  | o :: l, i => match farB W i, o.op with
    | true, .load _ x => ⟨fun t => match (opF d n x).f t with | .pointer (some a) => a.block :: (farT d n W l (i + 1)).f t | _ => (farT d n W l (i + 1)).f t⟩
    | _, _ => farT d n W l (i + 1)
def res1F (P : Program) (d n : Nat) : ResultVar → Bx (FR d → AHeap → Option Value)
  | .tmp i => ⟨fun t _ => some ((gF undef d n i).f t)⟩
  | .cell a ty => loadF P d n ty (.tmp a)
theorem res1F_eq {d n : Nat} (h : n ≤ 2 ^ d) {t : FR d} {hp : AHeap} {r : ResultVar} {v : Value} (hv : (res1F P d n r).f t hp = some v) : res1A P (absT d n t) hp r = some v := by
  cases r with
  | tmp i =>
    simp only [res1F, Option.some.injEq] at hv
    simp only [res1A, Option.some.injEq]
    rw [← hv, gF_eq h t i]
  | cell a ty =>
    have := loadF_eq hv
    simp only [valA, evF_eq h] at this
    simp only [res1A]
    exact this
def resF (P : Program) (d n : Nat) : List ResultVar → Bx (FR d → AHeap → Option Value)
  | [] => ⟨fun _ _ => some (.tuple #[])⟩
  | [r] => res1F P d n r
  | [r, q] => ⟨fun t h => match (res1F P d n r).f t h, (res1F P d n q).f t h with | some x, some y => some (.tuple #[x, y]) | _, _ => none⟩
  | [r, q, s] => ⟨fun t h => match (res1F P d n r).f t h, (res1F P d n q).f t h, (res1F P d n s).f t h with | some x, some y, some z => some (.tuple #[x, y, z]) | _, _, _ => none⟩
  | [r, q, s, u] => ⟨fun t h => match (res1F P d n r).f t h, (res1F P d n q).f t h, (res1F P d n s).f t h, (res1F P d n u).f t h with | some x, some y, some z, some a => some (.tuple #[x, y, z, a]) | _, _, _, _ => none⟩
  | _ => ⟨fun _ _ => none⟩
theorem resF_eq {d n : Nat} (h : n ≤ 2 ^ d) {t : FR d} {hp : AHeap} {fn : Func} {v : Value} (hv : (resF P d n fn.results.toList).f t hp = some v) : resA P fn (absT d n t) hp = some v := by
  unfold resA
  unfold resF at hv
  split at hv
  · rename_i e; rw [e]; exact hv
  · rename_i r e; rw [e]; exact res1F_eq h hv
  · rename_i r q e
    rw [e]
    simp only at hv ⊢
    split at hv
    · rename_i x y hx hy; rw [res1F_eq h hx, res1F_eq h hy]; exact hv
    · cases hv
  · rename_i r q s e
    rw [e]
    simp only at hv ⊢
    split at hv
    · rename_i x y z hx hy hz; rw [res1F_eq h hx, res1F_eq h hy, res1F_eq h hz]; exact hv
    · cases hv
  · rename_i r q s u e
    rw [e]
    simp only at hv ⊢
    split at hv
    · rename_i x y z a hx hy hz ha; rw [res1F_eq h hx, res1F_eq h hy, res1F_eq h hz, res1F_eq h ha]; exact hv
    · cases hv
  · cases hv
def frameF (d n : Nat) : List Value → Nat → FR d → FR d
  | [], _, t => t
  | v :: l, i, t => frameF d n l (i + 1) ((sF d n i).f t v)
inductive Do' where
  | ret
  | reg (ops : Array Oper) (k : List Item)
  | drw (W : List Nat) (ops : Array Oper) (k : List Item)
  | cnd (c : Operand) (x y : List Item)
  | bad
def nextT : Nat → List Item → Do'
  | 0, _ => .bad
  | f + 1, todo => match todo with
    | [] => .ret
    | .code .ret :: _ => .ret
    | .code (.region _ ops false) :: k => .reg ops k
    | .code (.region _ ops true) :: k => (match drawW ops with | some W => .drw W ops k | none => .bad)
    | .code (.cond c x y) :: k => .cnd c (.code x :: k) (.code y :: k)
    | todo => (match ctl [] todo with | some todo' => nextT f todo' | none => .bad)
def goK (K : KF P X κ) : Nat → (fn : Func) → List Item → FR (depN fn.ntmps) → List (Option Blk) → κ → Option (Value × List (Option Blk) × κ)
  | 0, _, _, _, _, _ => none
  | m + 1, fn, todo, t, rows, s =>
    let run : RunT κ := fun g c args l s => match Nat.ble args.length g.ntmps && Nat.ble g.ntmps 4000000 with
      | true => goK K m g [.code c] (frameF (depN g.ntmps) g.ntmps args 0 (manyT undef (depN g.ntmps))) l s
      | false => none
    match nextT 1000 todo with
    | .ret => (match (resF P (depN fn.ntmps) fn.ntmps fn.results.toList).f t (heapL rows) with | some v => some (v, rows, s) | none => none)
    | .reg ops k => (match (opsF K (depN fn.ntmps) fn.ntmps ops ops.toList).f run t rows s with
      | some ⟨t', rows', s'⟩ => goK K m fn k t' rows' s'
      | none => none)
    | .drw W ops k => (match (opsD K (depN fn.ntmps) fn.ntmps ops W (masksFrom ops.toList []) ops.toList 0).f run t rows s (match (farT (depN fn.ntmps) fn.ntmps W ops.toList 0).f t with | [] => ⟨rows.length, [], AHeap.none⟩ | T => ⟨rows.length, T, farH T rows⟩) [] with
      | some ⟨t', rows', s'⟩ => goK K m fn k t' rows' s'
      | none => none)
    | .cnd c x y => (match (opF (depN fn.ntmps) fn.ntmps c).f t with
      | .bool true => goK K m fn x t rows s
      | .bool false => goK K m fn y t rows s
      | _ => none)
    | .bad => none
end
end Go.Proofs.Ytjdbknnacaacaaa
