/-
  A run of the abstract machine that the kernel carries out, part 2: operations.
  No condition: definitions and laws.
-/
import Derived.Test.YtceddijolfpppaaRun1
namespace Go.Proofs.Ytceddijolfpppaa
open Go Go.RowKit
set_option linter.unusedSimpArgs false
set_option linter.unusedVariables false

section
variable {P : Program} {e : Operand → Value} {rows : List (Option Blk)}

/-! ### values, with lists in place of arrays -/
def partK (P : Program) (t : TypeId) (cs : List Value) (off : Nat) : Option Value := match tyAgg P t, tySize P t with
  | some true, some s => some (.agg ⟨(cs.drop off).take s⟩)
  | some false, _ => cs[off]?
  | _, _ => none
theorem partK_eq {t : TypeId} {cs : Array Value} {off : Nat} : partK P t cs.toList off = partA P t cs off := by
  unfold partK partA
  rcases tyAgg P t with _ | _ | _ <;> rcases tySize P t with _ | s <;> try rfl
  · simp
  · simp
  · simp only [Option.some.injEq, Value.agg.injEq]
    apply Array.ext'
    simp [Array.toList_extract, List.extract_eq_take_drop]
def fieldK (P : Program) (t : TypeId) (x : Value) (i : Nat) : Option Value := match x, tyField P t i with
  | .agg cs, some (off, ft) => partK P ft cs.toList off
  | _, _ => none
theorem fieldK_eq {t : TypeId} {x : Value} {i : Nat} : fieldK P t x i = fieldA P t x i := by
  unfold fieldK fieldA
  cases x with
  | agg cs => cases tyField P t i with
    | none => rfl
    | some p => obtain ⟨off, ft⟩ := p; exact partK_eq
  | _ => cases tyField P t i <;> rfl
def indexK (P : Program) (t : TypeId) (x i : Value) : Option Value := match x, i, tyArray P t with
  | .agg cs, .int _ n, some (_, el) => (match tySize P el with
    | some s => (match n with
      | .ofNat m => (match tyArray P t with | some (len, _) => (match Nat.ble (m + 1) len with | true => partK P el cs.toList (m * s) | false => none) | none => none)
      | .negSucc _ => none)
    | none => none)
  | _, _, _ => none
theorem indexK_eq {t : TypeId} {x i v : Value} (h : indexK P t x i = some v) : indexA P t x i = some v := by
  unfold indexK at h
  split at h
  · rename_i cs k n len el hta
    unfold indexA
    simp only [hta] at h ⊢
    split at h
    · rename_i s hs
      split at h
      · rename_i m
        split at h
        · rename_i hb
          have := Nat.le_of_ble_eq_true hb
          have hn : (Int.ofNat m).toNat = m := rfl
          have hc : 0 ≤ Int.ofNat m ∧ Int.ofNat m < (len : Int) := ⟨Int.natCast_nonneg m, Int.ofNat_lt.2 (by omega)⟩
          rw [partK_eq] at h
          simp only [hs, hc, and_self, if_true, hn]
          exact h
        · cases h
      · cases h
    · cases h
  · cases h
def valK (P : Program) (e : Operand → Value) (h : AHeap) (op : Op) : Option Value := match op with
  | .field t x i => fieldK P t (e x) i
  | .index t x i => (match indexK P t (e x) (e i) with | some v => some v | none => valA P e h op)
  | .makeFunc fn xs ys => some (.func fn ⟨xs.toList.map e⟩ ⟨ys.toList.map e⟩)
  | _ => valA P e h op
theorem valK_eq {h : AHeap} {op : Op} {v : Value} (hv : valK P e h op = some v) : valA P e h op = some v := by
  unfold valK at hv
  split at hv
  · rw [fieldK_eq] at hv; exact hv
  · split at hv
    · rename_i v' hv'; cases hv; exact indexK_eq hv'
    · exact hv
  · cases hv
    simp only [valA, Option.some.injEq, Value.func.injEq, true_and]
    constructor <;> (apply Array.ext'; simp)
  · exact hv

/-- A call: which function, with which arguments. -/
def callK (P : Program) (e : Operand → Value) : Op → Option (FuncId × List Value)
  | .call { callee := .value f, args, .. } => (match e f with
    | .func (.func g) xs ys => some (g, xs.toList ++ (args.toList.map e ++ ys.toList))
    | _ => none)
  | .call { callee := .invoke r name, args, .. } => (match e r with
    | .iface t (.pointer p) => (match methA P t name with | some f => some (f, .pointer p :: args.toList.map e) | none => none)
    | _ => none)
  | _ => none
theorem callK_eq {op : Op} {f : FuncId} {args : List Value} (h : callK P e op = some (f, args)) : callA P e op = some (f, args.toArray) := by
  unfold callK at h
  split at h
  · split at h
    · rename_i g xs ys hf
      cases h
      simp only [callA, hf, Option.some.injEq, Prod.mk.injEq, true_and]
      apply Array.ext'; simp
    · cases h
  · split at h
    · rename_i t p hr
      split at h
      · rename_i f' hm
        cases h
        simp only [callA, hr, hm, Option.some.injEq, Prod.mk.injEq, true_and]
        apply Array.ext'; simp
      · cases h
    · cases h
  · cases h

/-! ### what writes rows -/
def storeL (P : Program) (l : List (Option Blk)) (t : TypeId) (a : Addr) (v : Value) : Option (List (Option Blk)) := match (l[a.block]?).join, tySize P t with
  | some b, some s =>
    if a.spot = none ∧ b.ro = false then
      (match v with
      | .agg cs => if cs.toList.length = s ∧ a.off + s ≤ b.cells.length ∧ cs.toList.all cellB = true then some (l.set a.block (some { b with cells := spliceA b.cells a.off cs.toList })) else none
      | .tuple _ => none
      | v => if s = 1 ∧ a.off < b.cells.length then some (l.set a.block (some { b with cells := b.cells.set a.off v })) else none)
    else none
  | _, _ => none
theorem row_lt {l : List (Option Blk)} {n : Nat} {b : Blk} (h : (l[n]?).join = some b) : n < l.length := by
  rcases Nat.lt_or_ge n l.length with h' | h'
  · exact h'
  · rw [List.getElem?_eq_none h'] at h; cases h
theorem storeL_eq {l l' : List (Option Blk)} {t : TypeId} {a : Addr} {v : Value} (h : storeL P l t a v = some l') : storeA P (heapL l) t a v = some (heapL l') := by
  unfold storeL at h
  unfold storeA
  rw [heapL_get]
  split at h
  · rename_i b s hb hs
    have hlt := row_lt hb
    simp only [hb, hs]
    split at h
    · rename_i hc
      rw [if_pos hc]
      cases v with
      | agg cs =>
        simp only at h ⊢
        split at h
        · rename_i hc2
          rw [if_pos (by simpa using hc2)]
          cases h
          rw [heapL_put _ _ _ hlt]
        · cases h
      | tuple cs => cases h
      | _ =>
        simp only at h ⊢
        split at h
        · rename_i hc2
          cases h
          rw [if_pos hc2, heapL_put _ _ _ hlt]
        · cases h
    · cases h
  · cases h

def wrL (P : Program) (e : Operand → Value) (l : List (Option Blk)) : Op → Option (Value × List (Option Blk))
  | .store t x y => (match e x with | .pointer (some a) => (match storeL P l t a (e y) with | some l' => some (undef, l') | none => none) | _ => none)
  | .call { callee := .builtin .append, args, argTypes } => (match args.toList, argTypes.toList with
    | [x, y], [t, t'] => if t = t' then (match e x, tySlice P t, e y with
      | .slice none 0 0, some el, .slice _ 0 _ => (match tySize P el with | some _ => some (.slice none 0 0, l) | none => none)
      | .slice (some a) sl sc, some el, .slice b n c => (match tySize P el with
        | some s => if sl + n ≤ sc then (match n, cellsA (heapL l) s (.slice b n c), (l[a.block]?).join with
            | 0, _, _ => some (.slice (some a) sl sc, l)
            | _, some news, some bk => if bk.ro = false ∧ a.spot = none ∧ a.off + sl * s + news.length ≤ bk.cells.length ∧ news.length = n * s ∧ news.all cellB = true then
                some (.slice (some a) (sl + n) sc, l.set a.block (some { bk with cells := spliceA bk.cells (a.off + sl * s) news })) else none
            | _, _, _ => none)
          else (match appendA P (heapL l) t (e x) (e y) with
            | some (cs, el, need, false) => (match Nat.ble l.length a.block with
              | true => none
              | false => some (.slice (some ⟨l.length, 0, none⟩) need need, (l.set a.block none) ++ [some ⟨cs, el, false, tySize P el⟩]))
            | _ => none)
        | none => none)
      | _, _, _ => none) else none
    | _, _ => none)
  | _ => none
theorem wrL_eq {l l' : List (Option Blk)} {op : Op} {v : Value} (h : wrL P e l op = some (v, l')) : wrA P e (heapL l) op = some (v, heapL l') := by
  unfold wrL at h
  split at h
  · rename_i t x y
    split at h
    · rename_i a ha
      split at h
      · rename_i l1 hl
        cases h
        simp only [wrA, ha, storeL_eq hl, Option.map_some]
      · cases h
    · cases h
  · rename_i args argTypes
    split at h
    · rename_i x y t t' hargs htys
      split at h
      · rename_i htt
        simp only [wrA, hargs, htys, if_pos htt]
        split at h
        · rename_i el q1 q2 he1 he2 he3
          split at h
          · rename_i s hs; cases h; simp only [he1, he2, he3, hs]
          · cases h
        · rename_i a sl sc el b n c he1 he2 he3
          simp only [he1, he2, he3]
          split at h
          · rename_i s hs
            simp only [hs]
            split at h
            · rename_i hle
              rw [if_pos hle]
              rw [heapL_get]
              cases n with
              | zero => cases h; rfl
              | succ n =>
                cases hc1 : cellsA (heapL l) s (.slice b (n + 1) c) with
                | none => rw [hc1] at h; cases h
                | some news =>
                  cases hb1 : (l[a.block]?).join with
                  | none => rw [hc1, hb1] at h; cases h
                  | some bk =>
                    rw [hc1, hb1] at h
                    simp only at h ⊢
                    split at h
                    · rename_i hcond
                      rw [if_pos hcond]
                      cases h
                      rw [heapL_put _ _ _ (row_lt hb1)]
                    · cases h
            · rename_i hle
              rw [if_neg hle]
              split at h
              · rename_i cs el' need hap
                split at h
                · cases h
                · rename_i hb
                  have hlt : a.block < l.length := by
                    rcases Nat.lt_or_ge a.block l.length with h' | h'
                    · exact h'
                    · rw [Nat.ble_eq_true_of_le h'] at hb; cases hb
                  cases h
                  rw [he1, he3] at hap
                  simp only [hap, heapL_next]
                  rw [heapL_putO _ _ _ hlt, heapL_addO]
              · cases h
          · cases h
        · cases h
      · cases h
    · cases h
  · cases h
end
end Go.Proofs.Ytceddijolfpppaa
