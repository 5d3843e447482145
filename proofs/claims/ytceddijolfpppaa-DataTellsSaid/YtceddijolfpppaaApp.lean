/-
  The abstract machine: append, in whatever of its ways.
  No condition: laws.
-/
import Derived.Test.YtceddijolfpppaaURunsD
import Derived.Test.YtceddijolfpppaaUQuick
namespace Go.Proofs.Ytceddijolfpppaa
open Go Go.RowKit
set_option linter.unusedSimpArgs false
set_option linter.unusedVariables false
def appAt (P : Program) (h : AHeap) (t : TypeId) (X Y : Value) : Option (Value × AHeap) := match X, tySlice P t, Y with
  | .slice none 0 0, some el, .slice _ 0 _ => (match tySize P el with | some _ => some (.slice none 0 0, h) | none => none)
  | .slice (some a) sl sc, some el, .slice b n c => (match tySize P el with
    | some s => if sl + n ≤ sc then (match n, cellsA h s (.slice b n c), h.get a.block with
        | 0, _, _ => some (.slice (some a) sl sc, h)
        | _, some news, some bk => if bk.ro = false ∧ a.spot = none ∧ a.off + sl * s + news.length ≤ bk.cells.length ∧ news.length = n * s ∧ news.all cellB = true then
            some (.slice (some a) (sl + n) sc, h.put a.block { bk with cells := spliceA bk.cells (a.off + sl * s) news }) else none
        | _, _, _ => none)
      else (match appendA P h t X Y with
        | some (cs, el, need, false) => some (.slice (some ⟨h.next, 0, none⟩) need need, (h.putO a.block none).addO (some ⟨cs, el, false, tySize P el⟩))
        | _ => none)
    | none => none)
  | _, _, _ => none
def AppTo (P : Program) (h : AHeap) (t : TypeId) (X Y : Value) (v : Value) (h' : AHeap) : Prop := appAt P h t X Y = some (v, h') ∨ ∃ ob, appV P h h.next t X Y = some (v, ob) ∧ h' = h.addO ob
structure AppT (P : Program) (t el : TypeId) (s : Nat) : Prop where
  sl : tySlice P t = some el
  sz : tySize P el = some (s + 1)
  bs : ∃ bs, tyBytes P el = some bs ∧ bs ≤ 1048576
  z : ∃ z, tyZero P el = some z ∧ plainB z = true ∧ z.cells.size = s + 1
section
variable {P : Program} {h : AHeap} {t el : TypeId} {s : Nat}
attribute [go_sem] Int.toNat_zero Int.toNat_one Option.map_some Option.map_none
end
section
variable {P : Program} {σ : Type} {X : Face P σ} {fn : Func} {A : Conf σ → Prop} {ops : Array Oper} {k : List Item} {i : Nat} {tmps : List Value} {h h' : AHeap} {S : σ} {o : Oper} {x y : Operand} {t : TypeId} {v : Value}
theorem wr_append {e : Operand → Value} : wrA P e h (.call { callee := .builtin .append, args := #[x, y], argTypes := #[t, t] }) = appAt P h t (e x) (e y) := by
  unfold wrA appAt
  simp only [if_true]
  rfl
theorem AppTo.op (e : AppTo P h t (evA tmps x) (evA tmps y) v h') (hop : o.op = .call { callee := .builtin .append, args := #[x, y], argTypes := #[t, t] }) : Op0 X o (evA tmps) h S v h' S := by
  rcases e with e | ⟨ob, e, rfl⟩
  · exact .inr (.inr (.inl ⟨by rw [hop, wr_append]; exact e, rfl⟩))
  · exact .inr (.inl ⟨ob, by rw [hop, n_append]; exact e, rfl, rfl⟩)
variable {W : List Nat} {n0 : Nat} {hf : AHeap} {Kf : List Value → AHeap → σ → Prop} {born : List (Nat × Nat)}
end
end Go.Proofs.Ytceddijolfpppaa
