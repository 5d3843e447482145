/-
  Copies of a memory, and whether two are the same: contracts of slices.Clone, slices.Equal, Copy, Same.
  Conditions: the memories are there.
-/
import Derived.Test.YtjdbknnacaacaaaGreatMem2
import Derived.Lib.SliceRun
import Derived.OwnWalk
namespace Go.Proofs.YtjdbknnacaacaaaGreat
open Go Go.RowKit
set_option linter.unusedSimpArgs false
set_option linter.unusedVariables false

theorem oneCells {xs : List Value} (h : ∀ x ∈ xs, ∃ k n, x = Value.int k n) : ∀ u ∈ xs, u.oneCell' = true := by
  intro u hu; obtain ⟨k, n, rfl⟩ := h u hu; rfl

/-- The row that an append made: its numbers, and what room lies behind them. -/
theorem row_of {w : World} {base : Nat} {e : TypeId} {v : Value} {n : Nat} {xs : List Value} (h : w.ownsRow base e 1 v n xs) (hv : v ≠ .slice none 0 0) :
    ∃ (g : Nat) (q : Array Value), v = .slice (some ⟨g, 0, none⟩) n (n + q.size) ∧ blk w g = some (.cells (xs.toArray ++ q) e (0, 0)) ∧ base ≤ g := by
  obtain ⟨hl, h | ⟨g, cap, cur, rfl, hb, hg, hn, hm, hs, ht⟩⟩ := h
  · exact absurd h.1 hv
  · refine ⟨g, (cur.toList.drop n).toArray, ?_, ?_, hb⟩
    · simp; omega
    · unfold blk; rw [hg]
      rw [Nat.mul_one] at ht
      rw [← ht]
      simp


/-- A copy of a memory. -/
def MemCopied (w : World) (ws : List UInt64) (bs : List UInt8) (e : Ending) (w' : World) : Prop :=
  ∃ M : MemId, e = .returned (.pointer (some ⟨M.m, 0, none⟩)) ∧ MemAt w' M ws bs ∧ Ext [] w w' ∧ w.heap.size ≤ M.m ∧ w.heap.size ≤ M.bw ∧ w.heap.size ≤ M.bb

end Go.Proofs.YtjdbknnacaacaaaGreat
