/-
  The abstract machine's heap with names that are forgotten: a loop each round of which makes rows.
  No condition: definitions and laws.
-/
import Derived.Test.YtceddijolfpppaaAx14
namespace Go.Proofs.Ytceddijolfpppaa
open Go Go.RowKit
set_option linter.unusedSimpArgs false
set_option linter.unusedVariables false

/-- Rows; names up to q of which nothing is known any more; further rows. -/
def heapJ (l : List (Option Blk)) (q : Nat) (l2 : List (Option Blk)) : AHeap := ⟨fun n => if n < q then (l[n]?).join else (l2[n - q]?).join, q + l2.length⟩
theorem gap_lo {l : List (Option Blk)} {q : Nat} {l2 : List (Option Blk)} {n : Nat} (h : n < q) : (heapJ l q l2).get n = (l[n]?).join := if_pos h
theorem gap_hi0 {l : List (Option Blk)} {q : Nat} {l2 : List (Option Blk)} : (heapJ l q l2).get q = (l2[0]?).join := by
  show (if q < q then _ else _) = _
  rw [if_neg (Nat.lt_irrefl q), Nat.sub_self]
theorem gap_hi {l : List (Option Blk)} {q : Nat} {l2 : List (Option Blk)} {i : Nat} : (heapJ l q l2).get (q + i) = (l2[i]?).join := by
  show (if q + i < q then _ else _) = _
  rw [if_neg (by omega), Nat.add_sub_cancel_left]
theorem gap_next (l : List (Option Blk)) (q : Nat) (l2 : List (Option Blk)) : (heapJ l q l2).next = q + l2.length := rfl
theorem ah_ext {a b : AHeap} (h1 : ∀ n, a.get n = b.get n) (h2 : a.next = b.next) : a = b := by
  cases a; cases b
  simp only [AHeap.mk.injEq]
  exact ⟨funext h1, h2⟩
theorem gap_addO (l : List (Option Blk)) (q : Nat) (l2 : List (Option Blk)) (b : Option Blk) : (heapJ l q l2).addO b = heapJ l q (l2 ++ [b]) := by
  refine ah_ext (fun n => ?_) (by simp [AHeap.addO, heapJ]; omega)
  rw [AHeap.addO_get, gap_next]
  show _ = (if n < q then _ else _)
  by_cases hn : n < q
  · rw [if_neg (by omega), if_pos hn, gap_lo hn]
  · obtain ⟨i, rfl⟩ : ∃ i, n = q + i := ⟨n - q, by omega⟩
    rw [gap_hi, if_neg hn, Nat.add_sub_cancel_left]
    by_cases hi : i = l2.length
    · subst hi; rw [if_pos rfl]; simp
    · rw [if_neg (by omega), List.getElem?_append]
      by_cases h2 : i < l2.length
      · rw [if_pos h2]
      · rw [if_neg h2, List.getElem?_eq_none (by omega), List.getElem?_eq_none (by simp; omega)]
theorem gap_putO_lo {l : List (Option Blk)} {q : Nat} {l2 : List (Option Blk)} {n : Nat} {b : Option Blk} (h : n < q) (hl : n < l.length) : (heapJ l q l2).putO n b = heapJ (l.set n b) q l2 := by
  refine ah_ext (fun m => ?_) rfl
  rw [AHeap.putO_get]
  show _ = (if m < q then _ else _)
  by_cases hm : m = n
  · subst hm; rw [if_pos rfl, if_pos h]; simp [hl]
  · rw [if_neg hm]
    show (if m < q then _ else _) = _
    rw [List.getElem?_set_ne (fun e => hm e.symm)]
theorem gap_putO_hi {l : List (Option Blk)} {q : Nat} {l2 : List (Option Blk)} {i : Nat} {b : Option Blk} (hl : i < l2.length) : (heapJ l q l2).putO (q + i) b = heapJ l q (l2.set i b) := by
  refine ah_ext (fun m => ?_) (by simp [AHeap.putO, heapJ])
  rw [AHeap.putO_get]
  show _ = (if m < q then _ else _)
  by_cases hm : m < q
  · rw [if_neg (by omega), if_pos hm, gap_lo hm]
  · obtain ⟨j, rfl⟩ : ∃ j, m = q + j := ⟨m - q, by omega⟩
    rw [gap_hi, if_neg hm, Nat.add_sub_cancel_left]
    by_cases hj : j = i
    · subst hj; rw [if_pos rfl]; simp [hl]
    · rw [if_neg (by omega), List.getElem?_set_ne (fun e => hj e.symm)]
theorem gap_putO_hi0 {l : List (Option Blk)} {q : Nat} {l2 : List (Option Blk)} {b : Option Blk} (hl : 0 < l2.length) : (heapJ l q l2).putO q b = heapJ l q (l2.set 0 b) := gap_putO_hi (i := 0) hl
theorem gap_put_lo {l : List (Option Blk)} {q : Nat} {l2 : List (Option Blk)} {n : Nat} {b : Blk} (h : n < q) (hl : n < l.length) : (heapJ l q l2).put n b = heapJ (l.set n (some b)) q l2 := by rw [put_putO, gap_putO_lo h hl]
theorem gap_put_hi {l : List (Option Blk)} {q : Nat} {l2 : List (Option Blk)} {i : Nat} {b : Blk} (hl : i < l2.length) : (heapJ l q l2).put (q + i) b = heapJ l q (l2.set i (some b)) := by rw [put_putO, gap_putO_hi hl]
theorem gap_put_hi0 {l : List (Option Blk)} {q : Nat} {l2 : List (Option Blk)} {b : Blk} (hl : 0 < l2.length) : (heapJ l q l2).put q b = heapJ l q (l2.set 0 (some b)) := by rw [put_putO, gap_putO_hi0 hl]
theorem gap_lim {l : List (Option Blk)} {q : Nat} {l2 : List (Option Blk)} (h : q + l2.length < 1000000000) : (heapJ l q l2).next < VB := by rw [gap_next]; unfold VB; omega
theorem gap_low (l : List (Option Blk)) (q : Nat) (l2 : List (Option Blk)) : (heapJ l q l2).Low := by
  intro n b hb
  rw [gap_next]
  by_cases hn : n < q
  · omega
  · obtain ⟨i, rfl⟩ : ∃ i, n = q + i := ⟨n - q, by omega⟩
    rw [gap_hi] at hb
    have : i < l2.length := by
      apply Nat.lt_of_not_le; intro h; rw [List.getElem?_eq_none h] at hb; simp at hb
    omega
theorem gap_of (l : List (Option Blk)) : heapL l = heapJ l l.length [] := by
  refine ah_ext (fun n => ?_) (by simp [heapL, heapJ])
  rw [heapL_get]
  show _ = (if n < l.length then _ else _)
  split
  · rfl
  · rw [List.getElem?_eq_none (by omega)]; simp
/-- What is no longer looked at is forgotten. -/
theorem Goes.forget {P : Program} {σ : Type} {X : Face P σ} {fn : Func} {A : Conf σ → Prop} {todo : List Item} {tmps : List Value} {l l2 : List (Option Blk)} {q : Nat} {S : σ} (hk : Goes X fn A (.run todo tmps (heapJ l (q + l2.length) []) S)) (hl : l.length ≤ q) : Goes X fn A (.run todo tmps (heapJ l q l2) S) := by
  refine .weak (h0 := heapJ l (q + l2.length) []) (fun n b hb => ?_) rfl hk
  have hn : n < l.length := by
    apply Nat.lt_of_not_le; intro h
    by_cases h2 : n < q + l2.length
    · rw [gap_lo h2, List.getElem?_eq_none h] at hb; simp at hb
    · obtain ⟨i, rfl⟩ : ∃ i, n = q + l2.length + i := ⟨n - (q + l2.length), by omega⟩
      rw [gap_hi] at hb; simp at hb
  rw [gap_lo (by omega)] at hb
  exact ⟨b, by rw [gap_lo (by omega)]; exact hb, rfl, rfl, fun h => h, .inl rfl⟩
theorem gap_0 (l : List (Option Blk)) (q : Nat) : q + ([] : List (Option Blk)).length = q := rfl
attribute [go_sem] gap_lo gap_hi0 gap_hi gap_next gap_addO gap_putO_lo gap_putO_hi gap_putO_hi0 gap_put_lo gap_put_hi gap_put_hi0
end Go.Proofs.Ytceddijolfpppaa
