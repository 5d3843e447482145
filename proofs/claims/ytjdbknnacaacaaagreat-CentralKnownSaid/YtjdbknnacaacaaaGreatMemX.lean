/-
  Copies of a memory, and whether two are the same: out of runs of the abstract machine over rows alone.
  Conditions: the memories are there.
-/
import Derived.Test.YtjdbknnacaacaaaGreatAx14
import Derived.Test.YtjdbknnacaacaaaGreatCopy
namespace Go.Proofs.YtjdbknnacaacaaaGreat
open Go Go.RowKit
set_option linter.unusedSimpArgs false
set_option linter.unusedVariables false

/-- No state, no calls that are known by it. -/
def BF : Face Tryz.prog Unit where
  mix := Tryz.mix
  cnt := fun _ => 0
  rep := fun _ _ _ => True
  fp := fun _ _ _ => False
  prim := fun _ _ _ _ _ => False
  rep_same := fun _ _ _ _ _ _ => ⟨trivial, fun _ h => h⟩
  rep_kept := fun _ _ _ _ _ _ _ => trivial
  fp_low := fun _ _ _ _ _ h => h.elim
  prim_hand := fun _ _ _ _ _ h => h.elim
  prim_ok := fun _ _ _ _ _ _ _ h _ => h.elim

/-- One new row is handed over. -/
theorem Gives.one {cnt : Nat} {l : List Blk} {h1 : AHeap} {v0 v : Value} {n0 : Nat} {b0 : Blk} (hro : l.all (·.ro) = true) (hn : l.length ≤ n0) (hn' : n0 < VB) (hl : l.length < VB) (hg : h1.get n0 = some b0) (hb : b0.ro = false) (hp : ∀ u ∈ b0.cells, plainB u = true)
    (hv : v = ren (nameE fun n => if n = n0 then l.length else n) v0) (hc : Clo (fun n => n < l.length ∨ n ∈ [n0] ∨ (VB ≤ n ∧ n < VB + cnt)) v0) : Gives cnt l l [b0] [n0] (fun n => if n = n0 then l.length else n) h1 v0 v where
  low := fun n hn2 => if_neg (by omega)
  hand := fun n hn2 => if_neg (by omega)
  more := fun j n hj => by
    match j, hj with
    | 0, hj => simp at hj; subst hj; exact ⟨hn, hn', by simp⟩
    | j + 1, hj => simp at hj
  nodup := by simp
  len := rfl
  len' := rfl
  told := hv
  clo := hc
  rows := fun i b hb hr => by
    have := List.all_eq_true.1 hro b (List.mem_of_getElem? hb)
    rw [hr] at this; cases this
  news := fun j n hj => by
    match j, hj with
    | 0, hj =>
      simp at hj; subst hj
      refine ⟨b0, hg, ?_, hb, fun u hu => Clo.plain (hp u hu)⟩
      unfold renB
      rw [← plain_map hp]
      rfl
    | j + 1, hj => simp at hj

theorem numRow_len {k : IntKind} {ns : List Int} : (numRow k ns).length = ns.length := by simp [numRow]
theorem numRow_get {k : IntKind} {ns : List Int} {i : Nat} (h : i < ns.length) : (numRow k ns)[i]? = some (.int k ns[i]) := by simp [numRow, h]
def numB (k : IntKind) (e : TypeId) (ns : List Int) : Blk := ⟨numRow k ns, e, true, none⟩
theorem clo_sq {q n c a m : Nat} (h : q < n) : Clo (Kn n c) (.slice (some ⟨q, 0, none⟩) a m) := fun F F' hs => by
  obtain ⟨h1, h2, h3⟩ := hs q (.inl h)
  simp [adr, h1, h2, h3]
theorem clo_pq {q n c : Nat} (h : q < n) : Clo (Kn n c) (.pointer (some ⟨q, 0, none⟩)) := fun F F' hs => by
  obtain ⟨h1, h2, h3⟩ := hs q (.inl h)
  simp [adr, h1, h2]



end Go.Proofs.YtjdbknnacaacaaaGreat
