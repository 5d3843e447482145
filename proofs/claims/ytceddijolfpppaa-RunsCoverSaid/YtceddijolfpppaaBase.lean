/-
  The words of all contracts: how a world may turn (Ext), what is returned (Ret).
  No condition: definitions and small laws.
-/
import Derived.Test.YtceddijolfpppaaRows
import Derived.Test.YtceddijolfpppaaLin
import Derived.WalkKit
import Derived.WalkSpells
import Derived.WalkLawsBesides
import Derived.BigQuiet
import Derived.Deep.MidRow
import Derived.Deep.RegionHeld3
namespace Go.Proofs.Ytceddijolfpppaa
open Go Go.RowKit
set_option linter.unusedSimpArgs false
set_option linter.unusedVariables false

/-- w' is w with new blocks, and what the blocks of X hold may be other. -/
structure Ext (X : List Nat) (w w' : World) : Prop where
  os : w'.os = w.os
  tape : w'.tape = w.tape
  output : w'.output = w.output
  size : w.heap.size ≤ w'.heap.size
  block : ∀ b, b < w.heap.size → b ∉ X → w'.heap[b]? = w.heap[b]?

theorem Ext.refl (X : List Nat) (w : World) : Ext X w w := ⟨rfl, rfl, rfl, Nat.le_refl _, fun _ _ _ => rfl⟩

theorem Ext.trans {X Y Z : List Nat} {a b c : World} (h : Ext X a b) (k : Ext Y b c) (hX : ∀ x ∈ X, x ∈ Z) (hY : ∀ y ∈ Y, y ∈ Z ∨ a.heap.size ≤ y) : Ext Z a c :=
  ⟨k.os.trans h.os, k.tape.trans h.tape, k.output.trans h.output, Nat.le_trans h.size k.size, fun x hx hz =>
    (k.block x (Nat.lt_of_lt_of_le hx h.size) (fun hy => by rcases hY x hy with h | h; exact hz h; omega)).trans (h.block x hx (fun hx' => hz (hX x hx')))⟩

theorem Ext.trans0 {X : List Nat} {a b c : World} (h : Ext X a b) (k : Ext [] b c) : Ext X a c := h.trans k (fun _ h => h) (by simp)
theorem Ext.of0 {X : List Nat} {a b c : World} (h : Ext [] a b) (k : Ext X b c) : Ext X a c := h.trans k (by simp) (fun _ h => .inl h)
theorem Ext.trans' {X : List Nat} {a b c : World} (h : Ext X a b) (k : Ext X b c) : Ext X a c := h.trans k (fun _ h => h) (fun _ h => .inl h)
theorem Ext.mono {X Y : List Nat} {a b : World} (h : Ext X a b) (hX : ∀ x ∈ X, x ∈ Y) : Ext Y a b := ⟨h.os, h.tape, h.output, h.size, fun x hx hy => h.block x hx (fun h' => hy (hX x h'))⟩
/-- What turned was new. -/
theorem Ext.drop {X Y : List Nat} {a b : World} (h : Ext X a b) (hX : ∀ x ∈ X, x ∈ Y ∨ a.heap.size ≤ x) : Ext Y a b :=
  ⟨h.os, h.tape, h.output, h.size, fun x hx hy => h.block x hx (fun h' => by rcases hX x h' with h | h; exact hy h; omega)⟩
theorem Ext.drew {X : List Nat} {a b : World} (h : Ext X a b) : Ext X a b.drew := ⟨h.os, h.tape, h.output, h.size, h.block⟩
theorem Ext.of_drew {X : List Nat} {a b : World} (h : Ext X a.drew b) : Ext X a b := ⟨h.os, h.tape, h.output, h.size, h.block⟩
theorem Ext.alloc {X : List Nat} {a b : World} (h : Ext X a b) (o : Obj) : Ext X a (b.alloc o) :=
  ⟨h.os, h.tape, h.output, Nat.le_trans h.size (by simp), fun x hx hn => (Below.heap_alloc b o x (Nat.lt_of_lt_of_le hx h.size)).trans (h.block x hx hn)⟩
theorem Ext.setCell {X : List Nat} {a b : World} (h : Ext X a b) {p : Addr} (hp : p.block ∈ X ∨ a.heap.size ≤ p.block) (u : Value) : Ext X a (b.setCell p u) :=
  ⟨h.os, h.tape, h.output, by simpa [World.setCell] using h.size, fun x hx hn => (Below.heap_setCell b p u x (by
    rintro rfl
    rcases hp with hp | hp
    · exact hn hp
    · omega)).trans (h.block x hx hn)⟩
theorem Ext.of_below {a b : World} (h : Below a.heap.size a b) : Ext [] a b := ⟨h.os, h.tape, h.output, h.size, fun x hx _ => h.block x hx⟩
theorem Ext.below {a b : World} (h : Ext [] a b) : Below a.heap.size a b := ⟨h.os, h.tape, h.output, h.size, fun x hx => h.block x hx (by simp)⟩
theorem Ext.at {X : List Nat} {a b : World} (h : Ext X a b) {x : Nat} {o : Obj} (ho : a.heap[x]? = some o) (hx : x ∉ X) : b.heap[x]? = some o :=
  (h.block x (lt_of_block ho) hx).trans ho
theorem Ext.cell {X : List Nat} {a b : World} (h : Ext X a b) {p : Addr} (hp : p.block < a.heap.size) (hx : p.block ∉ X) : b.cell? p = a.cell? p := World.cell?_of_block (w := a) (h.block p.block hp hx)
theorem Ext.frozen {X : List Nat} {a b : World} (h : Ext X a b) {p : Addr} (hp : p.block < a.heap.size) (hx : p.block ∉ X) : b.frozen? p = a.frozen? p := World.frozen?_of_block (w := a) (h.block p.block hp hx)

/-- It returns v, in a world of K. -/
def Ret (v : Value) (K : World → Prop) (e : Ending) (w : World) : Prop := e = .returned v ∧ K w

theorem ret_of {P : Program} {f : FuncId} {args : Array Value} {w : World} {v : Value} {K : World → Prop} (h : Calls P f args w (Ret v K)) : Calls P f args w (fun e w' => e = .returned v ∧ K w') := h
theorem hid {p : Prop} (h : p) : Hid p := h

/-- Block b of a world: a name that no rule on arrays turns. -/
def blk (w : World) (b : Nat) : Option Obj := w.heap[b]?
theorem blk_new (w : World) (o : Obj) : blk (w.alloc o) w.heap.size = some o := by
  show (w.heap.push o)[w.heap.size]? = some o
  simp
theorem blk_drew (w : World) (b : Nat) : blk w.drew b = blk w b := rfl
theorem blk_old (w : World) (o : Obj) (b : Nat) (h : b < w.heap.size) : blk (w.alloc o) b = blk w b := Below.heap_alloc w o b h
theorem blk_set (w : World) (a : Addr) (u : Value) (b : Nat) (h : b ≠ a.block) : blk (w.setCell a u) b = blk w b := Below.heap_setCell w a u b h
theorem blk_lt {w : World} {b : Nat} {o : Obj} (h : blk w b = some o) : b < w.heap.size := lt_of_block h
theorem blk_cell {w : World} {b : Nat} {cs : Array Value} {t : TypeId} {fr : Nat × Nat} (h : blk w b = some (.cells cs t fr)) (i : Nat) : w.cell? ⟨b, i, none⟩ = cs[i]? := by
  simp only [World.cell?, show w.heap[b]? = some (.cells cs t fr) from h]; rfl
theorem blk_free {w : World} {b : Nat} {cs : Array Value} {t : TypeId} (h : blk w b = some (.cells cs t (0, 0))) (i : Nat) : w.frozen? ⟨b, i, none⟩ = false := by
  simp only [World.frozen?, show w.heap[b]? = some (.cells cs t (0, 0)) from h]; simp
theorem Ext.blk {X : List Nat} {a b : World} (h : Ext X a b) {x : Nat} {o : Obj} (ho : blk a x = some o) (hx : x ∉ X) : blk b x = some o := h.at ho hx
theorem blk_at (w : World) (o : Obj) (n : Nat) (hn : n = w.heap.size) : blk (w.alloc o) n = some o := by subst hn; exact blk_new w o
attribute [go_sem] blk_at blk_drew blk_old

/-! ### whole rows: structs and arrays of many cells -/

/-- The first of its cells on, block b holds these. -/
def setRow (w : World) (b : Nat) (cs : Array Value) : World :=
  { w with heap := w.heap.modify b fun | .cells _ t fr => .cells cs t fr | o => o }

def over (c : Array Value) : Nat → List Value → Array Value
  | _, [] => c
  | o, v :: r => over (c.setIfInBounds o v) (o + 1) r

theorem over_size : ∀ (l : List Value) (c : Array Value) (o : Nat), (over c o l).size = c.size
  | [], _, _ => rfl
  | v :: l, c, o => by rw [over, over_size l]; simp

theorem over_get : ∀ (l : List Value) (c : Array Value) (o j : Nat), o + l.length ≤ c.size → (over c o l)[j]? = if o ≤ j ∧ j < o + l.length then l[j - o]? else c[j]?
  | [], c, o, j, _ => by rw [over, if_neg]; simp only [List.length_nil]; omega
  | v :: l, c, o, j, h => by
    simp only [List.length_cons] at h
    rw [over, over_get l _ _ _ (by simp; omega)]
    by_cases h1 : o + 1 ≤ j ∧ j < o + 1 + l.length
    · rw [if_pos h1, if_pos (by simp; omega), show j - o = (j - (o + 1)) + 1 by omega, List.getElem?_cons_succ]
    · rw [if_neg h1]
      by_cases h2 : j = o
      · subst h2
        rw [if_pos (by simp), Nat.sub_self, List.getElem?_cons_zero, Array.getElem?_setIfInBounds_self_of_lt (by omega)]
      · rw [if_neg (by simp; omega), Array.getElem?_setIfInBounds_ne (by omega)]

theorem over_all (l : List Value) (c : Array Value) (h : l.length = c.size) : over c 0 l = l.toArray := by
  apply Array.ext_getElem?
  intro j
  rw [over_get l c 0 j (by omega)]
  simp only [Nat.zero_add, Nat.sub_zero, Nat.zero_le, true_and, List.getElem?_toArray]
  split
  · rfl
  · rename_i hj
    rw [Array.getElem?_eq_none (by omega), List.getElem?_eq_none (by omega)]

theorem modify_modify (a : Array Obj) (b : Nat) (f g : Obj → Obj) : (a.modify b f).modify b g = a.modify b (fun o => g (f o)) := by
  apply Array.ext_getElem?
  intro j
  simp only [Array.getElem?_modify]
  split
  · cases a[j]? <;> rfl
  · rfl

theorem setCells_over (b : Nat) : ∀ (l : List Value) (o : Nat) (w : World), w.setCells b o l = { w with heap := w.heap.modify b fun | .cells c t fr => .cells (over c o l) t fr | x => x }
  | [], o, w => by
    have : (w.heap.modify b fun | .cells c t fr => .cells (over c o []) t fr | x => x) = w.heap := by
      apply Array.ext_getElem?
      intro j
      simp only [Array.getElem?_modify]
      split
      · cases w.heap[j]? with
        | none => rfl
        | some x => cases x <;> rfl
      · rfl
    rw [this]; rfl
  | v :: l, o, w => by
    rw [World.setCells, setCells_over b l (o + 1)]
    simp only [World.setCell, modify_modify]
    congr 2
    funext x
    cases x <;> rfl

/-- Has it so many cells, each of them one? (A name of its own: what is known of a size turns no index.) -/
def sizeIs (cs : Array Value) (n : Nat) : Bool := cs.size == n && cs.all (·.oneCell')
theorem sizeIs_size {cs : Array Value} {n : Nat} (h : sizeIs cs n = true) : cs.size = n := by simp only [sizeIs, Bool.and_eq_true, beq_iff_eq] at h; exact h.1
theorem sizeIs_one {cs : Array Value} {n : Nat} (h : sizeIs cs n = true) : cs.all (·.oneCell') = true := by simp only [sizeIs, Bool.and_eq_true, beq_iff_eq] at h; exact h.2
theorem sizeIs_lit (l : List Value) (n : Nat) : sizeIs l.toArray n = (l.length == n && l.all (·.oneCell')) := by simp [sizeIs]

def oldLoad (P : Program) (t : TypeId) (w : World) (b : Nat) : Result Value := (loadVar t ⟨b, 0, none⟩).run P w
/-- A whole struct or array of n cells out of the head of block b. -/
def rowLoad (P : Program) (t : TypeId) (n : Nat) (w : World) (b : Nat) : Result Value := match blk w b with
  | some (.cells cs _ _) => if sizeIs cs n = true then .ok (.agg cs) w else oldLoad P t w b
  | _ => oldLoad P t w b
theorem run_load_row {P : Program} {t : TypeId} {d : TypeDesc} {n : Nat} (hu : P.underlying t = some d) (hd : (match d with | .struct _ | .array _ _ => true | _ => false) = true) (hi : (P.info? t).map (·.size) = some n) (w : World) (b : Nat) :
    (loadVar t ⟨b, 0, none⟩).run P w = rowLoad P t n w b := by
  unfold rowLoad
  split
  · rename_i cs t' fr h
    split
    · rename_i hs
      exact run_loadVar_row w b t' t cs fr _ h hu hd (by rw [hi, sizeIs_size hs])
    · rfl
  · rfl

def oldStore (P : Program) (t : TypeId) (w : World) (b : Nat) (cs : Array Value) : Result Unit := (storeVar t ⟨b, 0, none⟩ (.agg cs)).run P w
/-- A whole struct or array of n cells into block b, which has just these. -/
def rowStore (P : Program) (t : TypeId) (n : Nat) (w : World) (b : Nat) (cs : Array Value) : Result Unit := match blk w b with
  | some (.cells old _ (0, 0)) => if sizeIs old n = true ∧ sizeIs cs n = true then .ok () (setRow w b cs) else oldStore P t w b cs
  | _ => oldStore P t w b cs
theorem run_store_row {P : Program} {t : TypeId} {n : Nat} (hi : (P.info? t).map (·.size) = some n) (w : World) (b : Nat) (cs : Array Value) :
    (storeVar t ⟨b, 0, none⟩ (.agg cs)).run P w = rowStore P t n w b cs := by
  unfold rowStore
  split
  · rename_i old t' h
    split
    · rename_i hs
      have s1 := sizeIs_size hs.1
      have s2 := sizeIs_size hs.2
      rw [run_storeVar_mid w b 0 t cs (fun j hj => by rw [Nat.zero_add, blk_cell h, blk_free h]; simp; omega) (by rw [hi, s2]) (sizeIs_one hs.2), setCells_over]
      unfold setRow
      have hm : (w.heap.modify b fun | .cells c t fr => .cells (over c 0 cs.toList) t fr | x => x) = (w.heap.modify b fun | .cells _ t fr => .cells cs t fr | x => x) := by
        apply Array.ext_getElem?
        intro j
        simp only [Array.getElem?_modify]
        split
        · rename_i hj
          subst hj
          rw [show w.heap[b]? = some (.cells old t' (0, 0)) from h]
          simp only [Option.map_some]
          rw [over_all _ _ (by simp; omega)]
        · rfl
      rw [hm]
    · rfl
  · rfl

/-- Instr.loadAt, Instr.storeAt, under names of their own. -/
def oldLoadAt (t : TypeId) (v : Value) : Sem Value := Instr.loadAt t v
def oldStoreAt (t : TypeId) (v u : Value) : Sem Unit := Instr.storeAt t v u

theorem setRow_new (w : World) (old cs : Array Value) (t : TypeId) (fr : Nat × Nat) : setRow (w.alloc (.cells old t fr)) w.heap.size cs = w.alloc (.cells cs t fr) := by
  unfold setRow World.alloc
  have : ((w.heap.push (.cells old t fr)).modify w.heap.size fun | .cells _ t fr => .cells cs t fr | o => o) = w.heap.push (.cells cs t fr) := by
    apply Array.ext_getElem?
    intro j
    simp only [Array.getElem?_modify, Array.getElem?_push]
    split
    · rename_i h; subst h; simp
    · rename_i h; rw [if_neg (fun e => h e.symm), if_neg (fun e => h e.symm)]
  simp only [this]
theorem setRow_at (w : World) (old cs : Array Value) (t : TypeId) (fr : Nat × Nat) (n : Nat) (hn : n = w.heap.size) : setRow (w.alloc (.cells old t fr)) n cs = w.alloc (.cells cs t fr) := by subst hn; exact setRow_new w old cs t fr
theorem setRow_drew (w : World) (b : Nat) (cs : Array Value) : setRow w.drew b cs = (setRow w b cs).drew := rfl
theorem setRow_past (w : World) (o : Obj) (b : Nat) (cs : Array Value) (h : b < w.heap.size) : setRow (w.alloc o) b cs = (setRow w b cs).alloc o := by
  unfold setRow World.alloc
  have : ((w.heap.push o).modify b fun | .cells _ t fr => .cells cs t fr | o => o) = (w.heap.modify b fun | .cells _ t fr => .cells cs t fr | o => o).push o := by
    apply Array.ext_getElem?
    intro j
    simp only [Array.getElem?_modify, Array.getElem?_push, Array.size_modify]
    split
    · rename_i hj; subst hj; rw [if_neg (by omega), if_neg (by omega)]
    · rfl
  simp only [this]
theorem setRow_size (w : World) (b : Nat) (cs : Array Value) : (setRow w b cs).heap.size = w.heap.size := by simp [setRow]
theorem blk_setRow {w : World} {b : Nat} {old : Array Value} {t : TypeId} {fr : Nat × Nat} (h : blk w b = some (.cells old t fr)) (cs : Array Value) : blk (setRow w b cs) b = some (.cells cs t fr) := by
  show (w.heap.modify b _)[b]? = _
  rw [Array.getElem?_modify, if_pos rfl, show w.heap[b]? = some (.cells old t fr) from h]; rfl
theorem blk_setRow_ne (w : World) (b x : Nat) (cs : Array Value) (h : x ≠ b) : blk (setRow w b cs) x = blk w x := by
  show (w.heap.modify b _)[x]? = w.heap[x]?
  rw [Array.getElem?_modify, if_neg (fun e => h e.symm)]
theorem Ext.setRow {X : List Nat} {a b : World} (h : Ext X a b) {x : Nat} (hx : x ∈ X ∨ a.heap.size ≤ x) (cs : Array Value) : Ext X a (setRow b x cs) :=
  ⟨h.os, h.tape, h.output, by rw [setRow_size]; exact h.size, fun y hy hn => (blk_setRow_ne b x y cs (by rintro rfl; rcases hx with hx | hx; exact hn hx; omega)).trans (h.block y hy hn)⟩
theorem blk_setCell {w : World} {b : Nat} {cs : Array Value} {t : TypeId} {fr : Nat × Nat} (h : blk w b = some (.cells cs t fr)) (i : Nat) (u : Value) : blk (w.setCell ⟨b, i, none⟩ u) b = some (.cells (cs.setIfInBounds i u) t fr) := by
  show (w.heap.modify b _)[b]? = _
  rw [Array.getElem?_modify, if_pos rfl, show w.heap[b]? = some (.cells cs t fr) from h]; rfl
attribute [go_sem] rowLoad rowStore sizeIs_lit setRow_at setRow_drew setRow_past setRow_size Value.oneCell'

end Go.Proofs.Ytceddijolfpppaa
