/-
  From a run of the abstract machine to a call of the model's: a law that returns true, whatever lies there.
  Condition: what it is given lies there, and is read alone.
-/
import Derived.Test.YtceddijolfpppaaFace
import Derived.Deep.Slices
import Derived.Deep.Fields
import Derived.ChangeSame
namespace Go.Proofs.Ytceddijolfpppaa
open Go Go.RowKit
set_option linter.unusedSimpArgs false
set_option linter.unusedVariables false

/-- A law that returns true; rows: what lies under its arguments. -/
def Law (f : FuncId) (args : Array Value) (rows : List (Option Blk)) : Prop :=
  ∃ g c, Try.prog.funcs[f]? = some g ∧ goB g = true ∧ g.body = some c ∧ (∀ u ∈ args.toList, Clo (Kn rows.length 0) u) ∧
    Goes OF g (fun x => ∃ h1 S', x = .done (.bool true) h1 S') (.run (enterL g c args).1 (enterL g c args).2 (heapL rows) [])

theorem Law.mk {f : FuncId} {g : Func} {c : Code} {args : Array Value} {rows : List (Option Blk)} (hf : Try.prog.funcs[f]? = some g) (hg : goB g = true) (hb : g.body = some c) (hclo : ∀ u ∈ args.toList, Clo (Kn rows.length 0) u)
    (hrun : Goes OF g (fun x => ∃ h1 S', x = .done (.bool true) h1 S') (.run [.code c] (args.toList ++ List.replicate (g.ntmps - args.size) undef) (heapL rows) [])) : Law f args rows := ⟨g, c, hf, hg, hb, hclo, hrun⟩

theorem Goes.law {fn : Func} {todo : List Item} {tmps : List Value} {h : AHeap} {S : St} (ht : retB todo = true) (hv : resA Try.prog fn tmps h = some (.bool true)) : Goes OF fn (fun x => ∃ h1 S', x = .done (.bool true) h1 S') (.run todo tmps h S) :=
  .ret ht hv (.here ⟨h, S, rfl⟩)

/-- What a name names lies there. -/
def Lies (w : World) (b : Blk) (k off : Nat) : Prop := b.ro = true ∧ b.grow = none ∧ (∀ v ∈ b.cells, plainB v = true) ∧ ∃ (pre post : Array Value) (fr : Nat × Nat), w.heap[k]? = some (.cells (pre ++ b.cells.toArray ++ post) b.elem fr) ∧ pre.size = off

theorem Law.calls {f : FuncId} {args : Array Value} {rows : List (Option Blk)} (L : Law f args rows) (F : Emb) (w : World) (hrow : ∀ (n : Nat) (b : Blk), rows[n]? = some (some b) → Lies w b (F.blk n) (F.base n)) (hlen : rows.length < 1000000) :
    Calls Try.prog f (args.map (ren F)) w (Ret (.bool true) (Ext [] w)) := by
  obtain ⟨g, c, hf, _, hb, hclo, G⟩ := L
  obtain ⟨c', ⟨h1, S', rfl⟩, G⟩ := G.out
  have hget : ∀ (n : Nat) (b : Blk), (heapL rows).get n = some b → rows[n]? = some (some b) := fun n b h => by
    rw [heapL_get] at h
    cases hr : rows[n]? with
    | none => rw [hr] at h; cases h
    | some o => rw [hr] at h; rw [show o = some b from h]
  have I : AInv OF F w (fun _ => False) (Kn (heapL rows).next (OF.cnt ([] : St))) (fun u => u ∈ (enterL g c args).2) (heapL rows) ([] : St) w := by
    refine ⟨⟨fun n b hb => ?_, fun n m b _ hb _ _ hro => ?_⟩, ⟨fun k ob h => by simp at h, fun k ob h => by simp at h, fun k k' ob ob' _ h => by simp at h⟩, fun u hu => ?_, fun n b hb v hv => ?_, fun n b hb => ?_, fun n h1 h2 => ?_, fun n hn => ?_, Kept.refl _ _, fun n b hb hro _ => ?_, fun b hb _ => ?_, fun n b _ hf => ?_⟩
    · obtain ⟨r1, r2, r3, pre, post, fr, r4, r5⟩ := hrow n b (hget n b hb)
      refine ⟨pre, post, fr, ?_, r5, (fun h => by rw [r1] at h; cases h), (fun h => by rw [r2] at h; cases h), (fun s h => by rw [r2] at h; cases h)⟩
      rw [← plain_map r3]
      exact r4
    · have := (hrow n b (hget n b hb)).1
      rw [hro] at this; cases this
    · unfold enterL at hu
      rcases List.mem_append.1 hu with hu | hu
      · exact (hclo u hu).stab F
      · rw [List.eq_of_mem_replicate hu]
        exact Stab.plain (by simp [undef, plainB])
    · exact Stab.plain ((hrow n b (hget n b hb)).2.2.1 v hv)
    · have := (List.getElem?_eq_some_iff.1 (hget n b hb)).1
      exact ⟨.inl (by rw [heapL_next]; exact this), by unfold VB; omega⟩
    · have h2 : n < VB + 0 := h2
      omega
    · rcases hn with hn | ⟨hn, hn'⟩
      · rw [heapL_next] at hn
        show n < VB + 0
        unfold VB; omega
      · exact hn'
    · have := (hrow n b (hget n b hb)).1
      rw [hro] at this; cases this
    · obtain ⟨k, ob, hk, _⟩ := hb
      simp at hk
    · obtain ⟨k, ob, hk, _⟩ := hf
      simp at hk
  refine (calls_of_simul hf hb G.simul I (by rw [heapL_next]; unfold VB; omega)).mono ?_
  rintro e w' ⟨F', rfl, I', _⟩
  exact ⟨by rw [ren_bool], I'.kept.os, I'.kept.tape, I'.kept.output, I'.kept.size, fun b hb _ => I'.kept.block b hb (fun h => h)⟩

/-- Cells that are known one by one are a part of a row. -/
theorem row_of_cells {w : World} {b off : Nat} {l : List Value} (hpos : 0 < l.length) (h : ∀ i, i < l.length → w.cell? ⟨b, off + i, none⟩ = l[i]?) : ∃ (el : TypeId) (pre post : Array Value) (fr : Nat × Nat), w.heap[b]? = some (.cells (pre ++ l.toArray ++ post) el fr) ∧ pre.size = off := by
  have h0 := h 0 hpos
  rw [List.getElem?_eq_getElem hpos] at h0
  cases hb : w.heap[b]? with
  | none => simp [World.cell?, hb] at h0
  | some ob =>
    cases ob with
    | cells cs el fr =>
      have hc : ∀ i, i < l.length → cs[off + i]? = l[i]? := fun i hi => by
        have := h i hi
        simpa [World.cell?, hb] using this
      have hsz : ∀ i, i < l.length → off + i < cs.size := fun i hi => by
        have h1 := hc i hi
        rw [List.getElem?_eq_getElem hi] at h1
        exact (Array.getElem?_eq_some_iff.1 h1).1
      have hlast := hsz (l.length - 1) (by omega)
      refine ⟨el, cs.extract 0 off, cs.extract (off + l.length) cs.size, fr, ?_, by simp; omega⟩
      have he : cs = cs.extract 0 off ++ l.toArray ++ cs.extract (off + l.length) cs.size := by
        apply Array.ext'
        apply List.ext_getElem?
        intro j
        have hpre : (cs.extract 0 off).size = off := by simp; omega
        rw [Array.getElem?_toList, Array.getElem?_toList]
        by_cases h1 : j < off
        · rw [Array.append_assoc, Array.getElem?_append_left (by omega)]
          rw [Array.getElem?_extract]
          simp; omega
        · by_cases h2 : j < off + l.length
          · rw [Array.append_assoc, Array.getElem?_append_right (by omega), hpre, Array.getElem?_append_left (by simp; omega)]
            have := hc (j - off) (by omega)
            rw [show off + (j - off) = j by omega] at this
            rw [this]; simp
          · rw [Array.getElem?_append_right (by simp; omega)]
            simp only [Array.size_append, hpre, List.size_toArray]
            rw [Array.getElem?_extract]
            by_cases h3 : j < cs.size
            · rw [if_pos (by omega)]
              congr 1; omega
            · rw [if_neg (by omega), Array.getElem?_eq_none (by omega)]
      rw [← he]
    | _ => simp [World.cell?, hb] at h0

/-! ### rows of things of several cells -/
def rowC {α : Type} (fl : α → List Value) (l : List α) : List Value := l.flatMap fl
theorem rowC_len {α : Type} {fl : α → List Value} {s : Nat} (hs : ∀ x, (fl x).length = s) (l : List α) : (rowC fl l).length = l.length * s := by
  induction l with
  | nil => simp [rowC]
  | cons x l ih =>
    unfold rowC at ih ⊢
    rw [List.flatMap_cons, List.length_append, ih, hs, List.length_cons, Nat.add_mul]
    omega
theorem rowC_drop {α : Type} {fl : α → List Value} {s : Nat} (hs : ∀ x, (fl x).length = s) : ∀ (l : List α) (i : Nat), (rowC fl l).drop (i * s) = rowC fl (l.drop i)
  | [], i => by simp [rowC]
  | x :: l, 0 => by simp
  | x :: l, i + 1 => by
    have := rowC_drop hs l i
    unfold rowC at this ⊢
    rw [List.flatMap_cons, show (i + 1) * s = (fl x).length + i * s by rw [hs, Nat.add_mul]; omega, List.drop_append, List.drop_eq_nil_of_le (by omega), Nat.add_sub_cancel_left, List.nil_append, List.drop_succ_cons, this]
theorem rowC_at {α : Type} {fl : α → List Value} {s : Nat} (hs : ∀ x, (fl x).length = s) {l : List α} {i : Nat} {x : α} (h : l[i]? = some x) : ((rowC fl l).drop (i * s)).take s = fl x := by
  rw [rowC_drop hs]
  obtain ⟨hi, rfl⟩ := List.getElem?_eq_some_iff.1 h
  rw [List.drop_eq_getElem_cons hi]
  unfold rowC
  rw [List.flatMap_cons, ← hs l[i], List.take_left]
theorem rowC_get {α : Type} {fl : α → List Value} {s : Nat} (hs : ∀ x, (fl x).length = s) {l : List α} {i j : Nat} {x : α} (h : l[i]? = some x) (hj : j < s) : (rowC fl l)[i * s + j]? = (fl x)[j]? := by
  have := rowC_at hs h
  rw [← this, List.getElem?_take, if_pos hj, List.getElem?_drop]
theorem rowC_plain {α : Type} {fl : α → List Value} (hp : ∀ x, ∀ v ∈ fl x, plainB v = true) (l : List α) : ∀ v ∈ rowC fl l, plainB v = true := fun v hv => by
  obtain ⟨x, _, hx⟩ := List.mem_flatMap.1 hv
  exact hp x v hx

def RowIs {α : Type} (fl : α → List Value) (q : Nat) (sl : Option Addr) (l : List α) (ob : Option Blk) : Prop := 0 < l.length → sl = some ⟨q, 0, none⟩ ∧ ∃ el, ob = some ⟨rowC fl l, el, true, none⟩
def SlAt (q : Nat) (sl : Option Addr) : Prop := ∀ a, sl = some a → a.block = q
theorem SlAt.clo {q : Nat} {sl : Option Addr} (h : SlAt q sl) {n c k : Nat} (hq : q < k) : Clo (Kn k 0) (.slice sl n c) := by
  cases sl with
  | none => exact Clo.plain rfl
  | some a =>
    intro F F' hs
    have := h a rfl
    obtain ⟨h1, h2, h3⟩ := hs q (.inl hq)
    simp [adr, this, h1, h2, h3]

theorem law_slice {α : Type} (fl : α → List Value) {s : Nat} (hs : ∀ x, (fl x).length = s) (hs0 : 0 < s) (hp : ∀ x, ∀ v ∈ fl x, plainB v = true) (l : List α) (a : Option Addr) (cap : Nat) (w : World) (q : Nat)
    (h : 0 < l.length → ∃ x, a = some x ∧ ∀ (i : Nat) (y : α), l[i]? = some y → ∀ (j : Nat) (v : Value), (fl y)[j]? = some v → w.cell? (x.add (i * s + j)) = some v) :
    ∃ (sl : Option Addr) (ob : Option Blk) (bk bs : Nat), (∀ F : Emb, F.blk q = bk → F.base q = bs → F.slack q = 0 → ren F (.slice sl l.length cap) = .slice a l.length cap) ∧ SlAt q sl ∧ RowIs fl q sl l ob ∧ ∀ b, ob = some b → Lies w b bk bs := by
  by_cases h0 : 0 < l.length
  · obtain ⟨x, rfl, hx⟩ := h h0
    obtain ⟨b, off, spot⟩ := x
    have hlen : (rowC fl l).length = l.length * s := rowC_len hs l
    have hpos : 0 < (rowC fl l).length := by rw [hlen]; exact Nat.mul_pos h0 hs0
    have hcell : ∀ i, i < (rowC fl l).length → w.cell? (Addr.add ⟨b, off, spot⟩ i) = (rowC fl l)[i]? := fun i hi => by
      have hi1 : i / s < l.length := Nat.div_lt_of_lt_mul (by rw [hlen] at hi; rw [Nat.mul_comm]; exact hi)
      have hi2 : i % s < s := Nat.mod_lt _ hs0
      have e : i / s * s + i % s = i := by rw [Nat.mul_comm]; exact Nat.div_add_mod i s
      have hy := List.getElem?_eq_getElem hi1
      have hv : (fl l[i / s])[i % s]? = some ((fl l[i / s])[i % s]'(by rw [hs]; exact hi2)) := List.getElem?_eq_getElem (by rw [hs]; exact hi2)
      have h1 := hx _ _ hy _ _ hv
      have h2 := rowC_get hs hy hi2
      rw [e] at h1 h2
      rw [h1, h2, hv]
    have hspot : spot = none := by
      have := hcell 0 hpos
      rw [List.getElem?_eq_getElem hpos] at this
      simpa [Addr.add] using World.cell?_spot this
    subst hspot
    obtain ⟨el, pre, post, fr, r1, r2⟩ := row_of_cells (w := w) (b := b) (off := off) hpos (fun i hi => by
      rw [← hcell i hi]
      unfold Addr.add
      split
      · rename_i hz; simp [hz]
      · rfl)
    refine ⟨some ⟨q, 0, none⟩, some ⟨rowC fl l, el, true, none⟩, b, off, fun F h1 h2 h3 => by simp [adr, h1, h2, h3], fun y hy => by cases hy; rfl, fun _ => ⟨rfl, el, rfl⟩, fun c hc => ?_⟩
    cases hc
    exact ⟨rfl, rfl, rowC_plain hp l, pre, post, fr, r1, r2⟩
  · cases a with
    | none => exact ⟨none, none, 0, 0, fun F _ _ _ => by simp, fun y hy => (by cases hy), fun hc => absurd hc h0, fun b hb => (by cases hb)⟩
    | some x =>
      obtain ⟨b, off, spot⟩ := x
      exact ⟨some ⟨q, 0, spot⟩, none, b, off, fun F h1 h2 h3 => by simp [adr, h1, h2, h3], fun y hy => by cases hy; rfl, fun hc => absurd hc h0, fun b hb => (by cases hb)⟩

section
open Go.ChangeShapes Go.WideShapes Go.Deep
variable {H : Type} {enc : TypeId × Value → H} {P : Program} {w : World} {base : Nat} {spare : Nat → Bool} {held : Bool}
def kindsOK (P : Program) (fs : Array Field) (ks : List IntKind) : Bool := ks.length == fs.size && (List.range ks.length).all fun j => match ks[j]?, fs[j]? with
  | some k, some f => (match P.underlying f.type with | some (.int k') => decide (k' = k) | _ => false)
  | _, _ => false
/-- A slice of structs of numbers that came in. -/
def RowS (ks : List IntKind) (w : World) (a : Option Addr) (len cap : Nat) (z : Nat → Nat → Int) : Prop :=
  (a = none ∧ len = 0 ∧ cap = 0) ∨ ∃ x, a = some x ∧ len ≤ cap ∧ cap ≤ maxLen ∧ ∀ i, i < len → ∀ (j : Nat) (k : IntKind), ks[j]? = some k → w.cell? (x.add (i * ks.length + j)) = some (.int k (z i j)) ∧ (Lit.int k (z i j)).wf = true
theorem open_structs {t e : TypeId} {fs : Array Field} {ks : List IntKind} {fuel : Nat} {a : Option Addr} {len cap : Nat} {x : DataW H × List MemPlace} (ht : P.underlying t = some (.slice e)) (he : P.underlying e = some (.struct fs)) (hone : oneCellFields P fs = true) (hC : P.cellsOf e = fs.size) (hk : kindsOK P fs ks = true)
    (h : DataW.trod enc P w base spare held fuel t [.slice a len cap] = some x) : ∃ z, RowS ks w a len cap z := by
  unfold kindsOK at hk
  rw [Bool.and_eq_true, beq_iff_eq, List.all_eq_true] at hk
  obtain ⟨hkl, hk⟩ := hk
  rcases open_slice ht h with h0 | ⟨a', len', cap', m, n, D, Pl, hcs, hb, hl, hm, hmm, hx, hi⟩
  · have := h0.1
    simp only [List.cons.injEq, Value.slice.injEq, and_true] at this
    obtain ⟨rfl, rfl, rfl⟩ := this
    exact ⟨fun _ _ => 0, .inl ⟨rfl, rfl, rfl⟩⟩
  · simp only [List.cons.injEq, Value.slice.injEq, and_true] at hcs
    obtain ⟨rfl, rfl, rfl⟩ := hcs
    have each : ∀ i j, ∃ y : Int, i < len → ∀ k, ks[j]? = some k → w.cell? (a'.add (i * ks.length + j)) = some (.int k y) ∧ (Lit.int k y).wf = true := by
      intro i j
      by_cases hil : i < len
      · cases hkj : ks[j]? with
        | none => exact ⟨0, fun _ k hk' => by cases hk'⟩
        | some k =>
          have hj : j < ks.length := (List.getElem?_eq_some_iff.1 hkj).1
          have h1 := hk j (List.mem_range.2 hj)
          rw [hkj] at h1
          have hf : fs[j]? = some fs[j] := Array.getElem?_eq_getElem (by omega)
          rw [hf] at h1
          simp only at h1
          have hu : P.underlying fs[j].type = some (.int k) := by
            split at h1
            · rename_i k' hk'; rw [hk', of_decide_eq_true h1]
            · cases h1
          obtain ⟨cs', hc, ht'⟩ := hi i (by rw [hmm]; split <;> omega)
          rw [hC] at hc
          obtain ⟨ys, n', _, _, hclen, hyl, hat⟩ := DataW.trod_struct he ht'
          obtain ⟨_, _, hcell⟩ := World.cells?_some hc
          obtain ⟨ho, hcf⟩ := hone_of hone j _ hf
          have h2 := hat j _ hf
          rw [ho, hcf] at h2
          have hjl : j < cs'.length := by omega
          have hone1 : (cs'.drop j).take 1 = [cs'[j]] := by
            rw [List.drop_eq_getElem_cons hjl]; rfl
          rw [hone1, List.getElem?_eq_getElem (by omega)] at h2
          obtain ⟨y, hy, _, hw⟩ := DataW.trod_int hu h2
          refine ⟨y, fun _ k' hk' => ?_⟩
          cases hk'
          refine ⟨?_, hw⟩
          have h3 := hcell j (by omega)
          rw [add_add, List.getElem?_eq_getElem hjl] at h3
          rw [hkl, h3]
          simp only [List.cons.injEq, and_true] at hy
          rw [hy]
      · exact ⟨0, fun h => absurd h hil⟩
    exact ⟨fun i j => Classical.choose (each i j), .inr ⟨a', rfl, hl, hm, fun i hil j k hkj => Classical.choose_spec (each i j) hil k hkj⟩⟩
/-- A slice of numbers that came in. -/
theorem open_numbers {t e : TypeId} {k : IntKind} {fuel : Nat} {a : Option Addr} {len cap : Nat} {x : DataW H × List MemPlace} (ht : P.underlying t = some (.slice e)) (he : P.underlying e = some (.int k)) (hc : P.cellsOf e = 1)
    (h : DataW.trod enc P w base (fun _ => true) held fuel t [.slice a len cap] = some x) : ∃ z, RowS [k] w a len cap z := by
  rcases open_ints ht he hc h with ⟨hcs, _⟩ | ⟨x, l, c, zs, hcs, _, hl, hm, hz, _, hcell, hwz⟩
  · simp only [List.cons.injEq, Value.slice.injEq, and_true] at hcs
    obtain ⟨rfl, rfl, rfl⟩ := hcs
    exact ⟨fun _ _ => 0, .inl ⟨rfl, rfl, rfl⟩⟩
  · simp only [List.cons.injEq, Value.slice.injEq, and_true] at hcs
    obtain ⟨rfl, rfl, rfl⟩ := hcs
    rw [if_pos rfl] at hz
    refine ⟨fun i _ => zs.getD i 0, .inr ⟨x, rfl, hl, hm, fun i hi j k' hk => ?_⟩⟩
    match j, hk with
    | 0, hk =>
      cases hk
      have h1 := hcell i (by omega)
      refine ⟨by simpa using h1, hwz _ ?_⟩
      have : i < zs.length := by omega
      simp [List.getD, this]
    | j + 1, hk => simp at hk
end

end Go.Proofs.Ytceddijolfpppaa
