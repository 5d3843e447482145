/-
  The abstract machine, part 14: functions to which rows are lent, and that hand rows over.
  No condition: definitions and laws.
-/
import Derived.Test.YtceddijolfpppaaTy
namespace Go.Proofs.Ytceddijolfpppaa
open Go Go.RowKit
set_option linter.unusedSimpArgs false
set_option linter.unusedVariables false

/-- Names for a called function's: its lent rows; behind them what it hands over. -/
def upN (ns : List Nat) (nx : Nat) (n : Nat) : Nat := if n < ns.length then ns.getD n 0 else if n < VB then nx + (n - ns.length) else n
def upE (ns : List Nat) (nx : Nat) : Emb := nameE (upN ns nx)

def renB (E : Emb) (b : Blk) : Blk := { b with cells := b.cells.map (ren E) }

/-- What comes of a run: rows l' and new, a value v; R: the names of the run, as they are told. -/
structure Gives (cnt : Nat) (l l' new : List Blk) (ex : List Nat) (R : Nat → Nat) (h1 : AHeap) (v0 v : Value) : Prop where
  low : ∀ n, n < l.length → R n = n
  hand : ∀ n, VB ≤ n → R n = n
  more : ∀ (j n : Nat), ex[j]? = some n → l.length ≤ n ∧ n < VB ∧ R n = l.length + j
  nodup : ex.Nodup
  len : ex.length = new.length
  len' : l'.length = l.length
  told : v = ren (nameE R) v0
  clo : Clo (fun n => n < l.length ∨ n ∈ ex ∨ (VB ≤ n ∧ n < VB + cnt)) v0
  rows : ∀ (i : Nat) (b : Blk), l[i]? = some b → b.ro = false → ∃ b1, h1.get i = some b1 ∧ l'[i]? = some (renB (nameE R) b1) ∧ b1.ro = false ∧ ∀ u ∈ b1.cells, Clo (fun n => n < l.length ∨ n ∈ ex ∨ (VB ≤ n ∧ n < VB + cnt)) u
  news : ∀ (j n : Nat), ex[j]? = some n → ∃ b1, h1.get n = some b1 ∧ new[j]? = some (renB (nameE R) b1) ∧ b1.ro = false ∧ ∀ u ∈ b1.cells, Clo (fun n => n < l.length ∨ n ∈ ex ∨ (VB ≤ n ∧ n < VB + cnt)) u

section
variable {P : Program} {σ : Type} {X : Face P σ}

/-- What a function does, called with such arguments, rows l being lent under the names 0 ..: these are l' then; rows new are handed over, under the names behind them. -/
def DoesX (X : Face P σ) (f : FuncId) (args : Array Value) (l : List Blk) (S : σ) (v : Value) (l' new : List Blk) (S' : σ) : Prop :=
  ∃ g c h1 v0 ex R, P.funcs[f]? = some g ∧ goB g = true ∧ g.body = some c ∧ (∀ u ∈ args.toList, Clo (Kn l.length (X.cnt S)) u) ∧ (∀ b ∈ l, ∀ u ∈ b.cells, Clo (Kn l.length (X.cnt S)) u) ∧ Gives (X.cnt S') l l' new ex R h1 v0 v ∧
    Goes X g (fun x => x = .done v0 h1 S') (.run (enterL g c args).1 (enterL g c args).2 (heapL (l.map some)) S)

/-- The rows that are lent lie there. -/
def LendL (h : AHeap) (E : Emb) : List Nat → List Blk → Prop
  | [], [] => True
  | n :: ns, b :: l => (∃ b0, h.get n = some b0 ∧ b0.elem = b.elem ∧ b0.cells = b.cells.map (ren E) ∧ (b.grow = b0.grow ∨ b.grow = none) ∧ (b.ro = false → b0.ro = false)) ∧ LendL h E ns l
  | _, _ => False

theorem LendL.spec {h : AHeap} {E : Emb} : ∀ {ns : List Nat} {l : List Blk}, LendL h E ns l → ns.length = l.length ∧ ∀ (i : Nat) (b : Blk), l[i]? = some b → ∃ n b0, ns[i]? = some n ∧ h.get n = some b0 ∧ b0.elem = b.elem ∧ b0.cells = b.cells.map (ren E) ∧ (b.grow = b0.grow ∨ b.grow = none) ∧ (b.ro = false → b0.ro = false)
  | [], [], _ => ⟨rfl, fun i b hb => by simp at hb⟩
  | n :: ns, c :: l, ⟨⟨b0, h0⟩, hr⟩ => by
    obtain ⟨h1, h2⟩ := LendL.spec hr
    refine ⟨by simp [h1], fun i b hb => ?_⟩
    cases i with
    | zero => simp at hb; subst hb; exact ⟨n, b0, by simp, h0⟩
    | succ i => simp at hb; simpa using h2 i b hb
  | [], _ :: _, h => h.elim
  | _ :: _, [], h => h.elim

/-- Which row a name has then. -/
def backL : List Nat → List Blk → List Blk → Nat → Option Blk
  | n :: ns, b :: l, b' :: l', m => if n = m ∧ b.ro = false then some b' else backL ns l l' m
  | _, _, _, _ => none
theorem backL_some : ∀ {ns : List Nat} {l l' : List Blk} {m : Nat} {b' : Blk}, backL ns l l' m = some b' → ∃ (i : Nat) (b : Blk), ns[i]? = some m ∧ l[i]? = some b ∧ b.ro = false ∧ l'[i]? = some b'
  | [], _, _, _, _, h => by simp [backL] at h
  | _ :: _, [], _, _, _, h => by simp [backL] at h
  | _ :: _, _ :: _, [], _, _, h => by simp [backL] at h
  | n :: ns, b :: l, c :: l', m, b', h => by
    simp only [backL] at h
    split at h
    · rename_i hc; cases h; exact ⟨0, b, by simp [hc.1], by simp, hc.2, by simp⟩
    · obtain ⟨i, b1, h1, h2, h3, h4⟩ := backL_some h
      exact ⟨i + 1, b1, by simpa using h1, by simpa using h2, h3, by simpa using h4⟩
theorem backL_none : ∀ {ns : List Nat} {l l' : List Blk} {m : Nat}, backL ns l l' m = none → ns.length = l.length → l'.length = l.length → ∀ (i : Nat) (b : Blk), l[i]? = some b → b.ro = false → ns[i]? ≠ some m
  | [], [], _, _, _, _, _, i, b, hb, _ => by simp at hb
  | [], _ :: _, _, _, _, hl, _, _, _, _, _ => by simp at hl
  | _ :: _, [], _, _, _, hl, _, _, _, _, _ => by simp at hl
  | _ :: _, _ :: _, [], _, _, _, hl, _, _, _, _ => by simp at hl
  | n :: ns, c :: l, c' :: l', m, h, hl, hl', i, b, hb, hr => by
    simp only [backL] at h
    split at h
    · cases h
    · rename_i hc
      cases i with
      | zero =>
        simp at hb; subst hb
        simp only [List.getElem?_cons_zero, ne_eq, Option.some.injEq]
        exact fun h => hc ⟨h, hr⟩
      | succ i =>
        simp at hb hl hl'
        simpa using backL_none h hl hl' i b hb hr

/-- The caller's heap then. -/
def backH (h : AHeap) (E : Emb) (ns : List Nat) (l l' new : List Blk) : AHeap :=
  ⟨fun m => match backL ns l l' m with
    | some b => some (renB E b)
    | none => if h.next ≤ m then (new[m - h.next]?).map (renB E) else h.get m, h.next + new.length⟩

theorem upE_low {ns : List Nat} {nx i n : Nat} (h : ns[i]? = some n) : (upE ns nx).blk i = n := by
  have := (List.getElem?_eq_some_iff.1 h).1
  simp only [upE, nameE, upN, this, if_true]
  simp [List.getD, h]

theorem renB_comp (F E : Emb) (b : Blk) : renB F (renB E b) = { b with cells := b.cells.map (ren (F.comp E)) } := by
  unfold renB
  simp only [List.map_map]
  congr 1
  exact List.map_congr_left fun v _ => ren_comp F E v

theorem nodup_ne {l : List Nat} (h : l.Nodup) {i j : Nat} (hi : i < l.length) (hj : j < l.length) (hne : i ≠ j) : l[i] ≠ l[j] := by
  rcases Nat.lt_or_gt_of_ne hne with h1 | h1
  · exact List.pairwise_iff_getElem.1 h i j hi hj h1
  · exact Ne.symm (List.pairwise_iff_getElem.1 h j i hj hi h1)

theorem call_lent {o : Oper} {e : Operand → Value} {h : AHeap} {S S' : σ} {f : FuncId} {g : Func} {c : Code} {args : Array Value} {l l' new : List Blk} {ex : List Nat} {R : Nat → Nat} {v v0 : Value} {h1 : AHeap} {ns : List Nat} (hca : callA P e o.op = some (f, args.map (ren (upE ns h.next)))) (hf : P.funcs[f]? = some g) (hg : goB g = true) (hb : g.body = some c)
    (hclo : ∀ u ∈ args.toList, Clo (Kn l.length (X.cnt S)) u) (hcl : ∀ b ∈ l, ∀ u ∈ b.cells, Clo (Kn l.length (X.cnt S)) u) (G : Gives (X.cnt S') l l' new ex R h1 v0 v) (hlow : h.Low) (hL : LendL h (upE ns h.next) ns l) (hnd : ns.Nodup) (hlim : l.length + new.length ≤ VB) :
    CallOK X o e h S (ren (upE ns h.next) v) (backH h (upE ns h.next) ns l l' new) S' f g c args (upE ns h.next) ((upE ns h.next).comp (nameE R)) (heapL (l.map some)) h1 ex v0 := by
  obtain ⟨hlen, hlend⟩ := hL.spec
  have hget : ∀ n b, (heapL (l.map some)).get n = some b ↔ l[n]? = some b := fun n b => by
    rw [heapL_get, List.getElem?_map]
    cases l[n]? <;> simp
  have hhand : ∀ n, VB ≤ n → (upE ns h.next).blk n = n := fun n hn => by
    have h1 : ¬ n < ns.length := by omega
    have h2 : ¬ n < VB := by omega
    simp only [upE, nameE, upN, h1, h2, if_false]
  have hK : ∀ n, (n < l.length ∨ n ∈ ex ∨ (VB ≤ n ∧ n < VB + X.cnt S')) → ((∃ b, (heapL (l.map some)).get n = some b) ∨ n ∈ ex ∨ (VB ≤ n ∧ n < VB + X.cnt S')) := fun n hn => by
    rcases hn with hn | hn
    · exact .inl ⟨l[n], (hget _ _).2 (List.getElem?_eq_getElem hn)⟩
    · exact .inr hn
  have hex : ∀ (j n : Nat), ex[j]? = some n → j < new.length := fun j n hj => by
    rw [← G.len]; exact (List.getElem?_eq_some_iff.1 hj).1
  refine ⟨hca, hf, hg, hb, ⟨?_, ?_, ?_, ?_, ?_, ?_⟩, ?_, ⟨by rw [G.len]; rfl, ?_, ?_, ?_, ?_, ?_, ?_, ?_, ?_, ?_, G.nodup⟩⟩
  · intro n b hb v hv
    rw [hget] at hb
    rw [heapL_next, List.length_map]
    exact hcl b (List.mem_of_getElem? hb) v hv
  · intro n b hb
    rw [hget] at hb
    rw [heapL_next, List.length_map]
    exact (List.getElem?_eq_some_iff.1 hb).1
  · intro n b hb
    rw [hget] at hb
    obtain ⟨m, b0, k1, k2, k3, k4, k5, k6⟩ := hlend n b hb
    exact ⟨b0, by rw [upE_low k1]; exact k2, k3, .inl ⟨k4, rfl, rfl, k5, k6⟩⟩
  · intro n m b c hb hc hne _
    rw [hget] at hb hc
    obtain ⟨x, _, k1, _⟩ := hlend n b hb
    obtain ⟨y, _, k2, _⟩ := hlend m c hc
    rw [upE_low k1, upE_low k2]
    rintro rfl
    obtain ⟨h1, h1'⟩ := List.getElem?_eq_some_iff.1 k1
    obtain ⟨h2, h2'⟩ := List.getElem?_eq_some_iff.1 k2
    exact nodup_ne hnd h1 h2 hne (h1'.trans h2'.symm)
  · rw [heapL_next, List.length_map]; omega
  · exact fun n hn => ⟨hhand n hn, rfl, rfl⟩
  · rw [heapL_next, List.length_map]; exact hclo
  · intro n hn
    rw [heapL_next, List.length_map] at hn
    simp only [Emb.comp, nameE, G.low n hn, upE, Nat.add_zero, and_self]
  · intro j n hj
    obtain ⟨k1, k2, k3⟩ := G.more j n hj
    have := hex j n hj
    refine ⟨by rw [heapL_next, List.length_map]; exact k1, k2, ?_, rfl, rfl⟩
    simp only [Emb.comp, nameE, k3, upE, upN, hlen]
    have h1 : ¬ l.length + j < l.length := by omega
    have h2 : l.length + j < VB := by omega
    simp only [h1, h2, if_false, if_true]
    omega
  · intro n hn
    refine ⟨?_, rfl, rfl⟩
    simp only [Emb.comp]
    rw [show (nameE R).blk n = n from G.hand n hn]
    exact hhand n hn
  · rw [G.told, ren_comp]
  · exact fun F F' hs => G.clo F F' (hs.mono hK)
  · rintro n b hb hn u hu
    rcases hn with ⟨b0, hb0, hr⟩ | hn
    · rw [hget] at hb0
      obtain ⟨b1, k1, _, _, k4⟩ := G.rows n b0 hb0 hr
      rw [hb] at k1; cases k1
      exact fun F F' hs => k4 u hu F F' (hs.mono hK)
    · obtain ⟨j, hj⟩ := List.getElem?_of_mem hn
      obtain ⟨b1, k1, _, _, k4⟩ := G.news j n hj
      rw [hb] at k1; cases k1
      exact fun F F' hs => k4 u hu F F' (hs.mono hK)
  · intro j n hj
    obtain ⟨b1, k1, k2, _⟩ := G.news j n hj
    rw [k1]
    unfold backH
    simp only
    have hbk : backL ns l l' (h.next + j) = none := by
      cases hb' : backL ns l l' (h.next + j) with
      | none => rfl
      | some b' =>
        obtain ⟨i, b, g1, g2, _⟩ := backL_some hb'
        obtain ⟨m, b0, p1, p2, _⟩ := hlend i b g2
        rw [g1] at p1; cases p1
        have := hlow _ _ p2
        omega
    rw [hbk]
    simp only
    rw [if_pos (by omega), Nat.add_sub_cancel_left, k2, Option.map_some, renB_comp]
    rfl
  · intro m hm
    unfold backH
    simp only
    cases hb' : backL ns l l' m with
    | some b' =>
      obtain ⟨i, b, g1, g2, g3, g4⟩ := backL_some hb'
      obtain ⟨b1, k1, k2, k3, k4⟩ := G.rows i b g2 g3
      refine .inr ⟨i, b, (hget _ _).2 g2, g3, upE_low g1, ?_⟩
      rw [g4] at k2; cases k2
      rw [k1, Option.map_some]
      simp only [renB_comp]
    | none =>
      refine .inl ⟨?_, fun n b hb hr => ?_⟩
      · simp only
        split
        · rename_i hle
          rcases hm with hm | hm
          · omega
          · have hm : h.next + new.length ≤ m := hm
            rw [List.getElem?_eq_none (by omega)]
            cases hg' : h.get m with
            | none => rfl
            | some b => have := hlow _ _ hg'; omega
        · rfl
      · rw [hget] at hb
        obtain ⟨x, _, p1, _⟩ := hlend n b hb
        have := backL_none hb' hlen G.len' n b hb hr
        rw [upE_low p1]
        rintro rfl
        exact this p1
  · rintro n b hb (⟨b0, hb0, hr⟩ | hn)
    · rw [hget] at hb0
      obtain ⟨b1, k1, _, k3, _⟩ := G.rows n b0 hb0 hr
      rw [hb] at k1; cases k1; exact k3
    · obtain ⟨j, hj⟩ := List.getElem?_of_mem hn
      obtain ⟨b1, k1, _, k3, _⟩ := G.news j n hj
      rw [hb] at k1; cases k1; exact k3

/-- The rows then. -/
def backR (E : Emb) (rows : List (Option Blk)) : List Nat → List Blk → List Blk → List (Option Blk)
  | n :: ns, b :: l, b' :: l' => if b.ro = false then (backR E rows ns l l').set n (some (renB E b')) else backR E rows ns l l'
  | _, _, _ => rows
theorem backR_len {E : Emb} {rows : List (Option Blk)} : ∀ {ns : List Nat} {l l' : List Blk}, (backR E rows ns l l').length = rows.length
  | [], _, _ => rfl
  | _ :: _, [], _ => rfl
  | _ :: _, _ :: _, [] => rfl
  | n :: ns, b :: l, b' :: l' => by
    simp only [backR]
    split
    · rw [List.length_set, backR_len]
    · rw [backR_len]
theorem backR_get {E : Emb} {rows : List (Option Blk)} : ∀ {ns : List Nat} {l l' : List Blk} {m : Nat}, (∀ n ∈ ns, n < rows.length) → ((backR E rows ns l l')[m]?).join = match backL ns l l' m with | some b => some (renB E b) | none => (rows[m]?).join
  | [], _, _, _, _ => rfl
  | _ :: _, [], _, _, _ => rfl
  | _ :: _, _ :: _, [], _, _ => rfl
  | n :: ns, b :: l, b' :: l', m, hlt => by
    have ih := @backR_get E rows ns l l' m (fun x hx => hlt x (by simp [hx]))
    simp only [backR, backL]
    have hn : n < rows.length := hlt n (by simp)
    by_cases hr : b.ro = false
    · rw [if_pos hr, List.getElem?_set]
      by_cases hm : n = m
      · subst hm
        simp [hr, backR_len, hn]
      · simp only [hm, false_and, if_false]
        exact ih
    · have hc : ¬ (n = m ∧ b.ro = false) := fun h => hr h.2
      rw [if_neg hr, if_neg hc]
      exact ih
theorem backH_L {E : Emb} {rows : List (Option Blk)} {ns : List Nat} {l l' new : List Blk} (hlt : ∀ n ∈ ns, n < rows.length) : backH (heapL rows) E ns l l' new = heapL (backR E rows ns l l' ++ new.map fun b => some (renB E b)) := by
  unfold backH heapL
  simp only [List.length_append, List.length_map, backR_len]
  congr 1
  funext m
  by_cases hm : rows.length ≤ m
  · have hbk : backL ns l l' m = none := by
      cases hb' : backL ns l l' m with
      | none => rfl
      | some b' =>
        obtain ⟨i, b, g1, _⟩ := backL_some hb'
        have := hlt m (List.mem_of_getElem? g1)
        omega
    rw [hbk, List.getElem?_append_right (by rw [backR_len]; exact hm), backR_len, List.getElem?_map]
    simp only [hm, if_true]
    cases new[m - rows.length]? <;> simp
  · rw [List.getElem?_append_left (by rw [backR_len]; omega), backR_get hlt]
    cases backL ns l l' m with
    | some b => rfl
    | none => simp [hm]

variable {fn : Func} {A : Conf σ → Prop} {ops : Array Oper} {k : List Item} {i : Nat} {tmps : List Value} {h : AHeap} {S : σ} {o : Oper} {todo : List Item} {W : List Nat} {n0 : Nat} {hf : AHeap} {Kf : List Value → AHeap → σ → Prop} {born : List (Nat × Nat)}

theorem aheap_ext {h h' : AHeap} (hg : ∀ m, h.get m = h'.get m) (hn : h.next = h'.next) : h = h' := by
  cases h; cases h'
  simp only [AHeap.mk.injEq]
  exact ⟨funext hg, hn⟩
theorem glueH_get {h hv : AHeap} {m : Nat} : (glueH h hv).get m = if h.next ≤ m then (if m < hv.next then hv.get m else none) else h.get m := rfl

/-- What is asked of a call to which rows are lent. -/
def CallX (X : Face P σ) (S : σ) (ns : List Nat) (nx : Nat) (h : AHeap) (K : Value → List Blk → List Blk → List Blk → σ → Prop) (f : FuncId) (args : Array Value) : Prop :=
  ∃ zs l v l' new S', DoesX X f zs l S v l' new S' ∧ args = zs.map (ren (upE ns nx)) ∧ LendL h (upE ns nx) ns l ∧ K v l l' new S'

theorem At.callX {rows : List (Option Blk)} (ns : List Nat) (ho : ops.toList[i]? = some o) (hw : Region.wanted o (yieldedL ops tmps) = true) (hb : opOK o.op = true) (hnd : ns.Nodup) (hlt : (ns.all fun n => decide (n < rows.length)) = true)
    (hk : ∀ K : List Value → List (Option Blk) → σ → Prop, (∀ t rs S', At X fn A ops k (i + 1) t (heapL rs) S' → K t rs S') →
      CallK (CallX X S ns rows.length (heapL rows) fun v l l' new S' => decide (rows.length + l.length + new.length < 1000000) = true ∧ K (putL o.dst (ren (upE ns rows.length) v) tmps) (backR (upE ns rows.length) rows ns l l' ++ new.map fun b => some (renB (upE ns rows.length) b)) S') (callA P (evA tmps) o.op)) : At X fn A ops k i tmps (heapL rows) S := by
  have hk := hk _ fun _ _ _ h => h
  have hlt : ∀ n ∈ ns, n < rows.length := fun n hn => of_decide_eq_true (List.all_eq_true.1 hlt n hn)
  unfold At
  rw [range_at (at_list ho)]
  cases hv : callA P (evA tmps) o.op with
  | none => rw [hv] at hk; exact hk.elim
  | some x =>
    obtain ⟨f, args⟩ := x
    rw [hv] at hk
    obtain ⟨zs, l, v, l', new, S', ⟨g, c, h1, v0, ex, R, d1, d2, d3, d4, d5, d6, d7⟩, rfl, hL, hlim, hK⟩ := hk
    have hlim := of_decide_eq_true hlim
    have hC := call_lent (ns := ns) (h := heapL rows) (o := o) (e := evA tmps) (f := f) (args := zs) (by rw [heapL_next]; exact hv) d1 d2 d3 d4 d5 d6 (heapL_low _) (by rw [heapL_next]; exact hL) hnd (by unfold VB; omega)
    rw [heapL_next, backH_L hlt] at hC
    exact .call f g c zs _ _ _ h1 ex v0 (at_list ho) hw (opOK_all hb) hC (.inr (by rw [heapL_next, List.length_append, backR_len, List.length_map]; unfold VB; omega)) d7 hK

/-- In a region that draws its order: the rows that are lent are read alone. -/
theorem RG.callX {rows : List (Option Blk)} (ns : List Nat) (ho : ops.toList[i]? = some o) (hw : Region.wanted o (yieldedL ops tmps) = true) (hb : opOK o.op = true) (hq : wrB W i o = false) (hnd : ns.Nodup)
    (hk : ∀ K : List Value → List (Option Blk) → σ → List (Nat × Nat) → Prop, (∀ t rs S' born', RGF X W ops n0 hf Kf (i + 1) t (heapL rs) S' born' → K t rs S' born') →
      CallK (CallX X S ns rows.length (visH n0 born ((masksFrom ops.toList []).getD i 0) (heapL rows)) fun v l _ new S' => (l.all (·.ro) = true ∧ decide (rows.length + l.length + new.length < 1000000) = true) ∧ K (putL o.dst (ren (upE ns rows.length) v) tmps) (rows ++ new.map fun b => some (renB (upE ns rows.length) b)) S' (bornN i rows.length (rows.length + new.length) ++ born)) (callA P (evA tmps) o.op)) (hnf : farB W i = false := by rfl) : RGF X W ops n0 hf Kf i tmps (heapL rows) S born := by
  have hk := hk _ fun _ _ _ _ h => h
  cases hv : callA P (evA tmps) o.op with
  | none => rw [hv] at hk; exact hk.elim
  | some x =>
    obtain ⟨f, args⟩ := x
    rw [hv] at hk
    obtain ⟨zs, l, v, l', new, S', ⟨g, c, h1, v0, ex, R, d1, d2, d3, d4, d5, d6, d7⟩, rfl, hL, ⟨hro, hlim⟩, hK⟩ := hk
    have hlim := of_decide_eq_true hlim
    have hlowv : (visH n0 born ((masksFrom ops.toList []).getD i 0) (heapL rows)).Low := by
      intro n b hb
      unfold visH at hb ⊢
      simp only at hb ⊢
      split at hb
      · cases hg : (heapL rows).get n with
        | none => rw [hg] at hb; cases hb
        | some b0 => exact heapL_low _ _ _ hg
      · cases hb
    have hnx : (visH n0 born ((masksFrom ops.toList []).getD i 0) (heapL rows)).next = rows.length := rfl
    have hC := call_lent (ns := ns) (h := visH n0 born ((masksFrom ops.toList []).getD i 0) (heapL rows)) (o := o) (e := evA tmps) (f := f) (args := zs) (by rw [hnx]; exact hv) d1 d2 d3 d4 d5 d6 hlowv (by rw [hnx]; exact hL) hnd (by unfold VB; omega)
    rw [hnx] at hC
    have hbl : ∀ m, backL ns l l' m = none := fun m => by
      cases hb' : backL ns l l' m with
      | none => rfl
      | some b' =>
        obtain ⟨j, b, _, g2, g3, _⟩ := backL_some hb'
        have := List.all_eq_true.1 hro b (List.mem_of_getElem? g2)
        rw [g3] at this; cases this
    refine .call' (h' := heapL (rows ++ new.map fun b => some (renB (upE ns rows.length) b))) false f g c zs _ _ _ h1 ex v0 hnf (at_list ho) hw (opOK_all hb) (.inr (by rw [heapL_next, List.length_append, List.length_map]; unfold VB; omega)) ⟨hq, _, hC, ?_⟩ d7 ?_ ?_
    · refine aheap_ext (fun m => ?_) ?_
      · rw [glueH_get, heapL_next, heapL_get, heapL_get]
        have hbk : ∀ E m, (backH (visH n0 born ((masksFrom ops.toList []).getD i 0) (heapL rows)) E ns l l' new).get m = if rows.length ≤ m then (new[m - rows.length]?).map (renB E) else (visH n0 born ((masksFrom ops.toList []).getD i 0) (heapL rows)).get m := fun E m => by
          unfold backH
          simp only [hbl m]
          rfl
        rw [hbk]
        have hbn : ∀ E, (backH (visH n0 born ((masksFrom ops.toList []).getD i 0) (heapL rows)) E ns l l' new).next = rows.length + new.length := fun E => rfl
        rw [hbn]
        split
        · rename_i hm
          rw [List.getElem?_append_right hm, List.getElem?_map]
          split
          · cases new[m - rows.length]? <;> simp
          · rw [List.getElem?_eq_none (by omega)]; simp
        · rename_i hm
          rw [List.getElem?_append_left (by omega)]
      · show (heapL (rows ++ _)).next = rows.length + new.length
        rw [heapL_next, List.length_append, List.length_map]
    · intro n b _ q1 q2
      rw [heapL_next] at q2
      rw [heapL_get, heapL_get, List.getElem?_append_left (by omega)]
    · rw [heapL_next, heapL_next, List.length_append, List.length_map]
      exact hK

/-! ### what a function gives -/

/-- It only reads what is lent, and hands nothing over. -/
theorem Gives.still {cnt : Nat} {l : List Blk} {h1 : AHeap} {v : Value} (hro : l.all (·.ro) = true) (hv : Clo (Kn l.length cnt) v) : Gives cnt l l [] [] id h1 v v where
  low := fun _ _ => rfl
  hand := fun _ _ => rfl
  more := fun j n hj => by simp at hj
  nodup := List.nodup_nil
  len := rfl
  len' := rfl
  told := (ren_id v).symm
  clo := fun F F' hs => hv F F' (hs.mono fun n hn => by
    rcases hn with hn | hn
    · exact .inl hn
    · exact .inr (.inr hn))
  rows := fun i b hb hr => by
    have := List.all_eq_true.1 hro b (List.mem_of_getElem? hb)
    rw [hr] at this; cases this
  news := fun j n hj => by simp at hj

theorem Goes.finX {v v0 : Value} {S' : σ} {l l' new : List Blk} {ex : List Nat} {R : Nat → Nat} (ht : retB todo = true) (hv : resA P fn tmps h = some v0) (hS : S = S') (hG : Gives (X.cnt S') l l' new ex R h v0 v) :
    Goes X fn (fun x => ∃ v0 h1 ex R, x = .done v0 h1 S' ∧ Gives (X.cnt S') l l' new ex R h1 v0 v) (.run todo tmps h S) :=
  .ret ht hv (.here ⟨v0, h, ex, R, by rw [hS], hG⟩)

theorem Goes.finS {v : Value} {S' : σ} {l : List Blk} (ht : retB todo = true) (hv : resA P fn tmps h = some v) (hS : S = S') (hro : l.all (·.ro) = true) (hc : Clo (Kn l.length (X.cnt S')) v) :
    Goes X fn (fun x => ∃ v0 h1 ex R, x = .done v0 h1 S' ∧ Gives (X.cnt S') l l [] ex R h1 v0 v) (.run todo tmps h S) :=
  Goes.finX ht hv hS (Gives.still hro hc)

theorem DoesX.mk {f : FuncId} {g : Func} {c : Code} {args : Array Value} {l l' new : List Blk} {S S' : σ} {v : Value} (hf : P.funcs[f]? = some g) (hg : goB g = true) (hb : g.body = some c) (hclo : ∀ u ∈ args.toList, Clo (Kn l.length (X.cnt S)) u) (hcl : ∀ b ∈ l, ∀ u ∈ b.cells, Clo (Kn l.length (X.cnt S)) u)
    (hrun : Goes X g (fun x => ∃ v0 h1 ex R, x = .done v0 h1 S' ∧ Gives (X.cnt S') l l' new ex R h1 v0 v) (.run [.code c] (args.toList ++ List.replicate (g.ntmps - args.size) undef) (heapL (l.map some)) S)) : DoesX X f args l S v l' new S' := by
  obtain ⟨c', ⟨v0, h1, ex, R, rfl, hG⟩, G⟩ := hrun.out
  exact ⟨g, c, h1, v0, ex, R, hf, hg, hb, hclo, hcl, hG, G⟩

/-- Rows of plain cells. -/
theorem plain_rows {l : List Blk} {n c : Nat} (h : ∀ b ∈ l, ∀ u ∈ b.cells, plainB u = true) : ∀ b ∈ l, ∀ u ∈ b.cells, Clo (Kn n c) u := fun b hb u hu => Clo.plain (h b hb u hu)
theorem plain_map {cs : List Value} {E : Emb} (h : ∀ u ∈ cs, plainB u = true) : cs = cs.map (ren E) := by
  conv => lhs; rw [← List.map_id cs]
  exact List.map_congr_left fun u hu => (ren_plain E (h u hu)).symm

end

/-- A loop: what holds at its head; a measure that goes down. -/
theorem Goes.wh {P : Program} {σ : Type} {X : Face P σ} {fn : Func} {A : Conf σ → Prop} {B : Code} {K : List Item} {tmps : List Value} {h : AHeap} {S : σ} (Inv : Nat → List Value → AHeap → σ → Prop) {m : Nat} (h0 : Inv m tmps h S)
    (step : ∀ m tmps h S, (∀ m' t' h' S', m' < m → Inv m' t' h' S' → Goes X fn A (.run (.inLoop B :: K) t' h' S')) → Inv m tmps h S → Goes X fn A (.run (.code B :: .inLoop B :: K) tmps h S)) : Goes X fn A (.run (.code (.loop B) :: K) tmps h S) := by
  refine .ctl rfl ?_
  have key : ∀ n, ∀ m tmps h S, m < n → Inv m tmps h S → Goes X fn A (.run (.code B :: .inLoop B :: K) tmps h S) := by
    intro n
    induction n with
    | zero => intro m _ _ _ hm; omega
    | succ n ih =>
      intro m tmps h S hm hI
      exact step m tmps h S (fun m' t' h' S' hm' hI' => .ctl rfl (ih m' t' h' S' (by omega) hI')) hI
  exact key (m + 1) m tmps h S (by omega) h0

/-- A frame, slot by slot. -/
theorem frame_lit {tmps : List Value} {n : Nat} (h : tmps.length = n) : ∃ V : Nat → Value, (∀ i, tmps.getD i undef = V i) ∧ tmps = (List.range n).map V := by
  refine ⟨fun i => tmps.getD i undef, fun _ => rfl, ?_⟩
  apply List.ext_getElem?
  intro j
  rw [List.getElem?_map]
  by_cases hj : j < n
  · rw [List.getElem?_range hj]
    simp [List.getD, List.getElem?_eq_getElem (show j < tmps.length by omega)]
  · rw [List.getElem?_eq_none (by omega), List.getElem?_eq_none (by simp; omega)]
    rfl

theorem clo_s0 {n c a m : Nat} (h : 0 < n) : Clo (Kn n c) (.slice (some ⟨0, 0, none⟩) a m) := fun F F' hs => by
  obtain ⟨h1, h2, h3⟩ := hs 0 (.inl h)
  simp [adr, h1, h2, h3]
/-! ### append that makes a row -/
def appV (P : Program) (h : AHeap) (nx : Nat) (t : TypeId) (x y : Value) : Option (Value × Option Blk) := match appendA P h t x y with
  | some (news, el, need, true) => some (.slice (some ⟨nx, 0, none⟩) need need, some ⟨news, el, false, tySize P el⟩)
  | _ => none
theorem n_append {P : Program} {e : Operand → Value} {h : AHeap} {nx : Nat} {t : TypeId} {x y : Operand} : newA P e h nx (.call { callee := .builtin .append, args := #[x, y], argTypes := #[t, t] }) = appV P h nx t (e x) (e y) := by
  unfold newA appV
  simp only [if_true]
  rcases appendA P h t (e x) (e y) with _ | ⟨news, el, need, b⟩
  · rfl
  · cases b <;> rfl
theorem appV_new {P : Program} {h : AHeap} {nx : Nat} {t el : TypeId} {s bs sl sc n c : Nat} {a b : Option Addr} {z : Value} {olds news : List Value} (h1 : tySlice P t = some el) (h2 : tySize P el = some (s + 1)) (h3 : tyBytes P el = some bs) (h4 : tyZero P el = some z)
    (h5 : (plainB z && decide (z.cells.size = s + 1) && decide (bs ≤ 1048576)) = true) (c1 : cellsA h (s + 1) (.slice a sl sc) = some olds) (c2 : cellsA h (s + 1) (.slice b n c) = some news) (h6 : sc < sl + n) (h7 : sl + n ≤ 16777216) (h8 : ∀ x, a = some x → ∃ bk, h.get x.block = some bk ∧ bk.grow = some 0) :
    appV P h nx t (.slice a sl sc) (.slice b n c) = some (.slice (some ⟨nx, 0, none⟩) (sl + n) (sl + n), some ⟨olds ++ news, el, false, some (s + 1)⟩) := by
  have h5' : plainB z = true ∧ z.cells.size = s + 1 ∧ bs ≤ 1048576 := by
    rw [Bool.and_eq_true, Bool.and_eq_true, decide_eq_true_eq, decide_eq_true_eq] at h5
    exact ⟨h5.1.1, h5.1.2, h5.2⟩
  have hc : plainB z = true ∧ z.cells.size = s + 1 ∧ bs ≤ 1048576 ∧ sc < sl + n ∧ sl + n ≤ 16777216 := ⟨h5'.1, h5'.2.1, h5'.2.2, h6, h7⟩
  have hap : appendA P h t (.slice a sl sc) (.slice b n c) = some (olds ++ news, el, sl + n, true) := by
    unfold appendA
    simp only [h1, h2, h3, h4, Option.getD_some, c1, c2]
    rw [if_pos hc]
    cases a with
    | none => rfl
    | some x =>
      obtain ⟨bk, g1, g2⟩ := h8 x rfl
      simp only [g1, g2, if_true]
  unfold appV
  rw [hap]
  simp only [h2]

theorem w_append0 {P : Program} {e : Operand → Value} {h : AHeap} {t el : TypeId} {x y : Operand} {a : Addr} {b : Option Addr} {s sl sc c : Nat} (hx : e x = .slice (some a) sl sc) (hy : e y = .slice b 0 c) (h1 : tySlice P t = some el) (h2 : tySize P el = some s) (hl : sl ≤ sc) :
    wrA P e h (.call { callee := .builtin .append, args := #[x, y], argTypes := #[t, t] }) = some (.slice (some a) sl sc, h) := by
  unfold wrA
  simp only [if_true, hx, hy, h1, h2, Nat.add_zero, hl]
theorem cellsA_nil {h : AHeap} {s : Nat} : cellsA h s (.slice none 0 0) = some [] := rfl
theorem cellsA_zero {h : AHeap} {s c : Nat} {a : Addr} : cellsA h s (.slice (some a) 0 c) = some [] := by simp [cellsA]
theorem cellsA_row {h : AHeap} {s n c : Nat} {a : Addr} {b : Blk} (hn : n ≠ 0) (hg : h.get a.block = some b) (hs : a.spot = none) (hl : a.off + n * s ≤ b.cells.length) : cellsA h s (.slice (some a) n c) = some ((b.cells.drop a.off).take (n * s)) := by
  show (if n = 0 then some [] else if a.spot = none then (match h.get a.block with
    | some b => if a.off + n * s ≤ b.cells.length then some ((b.cells.drop a.off).take (n * s)) else none
    | none => none) else none) = _
  rw [if_neg hn, if_pos hs, hg]
  simp only [hl, if_true]

def numRow (k : IntKind) (ns : List Int) : List Value := ns.map fun n => .int k n
theorem numRow_plain {k : IntKind} {ns : List Int} : ∀ u ∈ numRow k ns, plainB u = true := fun u hu => by
  obtain ⟨n, _, rfl⟩ := List.mem_map.1 hu; rfl
theorem numRow_all {k : IntKind} {ns : List Int} : (numRow k ns).all cellB = true := List.all_eq_true.2 fun u hu => by
  obtain ⟨n, _, rfl⟩ := List.mem_map.1 hu; rfl


theorem up_0 {a nx : Nat} {ns : List Nat} : (upE (a :: ns) nx).blk 0 = a := by simp [upE, nameE, upN]
theorem up_1 {a b nx : Nat} {ns : List Nat} : (upE (a :: b :: ns) nx).blk 1 = b := by simp [upE, nameE, upN]
theorem up_2 {a b c nx : Nat} {ns : List Nat} : (upE (a :: b :: c :: ns) nx).blk 2 = c := by simp [upE, nameE, upN]
theorem up_00 {nx : Nat} : (upE [] nx).blk 0 = nx := by simp [upE, nameE, upN, VB]
theorem up_11 {a nx : Nat} : (upE [a] nx).blk 1 = nx := by simp [upE, nameE, upN, VB]
theorem up_22 {a b nx : Nat} : (upE [a, b] nx).blk 2 = nx := by simp [upE, nameE, upN, VB]
theorem up_01 {nx : Nat} : (upE [] nx).blk 1 = nx + 1 := by simp [upE, nameE, upN, VB]
theorem up_02 {nx : Nat} : (upE [] nx).blk 2 = nx + 2 := by simp [upE, nameE, upN, VB]
theorem up_12 {a nx : Nat} : (upE [a] nx).blk 2 = nx + 1 := by simp [upE, nameE, upN, VB]
theorem up_base {nx n : Nat} {ns : List Nat} : (upE ns nx).base n = 0 := rfl
theorem up_slack {nx n : Nat} {ns : List Nat} : (upE ns nx).slack n = 0 := rfl
theorem up_hnd {nx k : Nat} {ns : List Nat} (h : ns.length < 1000000) : ren (upE ns nx) (hndV k) = hndV k := by
  have h1 : ¬ VB + k < ns.length := by unfold VB; omega
  have h2 : ¬ VB + k < VB := by omega
  simp only [hndV, ren_psome, adr, upE, nameE, upN, h1, h2, if_false, Nat.zero_add]
theorem up_prt {nx k : Nat} {ns : List Nat} (h : ns.length < 1000000) : ren (upE ns nx) (prtV k) = prtV k := by
  simp only [prtV, ren_iface, up_hnd h]
theorem up_plain {nx : Nat} {ns : List Nat} {v : Value} (h : plainB v = true) : ren (upE ns nx) v = v := ren_plain _ h
theorem up_geo {nx N T : Nat} {ns : List Nat} : ren (upE ns nx) (.agg (geoC N T)) = .agg (geoC N T) := ren_plain _ (geo_plain N T)

theorem map_geo {E : Emb} {N T : Nat} : (geoC N T).map (ren E) = geoC N T := by
  have := ren_plain E (geo_plain N T)
  rw [ren_agg] at this
  exact (Value.agg.inj this)
/-- What a called function's values are for its caller: the rules. -/
theorem up_int {nx : Nat} {ns : List Nat} {k : IntKind} {n : Int} : ren (upE ns nx) (.int k n) = .int k n := ren_int _ k n
attribute [go_sem high] n_append
attribute [go_sem] map_geo CallX backR renB up_0 up_1 up_2 up_00 up_11 up_22 up_01 up_02 up_12 up_base up_slack up_hnd up_prt up_geo ren_bool ren_int ren_string ren_pnone ren_psome ren_snone ren_ssome ren_iface ren_nilIface ren_nilFunc ren_agg ren_tuple ren_func adr Nat.add_zero List.append_nil

end Go.Proofs.Ytceddijolfpppaa
