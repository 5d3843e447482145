/-
  The abstract machine, part 14: functions to which rows are lent, and that hand rows over.
  No condition: definitions and laws.
-/
import Derived.Test.YtceddijolfpppaaUAx13
import Derived.Test.YtceddijolfpppaaUMem
import Derived.Lib.SliceRun
import Derived.OwnWalk
namespace Go.Proofs.Ytceddijolfpppaa
open Go Go.RowKit
set_option linter.unusedSimpArgs false
set_option linter.unusedVariables false
def upN (ns : List Nat) (nx : Nat) (n : Nat) : Nat := if n < ns.length then ns.getD n 0 else if n < VB then nx + (n - ns.length) else n
def upE (ns : List Nat) (nx : Nat) : Emb := nameE (upN ns nx)
def renB (E : Emb) (b : Blk) : Blk := { b with cells := b.cells.map (ren E) }
structure Gives (cnt : Nat) (l l' new : List Blk) (ex : List Nat) (R : Nat → Nat) (h1 : AHeap) (v0 v : Value) : Prop where
  low : ∀ n, n < l.length → R n = n
  hand : ∀ n, VB ≤ n → R n = n
  more : ∀ (j n : Nat), ex[j]? = some n → l.length ≤ n ∧ n < VB ∧ R n = l.length + j
  nodup : ex.Nodup
  len : ex.length = new.length
  len' : l'.length = l.length
  told : v = ren (nameE R) v0
  clo : Clo (fun n => n < l.length ∨ n ∈ ex ∨ (VB ≤ n ∧ n < VB + cnt)) v0
  rows : ∀ (i : Nat) (b : Blk), l[i]? = some b → b.ro = false → ∃ b1, h1.get i = some b1 ∧ l'[i]? = some (renB (nameE R) b1) ∧ b1.ro = false ∧ ∀ u ∈ b1.cells, Clo (fun n => n < l.length ∨ n ∈ ex ∨ (VB ≤ n ∧ n < VB + cnt)) u
  news : ∀ (j n : Nat), ex[j]? = some n → ∃ b1, h1.get n = some b1 ∧ new[j]? = some (renB (nameE R) b1) ∧ b1.ro = false ∧ ∀ u ∈ b1.cells, Clo (fun n => n < l.length ∨ n ∈ ex ∨ (VB ≤ n ∧ n < VB + cnt)) u
section
variable {P : Program} {σ : Type} {X : Face P σ}
def DoesX (X : Face P σ) (f : FuncId) (args : Array Value) (l : List Blk) (S : σ) (v : Value) (l' new : List Blk) (S' : σ) : Prop :=
  ∃ g c h1 v0 ex R, P.funcs[f]? = some g ∧ goB g = true ∧ g.body = some c ∧ (∀ u ∈ args.toList, Clo (Kn l.length (X.cnt S)) u) ∧ (∀ b ∈ l, ∀ u ∈ b.cells, Clo (Kn l.length (X.cnt S)) u) ∧ Gives (X.cnt S') l l' new ex R h1 v0 v ∧
    Goes X g (fun x => x = .done v0 h1 S') (.run (enterL g c args).1 (enterL g c args).2 (heapL (l.map some)) S)
def LendL (h : AHeap) (E : Emb) : List Nat → List Blk → Prop
  | [], [] => True
  | n :: ns, b :: l => (∃ b0, h.get n = some b0 ∧ b0.elem = b.elem ∧ b0.cells = b.cells.map (ren E) ∧ (b.grow = b0.grow ∨ b.grow = none) ∧ (b.ro = false → b0.ro = false)) ∧ LendL h E ns l
  | _, _ => False
theorem LendL.spec {h : AHeap} {E : Emb} : ∀ {ns : List Nat} {l : List Blk}, LendL h E ns l → ns.length = l.length ∧ ∀ (i : Nat) (b : Blk), l[i]? = some b → ∃ n b0, ns[i]? = some n ∧ h.get n = some b0 ∧ b0.elem = b.elem ∧ b0.cells = b.cells.map (ren E) ∧ (b.grow = b0.grow ∨ b.grow = none) ∧ (b.ro = false → b0.ro = false)
  | [], [], _ => ⟨rfl, fun i b hb => by simp at hb⟩
  | n :: ns, c :: l, ⟨⟨b0, h0⟩, hr⟩ => by
    obtain ⟨h1, h2⟩ := LendL.spec hr
    refine ⟨by simp [h1], fun i b hb => ?_⟩
    cases i with
    | zero => simp at hb; subst hb; exact ⟨n, b0, by simp, h0⟩
    | succ i => simp at hb; simpa using h2 i b hb
  | [], _ :: _, h => h.elim
  | _ :: _, [], h => h.elim
def backL : List Nat → List Blk → List Blk → Nat → Option Blk
  | n :: ns, b :: l, b' :: l', m => if n = m ∧ b.ro = false then some b' else backL ns l l' m
  | _, _, _, _ => none
theorem backL_some : ∀ {ns : List Nat} {l l' : List Blk} {m : Nat} {b' : Blk}, backL ns l l' m = some b' → ∃ (i : Nat) (b : Blk), ns[i]? = some m ∧ l[i]? = some b ∧ b.ro = false ∧ l'[i]? = some b'
  | [], _, _, _, _, h => by simp [backL] at h
  | _ :: _, [], _, _, _, h => by simp [backL] at h
  | _ :: _, _ :: _, [], _, _, h => by simp [backL] at h
  | n :: ns, b :: l, c :: l', m, b', h => by
    simp only [backL] at h
    split at h
    · rename_i hc; cases h; exact ⟨0, b, by simp [hc.1], by simp, hc.2, by simp⟩
    · obtain ⟨i, b1, h1, h2, h3, h4⟩ := backL_some h
      exact ⟨i + 1, b1, by simpa using h1, by simpa using h2, h3, by simpa using h4⟩
theorem backL_none : ∀ {ns : List Nat} {l l' : List Blk} {m : Nat}, backL ns l l' m = none → ns.length = l.length → l'.length = l.length → ∀ (i : Nat) (b : Blk), l[i]? = some b → b.ro = false → ns[i]? ≠ some m
  | [], [], _, _, _, _, _, i, b, hb, _ => by simp at hb
  | [], _ :: _, _, _, _, hl, _, _, _, _, _ => by simp at hl
  | _ :: _, [], _, _, _, hl, _, _, _, _, _ => by simp at hl
  | _ :: _, _ :: _, [], _, _, _, hl, _, _, _, _ => by simp at hl
  | n :: ns, c :: l, c' :: l', m, h, hl, hl', i, b, hb, hr => by
    simp only [backL] at h
    split at h
    · cases h
    · rename_i hc
      cases i with
      | zero =>
        simp at hb; subst hb
        simp only [List.getElem?_cons_zero, ne_eq, Option.some.injEq]
        exact fun h => hc ⟨h, hr⟩
      | succ i =>
        simp at hb hl hl'
        simpa using backL_none h hl hl' i b hb hr
def backH (h : AHeap) (E : Emb) (ns : List Nat) (l l' new : List Blk) : AHeap :=
  ⟨fun m => match backL ns l l' m with
    | some b => some (renB E b)
    | none => if h.next ≤ m then (new[m - h.next]?).map (renB E) else h.get m, h.next + new.length⟩
theorem upE_low {ns : List Nat} {nx i n : Nat} (h : ns[i]? = some n) : (upE ns nx).blk i = n := by
  have := (List.getElem?_eq_some_iff.1 h).1
  simp only [upE, nameE, upN, this, if_true]
  simp [List.getD, h]
theorem renB_comp (F E : Emb) (b : Blk) : renB F (renB E b) = { b with cells := b.cells.map (ren (F.comp E)) } := by
  unfold renB
  simp only [List.map_map]
  congr 1
  exact List.map_congr_left fun v _ => ren_comp F E v
theorem nodup_ne {l : List Nat} (h : l.Nodup) {i j : Nat} (hi : i < l.length) (hj : j < l.length) (hne : i ≠ j) : l[i] ≠ l[j] := by
  rcases Nat.lt_or_gt_of_ne hne with h1 | h1
  · exact List.pairwise_iff_getElem.1 h i j hi hj h1
  · exact Ne.symm (List.pairwise_iff_getElem.1 h j i hj hi h1)
theorem call_lent {o : Oper} {e : Operand → Value} {h : AHeap} {S S' : σ} {f : FuncId} {g : Func} {c : Code} {args : Array Value} {l l' new : List Blk} {ex : List Nat} {R : Nat → Nat} {v v0 : Value} {h1 : AHeap} {ns : List Nat} (hca : callA P e o.op = some (f, args.map (ren (upE ns h.next)))) (hf : P.funcs[f]? = some g) (hg : goB g = true) (hb : g.body = some c)
    (hclo : ∀ u ∈ args.toList, Clo (Kn l.length (X.cnt S)) u) (hcl : ∀ b ∈ l, ∀ u ∈ b.cells, Clo (Kn l.length (X.cnt S)) u) (G : Gives (X.cnt S') l l' new ex R h1 v0 v) (hlow : h.Low) (hL : LendL h (upE ns h.next) ns l) (hnd : ns.Nodup) (hlim : l.length + new.length ≤ VB) :
    CallOK X o e h S (ren (upE ns h.next) v) (backH h (upE ns h.next) ns l l' new) S' f g c args (upE ns h.next) ((upE ns h.next).comp (nameE R)) (heapL (l.map some)) h1 ex v0 := by
  obtain ⟨hlen, hlend⟩ := hL.spec
  have hget : ∀ n b, (heapL (l.map some)).get n = some b ↔ l[n]? = some b := fun n b => by
    rw [heapL_get, List.getElem?_map]
    cases l[n]? <;> simp
  have hhand : ∀ n, VB ≤ n → (upE ns h.next).blk n = n := fun n hn => by
    have h1 : ¬ n < ns.length := by omega
    have h2 : ¬ n < VB := by omega
    simp only [upE, nameE, upN, h1, h2, if_false]
  have hK : ∀ n, (n < l.length ∨ n ∈ ex ∨ (VB ≤ n ∧ n < VB + X.cnt S')) → ((∃ b, (heapL (l.map some)).get n = some b) ∨ n ∈ ex ∨ (VB ≤ n ∧ n < VB + X.cnt S')) := fun n hn => by
    rcases hn with hn | hn
    · exact .inl ⟨l[n], (hget _ _).2 (List.getElem?_eq_getElem hn)⟩
    · exact .inr hn
  have hex : ∀ (j n : Nat), ex[j]? = some n → j < new.length := fun j n hj => by
    rw [← G.len]; exact (List.getElem?_eq_some_iff.1 hj).1
  refine ⟨hca, hf, hg, hb, ⟨?_, ?_, ?_, ?_, ?_, ?_⟩, ?_, ⟨by rw [G.len]; rfl, ?_, ?_, ?_, ?_, ?_, ?_, ?_, ?_, ?_, G.nodup⟩⟩
  · intro n b hb v hv
    rw [hget] at hb
    rw [heapL_next, List.length_map]
    exact hcl b (List.mem_of_getElem? hb) v hv
  · intro n b hb
    rw [hget] at hb
    rw [heapL_next, List.length_map]
    exact (List.getElem?_eq_some_iff.1 hb).1
  · intro n b hb
    rw [hget] at hb
    obtain ⟨m, b0, k1, k2, k3, k4, k5, k6⟩ := hlend n b hb
    exact ⟨b0, by rw [upE_low k1]; exact k2, k3, .inl ⟨k4, rfl, rfl, k5, k6⟩⟩
  · intro n m b c hb hc hne _
    rw [hget] at hb hc
    obtain ⟨x, _, k1, _⟩ := hlend n b hb
    obtain ⟨y, _, k2, _⟩ := hlend m c hc
    rw [upE_low k1, upE_low k2]
    rintro rfl
    obtain ⟨h1, h1'⟩ := List.getElem?_eq_some_iff.1 k1
    obtain ⟨h2, h2'⟩ := List.getElem?_eq_some_iff.1 k2
    exact nodup_ne hnd h1 h2 hne (h1'.trans h2'.symm)
  · rw [heapL_next, List.length_map]; omega
  · exact fun n hn => ⟨hhand n hn, rfl, rfl⟩
  · rw [heapL_next, List.length_map]; exact hclo
  · intro n hn
    rw [heapL_next, List.length_map] at hn
    simp only [Emb.comp, nameE, G.low n hn, upE, Nat.add_zero, and_self]
  · intro j n hj
    obtain ⟨k1, k2, k3⟩ := G.more j n hj
    have := hex j n hj
    refine ⟨by rw [heapL_next, List.length_map]; exact k1, k2, ?_, rfl, rfl⟩
    simp only [Emb.comp, nameE, k3, upE, upN, hlen]
    have h1 : ¬ l.length + j < l.length := by omega
    have h2 : l.length + j < VB := by omega
    simp only [h1, h2, if_false, if_true]
    omega
  · intro n hn
    refine ⟨?_, rfl, rfl⟩
    simp only [Emb.comp]
    rw [show (nameE R).blk n = n from G.hand n hn]
    exact hhand n hn
  · rw [G.told, ren_comp]
  · exact fun F F' hs => G.clo F F' (hs.mono hK)
  · rintro n b hb hn u hu
    rcases hn with ⟨b0, hb0, hr⟩ | hn
    · rw [hget] at hb0
      obtain ⟨b1, k1, _, _, k4⟩ := G.rows n b0 hb0 hr
      rw [hb] at k1; cases k1
      exact fun F F' hs => k4 u hu F F' (hs.mono hK)
    · obtain ⟨j, hj⟩ := List.getElem?_of_mem hn
      obtain ⟨b1, k1, _, _, k4⟩ := G.news j n hj
      rw [hb] at k1; cases k1
      exact fun F F' hs => k4 u hu F F' (hs.mono hK)
  · intro j n hj
    obtain ⟨b1, k1, k2, _⟩ := G.news j n hj
    rw [k1]
    unfold backH
    simp only
    have hbk : backL ns l l' (h.next + j) = none := by
      cases hb' : backL ns l l' (h.next + j) with
      | none => rfl
      | some b' =>
        obtain ⟨i, b, g1, g2, _⟩ := backL_some hb'
        obtain ⟨m, b0, p1, p2, _⟩ := hlend i b g2
        rw [g1] at p1; cases p1
        have := hlow _ _ p2
        omega
    rw [hbk]
    simp only
    rw [if_pos (by omega), Nat.add_sub_cancel_left, k2, Option.map_some, renB_comp]
    rfl
  · intro m hm
    unfold backH
    simp only
    cases hb' : backL ns l l' m with
    | some b' =>
      obtain ⟨i, b, g1, g2, g3, g4⟩ := backL_some hb'
      obtain ⟨b1, k1, k2, k3, k4⟩ := G.rows i b g2 g3
      refine .inr ⟨i, b, (hget _ _).2 g2, g3, upE_low g1, ?_⟩
      rw [g4] at k2; cases k2
      rw [k1, Option.map_some]
      simp only [renB_comp]
    | none =>
      refine .inl ⟨?_, fun n b hb hr => ?_⟩
      · simp only
        split
        · rename_i hle
          rcases hm with hm | hm
          · omega
          · have hm : h.next + new.length ≤ m := hm
            rw [List.getElem?_eq_none (by omega)]
            cases hg' : h.get m with
            | none => rfl
            | some b => have := hlow _ _ hg'; omega
        · rfl
      · rw [hget] at hb
        obtain ⟨x, _, p1, _⟩ := hlend n b hb
        have := backL_none hb' hlen G.len' n b hb hr
        rw [upE_low p1]
        rintro rfl
        exact this p1
  · rintro n b hb (⟨b0, hb0, hr⟩ | hn)
    · rw [hget] at hb0
      obtain ⟨b1, k1, _, k3, _⟩ := G.rows n b0 hb0 hr
      rw [hb] at k1; cases k1; exact k3
    · obtain ⟨j, hj⟩ := List.getElem?_of_mem hn
      obtain ⟨b1, k1, _, k3, _⟩ := G.news j n hj
      rw [hb] at k1; cases k1; exact k3
def backR (E : Emb) (rows : List (Option Blk)) : List Nat → List Blk → List Blk → List (Option Blk)
  | n :: ns, b :: l, b' :: l' => if b.ro = false then (backR E rows ns l l').set n (some (renB E b')) else backR E rows ns l l'
  | _, _, _ => rows
theorem backR_len {E : Emb} {rows : List (Option Blk)} : ∀ {ns : List Nat} {l l' : List Blk}, (backR E rows ns l l').length = rows.length
  | [], _, _ => rfl
  | _ :: _, [], _ => rfl
  | _ :: _, _ :: _, [] => rfl
  | n :: ns, b :: l, b' :: l' => by
    simp only [backR]
    split
    · rw [List.length_set, backR_len]
    · rw [backR_len]
theorem backR_get {E : Emb} {rows : List (Option Blk)} : ∀ {ns : List Nat} {l l' : List Blk} {m : Nat}, (∀ n ∈ ns, n < rows.length) → ((backR E rows ns l l')[m]?).join = match backL ns l l' m with | some b => some (renB E b) | none => (rows[m]?).join
  | [], _, _, _, _ => rfl
  | _ :: _, [], _, _, _ => rfl
  | _ :: _, _ :: _, [], _, _ => rfl
  | n :: ns, b :: l, b' :: l', m, hlt => by
    have ih := @backR_get E rows ns l l' m (fun x hx => hlt x (by simp [hx]))
    simp only [backR, backL]
    have hn : n < rows.length := hlt n (by simp)
    by_cases hr : b.ro = false
    · rw [if_pos hr, List.getElem?_set]
      by_cases hm : n = m
      · subst hm
        simp [hr, backR_len, hn]
      · simp only [hm, false_and, if_false]
        exact ih
    · have hc : ¬ (n = m ∧ b.ro = false) := fun h => hr h.2
      rw [if_neg hr, if_neg hc]
      exact ih
theorem backH_L {E : Emb} {rows : List (Option Blk)} {ns : List Nat} {l l' new : List Blk} (hlt : ∀ n ∈ ns, n < rows.length) : backH (heapL rows) E ns l l' new = heapL (backR E rows ns l l' ++ new.map fun b => some (renB E b)) := by
  unfold backH heapL
  simp only [List.length_append, List.length_map, backR_len]
  congr 1
  funext m
  by_cases hm : rows.length ≤ m
  · have hbk : backL ns l l' m = none := by
      cases hb' : backL ns l l' m with
      | none => rfl
      | some b' =>
        obtain ⟨i, b, g1, _⟩ := backL_some hb'
        have := hlt m (List.mem_of_getElem? g1)
        omega
    rw [hbk, List.getElem?_append_right (by rw [backR_len]; exact hm), backR_len, List.getElem?_map]
    simp only [hm, if_true]
    cases new[m - rows.length]? <;> simp
  · rw [List.getElem?_append_left (by rw [backR_len]; omega), backR_get hlt]
    cases backL ns l l' m with
    | some b => rfl
    | none => simp [hm]
variable {fn : Func} {A : Conf σ → Prop} {ops : Array Oper} {k : List Item} {i : Nat} {tmps : List Value} {h : AHeap} {S : σ} {o : Oper} {todo : List Item} {W : List Nat} {n0 : Nat} {hf : AHeap} {Kf : List Value → AHeap → σ → Prop} {born : List (Nat × Nat)}
theorem aheap_ext {h h' : AHeap} (hg : ∀ m, h.get m = h'.get m) (hn : h.next = h'.next) : h = h' := by
  cases h; cases h'
  simp only [AHeap.mk.injEq]
  exact ⟨funext hg, hn⟩
theorem glueH_get {h hv : AHeap} {m : Nat} : (glueH h hv).get m = if h.next ≤ m then (if m < hv.next then hv.get m else none) else h.get m := rfl
def CallX (X : Face P σ) (S : σ) (ns : List Nat) (nx : Nat) (h : AHeap) (K : Value → List Blk → List Blk → List Blk → σ → Prop) (f : FuncId) (args : Array Value) : Prop :=
  ∃ zs l v l' new S', DoesX X f zs l S v l' new S' ∧ args = zs.map (ren (upE ns nx)) ∧ LendL h (upE ns nx) ns l ∧ K v l l' new S'
theorem At.callX {rows : List (Option Blk)} (ns : List Nat) (ho : ops.toList[i]? = some o) (hw : Region.wanted o (yieldedL ops tmps) = true) (hb : opOK o.op = true) (hnd : ns.Nodup) (hlt : (ns.all fun n => decide (n < rows.length)) = true)
    (hk : ∀ K : List Value → List (Option Blk) → σ → Prop, (∀ t rs S', At X fn A ops k (i + 1) t (heapL rs) S' → K t rs S') →
      CallK (CallX X S ns rows.length (heapL rows) fun v l l' new S' => decide (rows.length + l.length + new.length < 1000000) = true ∧ K (putL o.dst (ren (upE ns rows.length) v) tmps) (backR (upE ns rows.length) rows ns l l' ++ new.map fun b => some (renB (upE ns rows.length) b)) S') (callA P (evA tmps) o.op)) : At X fn A ops k i tmps (heapL rows) S := by
  have hk := hk _ fun _ _ _ h => h
  have hlt : ∀ n ∈ ns, n < rows.length := fun n hn => of_decide_eq_true (List.all_eq_true.1 hlt n hn)
  unfold At
  rw [range_at (at_list ho)]
  cases hv : callA P (evA tmps) o.op with
  | none => rw [hv] at hk; exact hk.elim
  | some x =>
    obtain ⟨f, args⟩ := x
    rw [hv] at hk
    obtain ⟨zs, l, v, l', new, S', ⟨g, c, h1, v0, ex, R, d1, d2, d3, d4, d5, d6, d7⟩, rfl, hL, hlim, hK⟩ := hk
    have hlim := of_decide_eq_true hlim
    have hC := call_lent (ns := ns) (h := heapL rows) (o := o) (e := evA tmps) (f := f) (args := zs) (by rw [heapL_next]; exact hv) d1 d2 d3 d4 d5 d6 (heapL_low _) (by rw [heapL_next]; exact hL) hnd (by unfold VB; omega)
    rw [heapL_next, backH_L hlt] at hC
    exact .call f g c zs _ _ _ h1 ex v0 (at_list ho) hw (opOK_all hb) hC (.inr (by rw [heapL_next, List.length_append, backR_len, List.length_map]; unfold VB; omega)) d7 hK
theorem RG.callX {rows : List (Option Blk)} (ns : List Nat) (ho : ops.toList[i]? = some o) (hw : Region.wanted o (yieldedL ops tmps) = true) (hb : opOK o.op = true) (hq : wrB W i o = false) (hnd : ns.Nodup)
    (hk : ∀ K : List Value → List (Option Blk) → σ → List (Nat × Nat) → Prop, (∀ t rs S' born', RGF X W ops n0 hf Kf (i + 1) t (heapL rs) S' born' → K t rs S' born') →
      CallK (CallX X S ns rows.length (visH n0 born ((masksFrom ops.toList []).getD i 0) (heapL rows)) fun v l _ new S' => (l.all (·.ro) = true ∧ decide (rows.length + l.length + new.length < 1000000) = true) ∧ K (putL o.dst (ren (upE ns rows.length) v) tmps) (rows ++ new.map fun b => some (renB (upE ns rows.length) b)) S' (bornN i rows.length (rows.length + new.length) ++ born)) (callA P (evA tmps) o.op)) (hnf : farB W i = false := by rfl) : RGF X W ops n0 hf Kf i tmps (heapL rows) S born := by
  have hk := hk _ fun _ _ _ _ h => h
  cases hv : callA P (evA tmps) o.op with
  | none => rw [hv] at hk; exact hk.elim
  | some x =>
    obtain ⟨f, args⟩ := x
    rw [hv] at hk
    obtain ⟨zs, l, v, l', new, S', ⟨g, c, h1, v0, ex, R, d1, d2, d3, d4, d5, d6, d7⟩, rfl, hL, ⟨hro, hlim⟩, hK⟩ := hk
    have hlim := of_decide_eq_true hlim
    have hlowv : (visH n0 born ((masksFrom ops.toList []).getD i 0) (heapL rows)).Low := by
      intro n b hb
      unfold visH at hb ⊢
      simp only at hb ⊢
      split at hb
      · cases hg : (heapL rows).get n with
        | none => rw [hg] at hb; cases hb
        | some b0 => exact heapL_low _ _ _ hg
      · cases hb
    have hnx : (visH n0 born ((masksFrom ops.toList []).getD i 0) (heapL rows)).next = rows.length := rfl
    have hC := call_lent (ns := ns) (h := visH n0 born ((masksFrom ops.toList []).getD i 0) (heapL rows)) (o := o) (e := evA tmps) (f := f) (args := zs) (by rw [hnx]; exact hv) d1 d2 d3 d4 d5 d6 hlowv (by rw [hnx]; exact hL) hnd (by unfold VB; omega)
    rw [hnx] at hC
    have hbl : ∀ m, backL ns l l' m = none := fun m => by
      cases hb' : backL ns l l' m with
      | none => rfl
      | some b' =>
        obtain ⟨j, b, _, g2, g3, _⟩ := backL_some hb'
        have := List.all_eq_true.1 hro b (List.mem_of_getElem? g2)
        rw [g3] at this; cases this
    refine .call' (h' := heapL (rows ++ new.map fun b => some (renB (upE ns rows.length) b))) false f g c zs _ _ _ h1 ex v0 hnf (at_list ho) hw (opOK_all hb) (.inr (by rw [heapL_next, List.length_append, List.length_map]; unfold VB; omega)) ⟨hq, _, hC, ?_⟩ d7 ?_ ?_
    · refine aheap_ext (fun m => ?_) ?_
      · rw [glueH_get, heapL_next, heapL_get, heapL_get]
        have hbk : ∀ E m, (backH (visH n0 born ((masksFrom ops.toList []).getD i 0) (heapL rows)) E ns l l' new).get m = if rows.length ≤ m then (new[m - rows.length]?).map (renB E) else (visH n0 born ((masksFrom ops.toList []).getD i 0) (heapL rows)).get m := fun E m => by
          unfold backH
          simp only [hbl m]
          rfl
        rw [hbk]
        have hbn : ∀ E, (backH (visH n0 born ((masksFrom ops.toList []).getD i 0) (heapL rows)) E ns l l' new).next = rows.length + new.length := fun E => rfl
        rw [hbn]
        split
        · rename_i hm
          rw [List.getElem?_append_right hm, List.getElem?_map]
          split
          · cases new[m - rows.length]? <;> simp
          · rw [List.getElem?_eq_none (by omega)]; simp
        · rename_i hm
          rw [List.getElem?_append_left (by omega)]
      · show (heapL (rows ++ _)).next = rows.length + new.length
        rw [heapL_next, List.length_append, List.length_map]
    · intro n b _ q1 q2
      rw [heapL_next] at q2
      rw [heapL_get, heapL_get, List.getElem?_append_left (by omega)]
    · rw [heapL_next, heapL_next, List.length_append, List.length_map]
      exact hK
theorem Gives.still {cnt : Nat} {l : List Blk} {h1 : AHeap} {v : Value} (hro : l.all (·.ro) = true) (hv : Clo (Kn l.length cnt) v) : Gives cnt l l [] [] id h1 v v where
  low := fun _ _ => rfl
  hand := fun _ _ => rfl
  more := fun j n hj => by simp at hj
  nodup := List.nodup_nil
  len := rfl
  len' := rfl
  told := (ren_id v).symm
  clo := fun F F' hs => hv F F' (hs.mono fun n hn => by
    rcases hn with hn | hn
    · exact .inl hn
    · exact .inr (.inr hn))
  rows := fun i b hb hr => by
    have := List.all_eq_true.1 hro b (List.mem_of_getElem? hb)
    rw [hr] at this; cases this
  news := fun j n hj => by simp at hj
theorem Goes.finX {v v0 : Value} {S' : σ} {l l' new : List Blk} {ex : List Nat} {R : Nat → Nat} (ht : retB todo = true) (hv : resA P fn tmps h = some v0) (hS : S = S') (hG : Gives (X.cnt S') l l' new ex R h v0 v) :
    Goes X fn (fun x => ∃ v0 h1 ex R, x = .done v0 h1 S' ∧ Gives (X.cnt S') l l' new ex R h1 v0 v) (.run todo tmps h S) :=
  .ret ht hv (.here ⟨v0, h, ex, R, by rw [hS], hG⟩)
theorem Goes.finS {v : Value} {S' : σ} {l : List Blk} (ht : retB todo = true) (hv : resA P fn tmps h = some v) (hS : S = S') (hro : l.all (·.ro) = true) (hc : Clo (Kn l.length (X.cnt S')) v) :
    Goes X fn (fun x => ∃ v0 h1 ex R, x = .done v0 h1 S' ∧ Gives (X.cnt S') l l [] ex R h1 v0 v) (.run todo tmps h S) :=
  Goes.finX ht hv hS (Gives.still hro hc)
theorem DoesX.mk {f : FuncId} {g : Func} {c : Code} {args : Array Value} {l l' new : List Blk} {S S' : σ} {v : Value} (hf : P.funcs[f]? = some g) (hg : goB g = true) (hb : g.body = some c) (hclo : ∀ u ∈ args.toList, Clo (Kn l.length (X.cnt S)) u) (hcl : ∀ b ∈ l, ∀ u ∈ b.cells, Clo (Kn l.length (X.cnt S)) u)
    (hrun : Goes X g (fun x => ∃ v0 h1 ex R, x = .done v0 h1 S' ∧ Gives (X.cnt S') l l' new ex R h1 v0 v) (.run [.code c] (args.toList ++ List.replicate (g.ntmps - args.size) undef) (heapL (l.map some)) S)) : DoesX X f args l S v l' new S' := by
  obtain ⟨c', ⟨v0, h1, ex, R, rfl, hG⟩, G⟩ := hrun.out
  exact ⟨g, c, h1, v0, ex, R, hf, hg, hb, hclo, hcl, hG, G⟩
theorem plain_rows {l : List Blk} {n c : Nat} (h : ∀ b ∈ l, ∀ u ∈ b.cells, plainB u = true) : ∀ b ∈ l, ∀ u ∈ b.cells, Clo (Kn n c) u := fun b hb u hu => Clo.plain (h b hb u hu)
theorem plain_map {cs : List Value} {E : Emb} (h : ∀ u ∈ cs, plainB u = true) : cs = cs.map (ren E) := by
  conv => lhs; rw [← List.map_id cs]
  exact List.map_congr_left fun u hu => (ren_plain E (h u hu)).symm
end
theorem Goes.wh {P : Program} {σ : Type} {X : Face P σ} {fn : Func} {A : Conf σ → Prop} {B : Code} {K : List Item} {tmps : List Value} {h : AHeap} {S : σ} (Inv : Nat → List Value → AHeap → σ → Prop) {m : Nat} (h0 : Inv m tmps h S)
    (step : ∀ m tmps h S, (∀ m' t' h' S', m' < m → Inv m' t' h' S' → Goes X fn A (.run (.inLoop B :: K) t' h' S')) → Inv m tmps h S → Goes X fn A (.run (.code B :: .inLoop B :: K) tmps h S)) : Goes X fn A (.run (.code (.loop B) :: K) tmps h S) := by
  refine .ctl rfl ?_
  have key : ∀ n, ∀ m tmps h S, m < n → Inv m tmps h S → Goes X fn A (.run (.code B :: .inLoop B :: K) tmps h S) := by
    intro n
    induction n with
    | zero => intro m _ _ _ hm; omega
    | succ n ih =>
      intro m tmps h S hm hI
      exact step m tmps h S (fun m' t' h' S' hm' hI' => .ctl rfl (ih m' t' h' S' (by omega) hI')) hI
  exact key (m + 1) m tmps h S (by omega) h0
theorem frame_lit {tmps : List Value} {n : Nat} (h : tmps.length = n) : ∃ V : Nat → Value, (∀ i, tmps.getD i undef = V i) ∧ tmps = (List.range n).map V := by
  refine ⟨fun i => tmps.getD i undef, fun _ => rfl, ?_⟩
  apply List.ext_getElem?
  intro j
  rw [List.getElem?_map]
  by_cases hj : j < n
  · rw [List.getElem?_range hj]
    simp [List.getD, List.getElem?_eq_getElem (show j < tmps.length by omega)]
  · rw [List.getElem?_eq_none (by omega), List.getElem?_eq_none (by simp; omega)]
    rfl
theorem clo_s0 {n c a m : Nat} (h : 0 < n) : Clo (Kn n c) (.slice (some ⟨0, 0, none⟩) a m) := fun F F' hs => by
  obtain ⟨h1, h2, h3⟩ := hs 0 (.inl h)
  simp [adr, h1, h2, h3]
def appV (P : Program) (h : AHeap) (nx : Nat) (t : TypeId) (x y : Value) : Option (Value × Option Blk) := match appendA P h t x y with
  | some (news, el, need, true) => some (.slice (some ⟨nx, 0, none⟩) need need, some ⟨news, el, false, tySize P el⟩)
  | _ => none
theorem n_append {P : Program} {e : Operand → Value} {h : AHeap} {nx : Nat} {t : TypeId} {x y : Operand} : newA P e h nx (.call { callee := .builtin .append, args := #[x, y], argTypes := #[t, t] }) = appV P h nx t (e x) (e y) := by
  unfold newA appV
  simp only [if_true]
  rcases appendA P h t (e x) (e y) with _ | ⟨news, el, need, b⟩
  · rfl
  · cases b <;> rfl
theorem appV_new {P : Program} {h : AHeap} {nx : Nat} {t el : TypeId} {s bs sl sc n c : Nat} {a b : Option Addr} {z : Value} {olds news : List Value} (h1 : tySlice P t = some el) (h2 : tySize P el = some (s + 1)) (h3 : tyBytes P el = some bs) (h4 : tyZero P el = some z)
    (h5 : (plainB z && decide (z.cells.size = s + 1) && decide (bs ≤ 1048576)) = true) (c1 : cellsA h (s + 1) (.slice a sl sc) = some olds) (c2 : cellsA h (s + 1) (.slice b n c) = some news) (h6 : sc < sl + n) (h7 : sl + n ≤ 16777216) (h8 : ∀ x, a = some x → ∃ bk, h.get x.block = some bk ∧ bk.grow = some 0) :
    appV P h nx t (.slice a sl sc) (.slice b n c) = some (.slice (some ⟨nx, 0, none⟩) (sl + n) (sl + n), some ⟨olds ++ news, el, false, some (s + 1)⟩) := by
  have h5' : plainB z = true ∧ z.cells.size = s + 1 ∧ bs ≤ 1048576 := by
    rw [Bool.and_eq_true, Bool.and_eq_true, decide_eq_true_eq, decide_eq_true_eq] at h5
    exact ⟨h5.1.1, h5.1.2, h5.2⟩
  have hc : plainB z = true ∧ z.cells.size = s + 1 ∧ bs ≤ 1048576 ∧ sc < sl + n ∧ sl + n ≤ 16777216 := ⟨h5'.1, h5'.2.1, h5'.2.2, h6, h7⟩
  have hap : appendA P h t (.slice a sl sc) (.slice b n c) = some (olds ++ news, el, sl + n, true) := by
    unfold appendA
    simp only [h1, h2, h3, h4, Option.getD_some, c1, c2]
    rw [if_pos hc]
    cases a with
    | none => rfl
    | some x =>
      obtain ⟨bk, g1, g2⟩ := h8 x rfl
      simp only [g1, g2, if_true]
  unfold appV
  rw [hap]
  simp only [h2]
theorem cellsA_zero {h : AHeap} {s c : Nat} {a : Addr} : cellsA h s (.slice (some a) 0 c) = some [] := by simp [cellsA]
theorem cellsA_row {h : AHeap} {s n c : Nat} {a : Addr} {b : Blk} (hn : n ≠ 0) (hg : h.get a.block = some b) (hs : a.spot = none) (hl : a.off + n * s ≤ b.cells.length) : cellsA h s (.slice (some a) n c) = some ((b.cells.drop a.off).take (n * s)) := by
  show (if n = 0 then some [] else if a.spot = none then (match h.get a.block with
    | some b => if a.off + n * s ≤ b.cells.length then some ((b.cells.drop a.off).take (n * s)) else none
    | none => none) else none) = _
  rw [if_neg hn, if_pos hs, hg]
  simp only [hl, if_true]
def numRow (k : IntKind) (ns : List Int) : List Value := ns.map fun n => .int k n
theorem numRow_plain {k : IntKind} {ns : List Int} : ∀ u ∈ numRow k ns, plainB u = true := fun u hu => by
  obtain ⟨n, _, rfl⟩ := List.mem_map.1 hu; rfl
theorem up_0 {a nx : Nat} {ns : List Nat} : (upE (a :: ns) nx).blk 0 = a := by simp [upE, nameE, upN]
theorem up_1 {a b nx : Nat} {ns : List Nat} : (upE (a :: b :: ns) nx).blk 1 = b := by simp [upE, nameE, upN]
theorem up_2 {a b c nx : Nat} {ns : List Nat} : (upE (a :: b :: c :: ns) nx).blk 2 = c := by simp [upE, nameE, upN]
theorem up_00 {nx : Nat} : (upE [] nx).blk 0 = nx := by simp [upE, nameE, upN, VB]
theorem up_base {nx n : Nat} {ns : List Nat} : (upE ns nx).base n = 0 := rfl
theorem up_slack {nx n : Nat} {ns : List Nat} : (upE ns nx).slack n = 0 := rfl
theorem up_hnd {nx k : Nat} {ns : List Nat} (h : ns.length < 1000000) : ren (upE ns nx) (hndV k) = hndV k := by
  have h1 : ¬ VB + k < ns.length := by unfold VB; omega
  have h2 : ¬ VB + k < VB := by omega
  simp only [hndV, ren_psome, adr, upE, nameE, upN, h1, h2, if_false, Nat.zero_add]
theorem up_prt {nx k : Nat} {ns : List Nat} (h : ns.length < 1000000) : ren (upE ns nx) (prtV k) = prtV k := by
  simp only [prtV, ren_iface, up_hnd h]
theorem map_geo {E : Emb} {N T : Nat} : (geoC N T).map (ren E) = geoC N T := by
  have := ren_plain E (geo_plain N T)
  rw [ren_agg] at this
  exact (Value.agg.inj this)
attribute [go_sem high] n_append
attribute [go_sem] map_geo CallX backR renB up_0 up_1 up_2 up_00 up_base up_slack up_hnd up_prt ren_bool ren_int ren_string ren_pnone ren_psome ren_snone ren_ssome ren_iface ren_nilIface ren_nilFunc ren_agg ren_tuple ren_func adr Nat.add_zero List.append_nil
end Go.Proofs.Ytceddijolfpppaa
namespace Go.Proofs.Ytceddijolfpppaa
open Go Go.RowKit
set_option linter.unusedSimpArgs false
set_option linter.unusedVariables false
def heapJ (l : List (Option Blk)) (q : Nat) (l2 : List (Option Blk)) : AHeap := ⟨fun n => if n < q then (l[n]?).join else (l2[n - q]?).join, q + l2.length⟩
theorem gap_lo {l : List (Option Blk)} {q : Nat} {l2 : List (Option Blk)} {n : Nat} (h : n < q) : (heapJ l q l2).get n = (l[n]?).join := if_pos h
theorem gap_hi0 {l : List (Option Blk)} {q : Nat} {l2 : List (Option Blk)} : (heapJ l q l2).get q = (l2[0]?).join := by
  show (if q < q then _ else _) = _
  rw [if_neg (Nat.lt_irrefl q), Nat.sub_self]
theorem gap_hi {l : List (Option Blk)} {q : Nat} {l2 : List (Option Blk)} {i : Nat} : (heapJ l q l2).get (q + i) = (l2[i]?).join := by
  show (if q + i < q then _ else _) = _
  rw [if_neg (by omega), Nat.add_sub_cancel_left]
theorem gap_next (l : List (Option Blk)) (q : Nat) (l2 : List (Option Blk)) : (heapJ l q l2).next = q + l2.length := rfl
theorem ah_ext {a b : AHeap} (h1 : ∀ n, a.get n = b.get n) (h2 : a.next = b.next) : a = b := by
  cases a; cases b
  simp only [AHeap.mk.injEq]
  exact ⟨funext h1, h2⟩
theorem gap_addO (l : List (Option Blk)) (q : Nat) (l2 : List (Option Blk)) (b : Option Blk) : (heapJ l q l2).addO b = heapJ l q (l2 ++ [b]) := by
  refine ah_ext (fun n => ?_) (by simp [AHeap.addO, heapJ]; omega)
  rw [AHeap.addO_get, gap_next]
  show _ = (if n < q then _ else _)
  by_cases hn : n < q
  · rw [if_neg (by omega), if_pos hn, gap_lo hn]
  · obtain ⟨i, rfl⟩ : ∃ i, n = q + i := ⟨n - q, by omega⟩
    rw [gap_hi, if_neg hn, Nat.add_sub_cancel_left]
    by_cases hi : i = l2.length
    · subst hi; rw [if_pos rfl]; simp
    · rw [if_neg (by omega), List.getElem?_append]
      by_cases h2 : i < l2.length
      · rw [if_pos h2]
      · rw [if_neg h2, List.getElem?_eq_none (by omega), List.getElem?_eq_none (by simp; omega)]
theorem gap_putO_lo {l : List (Option Blk)} {q : Nat} {l2 : List (Option Blk)} {n : Nat} {b : Option Blk} (h : n < q) (hl : n < l.length) : (heapJ l q l2).putO n b = heapJ (l.set n b) q l2 := by
  refine ah_ext (fun m => ?_) rfl
  rw [AHeap.putO_get]
  show _ = (if m < q then _ else _)
  by_cases hm : m = n
  · subst hm; rw [if_pos rfl, if_pos h]; simp [hl]
  · rw [if_neg hm]
    show (if m < q then _ else _) = _
    rw [List.getElem?_set_ne (fun e => hm e.symm)]
theorem gap_putO_hi {l : List (Option Blk)} {q : Nat} {l2 : List (Option Blk)} {i : Nat} {b : Option Blk} (hl : i < l2.length) : (heapJ l q l2).putO (q + i) b = heapJ l q (l2.set i b) := by
  refine ah_ext (fun m => ?_) (by simp [AHeap.putO, heapJ])
  rw [AHeap.putO_get]
  show _ = (if m < q then _ else _)
  by_cases hm : m < q
  · rw [if_neg (by omega), if_pos hm, gap_lo hm]
  · obtain ⟨j, rfl⟩ : ∃ j, m = q + j := ⟨m - q, by omega⟩
    rw [gap_hi, if_neg hm, Nat.add_sub_cancel_left]
    by_cases hj : j = i
    · subst hj; rw [if_pos rfl]; simp [hl]
    · rw [if_neg (by omega), List.getElem?_set_ne (fun e => hj e.symm)]
theorem gap_putO_hi0 {l : List (Option Blk)} {q : Nat} {l2 : List (Option Blk)} {b : Option Blk} (hl : 0 < l2.length) : (heapJ l q l2).putO q b = heapJ l q (l2.set 0 b) := gap_putO_hi (i := 0) hl
theorem gap_put_lo {l : List (Option Blk)} {q : Nat} {l2 : List (Option Blk)} {n : Nat} {b : Blk} (h : n < q) (hl : n < l.length) : (heapJ l q l2).put n b = heapJ (l.set n (some b)) q l2 := by rw [put_putO, gap_putO_lo h hl]
theorem gap_put_hi {l : List (Option Blk)} {q : Nat} {l2 : List (Option Blk)} {i : Nat} {b : Blk} (hl : i < l2.length) : (heapJ l q l2).put (q + i) b = heapJ l q (l2.set i (some b)) := by rw [put_putO, gap_putO_hi hl]
theorem gap_put_hi0 {l : List (Option Blk)} {q : Nat} {l2 : List (Option Blk)} {b : Blk} (hl : 0 < l2.length) : (heapJ l q l2).put q b = heapJ l q (l2.set 0 (some b)) := by rw [put_putO, gap_putO_hi0 hl]
theorem gap_lim {l : List (Option Blk)} {q : Nat} {l2 : List (Option Blk)} (h : q + l2.length < 1000000000) : (heapJ l q l2).next < VB := by rw [gap_next]; unfold VB; omega
theorem gap_low (l : List (Option Blk)) (q : Nat) (l2 : List (Option Blk)) : (heapJ l q l2).Low := by
  intro n b hb
  rw [gap_next]
  by_cases hn : n < q
  · omega
  · obtain ⟨i, rfl⟩ : ∃ i, n = q + i := ⟨n - q, by omega⟩
    rw [gap_hi] at hb
    have : i < l2.length := by
      apply Nat.lt_of_not_le; intro h; rw [List.getElem?_eq_none h] at hb; simp at hb
    omega
theorem gap_of (l : List (Option Blk)) : heapL l = heapJ l l.length [] := by
  refine ah_ext (fun n => ?_) (by simp [heapL, heapJ])
  rw [heapL_get]
  show _ = (if n < l.length then _ else _)
  split
  · rfl
  · rw [List.getElem?_eq_none (by omega)]; simp
theorem Goes.forget {P : Program} {σ : Type} {X : Face P σ} {fn : Func} {A : Conf σ → Prop} {todo : List Item} {tmps : List Value} {l l2 : List (Option Blk)} {q : Nat} {S : σ} (hk : Goes X fn A (.run todo tmps (heapJ l (q + l2.length) []) S)) (hl : l.length ≤ q) : Goes X fn A (.run todo tmps (heapJ l q l2) S) := by
  refine .weak (h0 := heapJ l (q + l2.length) []) (fun n b hb => ?_) rfl hk
  have hn : n < l.length := by
    apply Nat.lt_of_not_le; intro h
    by_cases h2 : n < q + l2.length
    · rw [gap_lo h2, List.getElem?_eq_none h] at hb; simp at hb
    · obtain ⟨i, rfl⟩ : ∃ i, n = q + l2.length + i := ⟨n - (q + l2.length), by omega⟩
      rw [gap_hi] at hb; simp at hb
  rw [gap_lo (by omega)] at hb
  exact ⟨b, by rw [gap_lo (by omega)]; exact hb, rfl, rfl, fun h => h, .inl rfl⟩
attribute [go_sem] gap_lo gap_hi0 gap_hi gap_next gap_addO gap_putO_lo gap_putO_hi gap_putO_hi0 gap_put_lo gap_put_hi gap_put_hi0
end Go.Proofs.Ytceddijolfpppaa
namespace Go.Proofs.Ytceddijolfpppaa
open Go Go.RowKit
set_option linter.unusedSimpArgs false
set_option linter.unusedVariables false
theorem wanted_n {o : Oper} {y : Nat → Option Bool} (hg : o.guard = none) : Region.wanted o y = true := by
  unfold Region.wanted; rw [hg]
theorem wanted_g {o : Oper} {ops : Array Oper} {tmps : List Value} {j d : Nat} {b b' : Bool} (hg : o.guard = some (j, b)) (hd : (ops[j]?).bind (·.dst) = some d) (hv : tmps[d]? = some (.bool b')) : Region.wanted o (yieldedL ops tmps) = (b' == b) := by
  unfold Region.wanted yieldedL
  rw [hg]
  simp only [hd, Option.bind_some, hv]
  cases b <;> cases b' <;> rfl
theorem wanted_u {o : Oper} {ops : Array Oper} {tmps : List Value} {j d : Nat} {b : Bool} (hg : o.guard = some (j, b)) (hd : (ops[j]?).bind (·.dst) = some d) (hv : tmps[d]? = some undef) : Region.wanted o (yieldedL ops tmps) = false := by
  unfold Region.wanted yieldedL
  rw [hg]
  simp only [hd, Option.bind_some, hv]
  cases b <;> rfl
section
variable {P : Program} {σ : Type} {X : Face P σ} {fn : Func} {A : Conf σ → Prop} {ops : Array Oper} {k : List Item} {i : Nat} {tmps : List Value} {h : AHeap} {S : σ} {o : Oper} {j d : Nat} {b b' : Bool}
theorem AtL.valn (ho : ops.toList[i]? = some o) (hg : o.guard = none) (hb : opOK o.op = true)
    (hk : ∀ K : List Value → AHeap → Prop, (∀ t h, At X fn A ops k (i + 1) t h S → K t h) → OpK K o tmps h (valA P (evA tmps) h o.op)) : At X fn A ops k i tmps h S := AtL.val ho (wanted_n hg) hb hk
theorem AtL.valg (ho : ops.toList[i]? = some o) (hg : o.guard = some (j, b)) (hd : (ops[j]?).bind (·.dst) = some d) (hv : tmps[d]? = some (.bool b')) (hw : (b' == b) = true) (hb : opOK o.op = true)
    (hk : ∀ K : List Value → AHeap → Prop, (∀ t h, At X fn A ops k (i + 1) t h S → K t h) → OpK K o tmps h (valA P (evA tmps) h o.op)) : At X fn A ops k i tmps h S := AtL.val ho ((wanted_g hg hd hv).trans hw) hb hk
theorem AtL.skipg (ho : ops.toList[i]? = some o) (hg : o.guard = some (j, b)) (hd : (ops[j]?).bind (·.dst) = some d) (hv : tmps[d]? = some (.bool b')) (hw : (b' == b) = false) (hk : At X fn A ops k (i + 1) (putL o.dst undef tmps) h S) : At X fn A ops k i tmps h S := AtL.skip ho ((wanted_g hg hd hv).trans hw) hk
theorem AtL.skipu (ho : ops.toList[i]? = some o) (hg : o.guard = some (j, b)) (hd : (ops[j]?).bind (·.dst) = some d) (hv : tmps[d]? = some undef) (hk : At X fn A ops k (i + 1) (putL o.dst undef tmps) h S) : At X fn A ops k i tmps h S := AtL.skip ho (wanted_u hg hd hv) hk
theorem AtL.newn (ho : ops.toList[i]? = some o) (hg : o.guard = none) (hb : opOK o.op = true) (hl : h.next < VB)
    (hk : ∀ K : List Value → AHeap → Prop, (∀ t h, At X fn A ops k (i + 1) t h S → K t h) → NewK K o tmps h (newA P (evA tmps) h h.next o.op)) : At X fn A ops k i tmps h S := AtL.new ho (wanted_n hg) hb hl hk
theorem AtL.storen (ho : ops.toList[i]? = some o) (hg : o.guard = none) (hb : opOK o.op = true)
    (hk : ∀ K : List Value → AHeap → Prop, (∀ t h, At X fn A ops k (i + 1) t h S → K t h) → StoreK K o tmps (storeOp P (evA tmps) h o.op)) : At X fn A ops k i tmps h S := AtL.store ho (wanted_n hg) hb hk
variable {W : List Nat} {n0 : Nat} {hf : AHeap} {Kf : List Value → AHeap → σ → Prop} {born : List (Nat × Nat)}
theorem RGL.valn (hl : h.Low) (ho : ops.toList[i]? = some o) (hg : o.guard = none) (hb : opOK o.op = true) (hq : wrB W i o = false)
    (hk : ∀ K : List Value → AHeap → Prop, (∀ t h, RGF X W ops n0 hf Kf (i + 1) t h S born → K t h) → OpK K o tmps h (valA P (evA tmps) (lowH n0 h) o.op)) (hnf : farB W i = false := by rfl) : RGF X W ops n0 hf Kf i tmps h S born := RGL.val hl ho (wanted_n hg) hb hq hk hnf
theorem RGL.valg (hl : h.Low) (ho : ops.toList[i]? = some o) (hg : o.guard = some (j, b)) (hd : (ops[j]?).bind (·.dst) = some d) (hv : tmps[d]? = some (.bool b')) (hw : (b' == b) = true) (hb : opOK o.op = true) (hq : wrB W i o = false)
    (hk : ∀ K : List Value → AHeap → Prop, (∀ t h, RGF X W ops n0 hf Kf (i + 1) t h S born → K t h) → OpK K o tmps h (valA P (evA tmps) (lowH n0 h) o.op)) (hnf : farB W i = false := by rfl) : RGF X W ops n0 hf Kf i tmps h S born := RGL.val hl ho ((wanted_g hg hd hv).trans hw) hb hq hk hnf
theorem RGL.skipg (ho : ops.toList[i]? = some o) (hg : o.guard = some (j, b)) (hd : (ops[j]?).bind (·.dst) = some d) (hv : tmps[d]? = some (.bool b')) (hw : (b' == b) = false) (hk : RGF X W ops n0 hf Kf (i + 1) (putL o.dst undef tmps) h S born) : RGF X W ops n0 hf Kf i tmps h S born := RGL.skip ho ((wanted_g hg hd hv).trans hw) hk
theorem RGL.skipu (ho : ops.toList[i]? = some o) (hg : o.guard = some (j, b)) (hd : (ops[j]?).bind (·.dst) = some d) (hv : tmps[d]? = some undef) (hk : RGF X W ops n0 hf Kf (i + 1) (putL o.dst undef tmps) h S born) : RGF X W ops n0 hf Kf i tmps h S born := RGL.skip ho (wanted_u hg hd hv) hk
theorem RGL.newn (hl : h.Low) (ho : ops.toList[i]? = some o) (hg : o.guard = none) (hb : opOK o.op = true) (hq : wrB W i o = false) (hn : h.next < VB) (hne : noEnd o.op = true)
    (hk : ∀ K : List Value → AHeap → Prop, (∀ t h', RGF X W ops n0 hf Kf (i + 1) t h' S ((i, h.next) :: born) → K t h') → NewK K o tmps h (newA P (evA tmps) (lowH n0 h) h.next o.op)) (hnf : farB W i = false := by rfl) : RGF X W ops n0 hf Kf i tmps h S born := RGL.new hl ho (wanted_n hg) hb hq hn hne hk hnf
theorem RGL.storen (ho : ops.toList[i]? = some o) (hg : o.guard = none) (hb : opOK o.op = true)
    (hk : ∀ K : List Value → AHeap → Prop, (∀ t h, RG X W ops n0 Kf (i + 1) t h S born → K t h) → StoreK K o tmps (storeOp P (evA tmps) h o.op)) (hnf : farB W i = false := by rfl) : RG X W ops n0 Kf i tmps h S born := RGL.store ho (wanted_n hg) hb hk hnf
end
theorem sz : (∀ l : List (Option Blk), (heapL l).next = l.length) ∧ (∀ (l : List (Option Blk)) (q : Nat) (l2 : List (Option Blk)), (heapJ l q l2).next = q + l2.length) ∧ (∀ (a : Option Blk) (l : List (Option Blk)), (a :: l).length = l.length + 1) ∧ ([] : List (Option Blk)).length = 0 ∧
    (∀ l l2 : List (Option Blk), (l ++ l2).length = l.length + l2.length) ∧ (∀ (a : Value) (l : List Value), (a :: l).length = l.length + 1) ∧ ([] : List Value).length = 0 ∧ (∀ l : List Value, l.toArray.size = l.length) ∧ (∀ N T : Nat, (geoC N T).toList.length = 22) :=
  ⟨heapL_next, gap_next, fun _ _ => rfl, rfl, fun _ _ => List.length_append, fun _ _ => rfl, rfl, fun _ => List.size_toArray, geo_len⟩
def vB : Op → Bool
  | .alloc _ | .box _ _ | .buildSlice _ _ _ | .makeSlice _ _ _ | .store _ _ _ => false
  | .call c => (match c.callee with | .builtin .append => false | .builtin _ => true | _ => false)
  | _ => true
def nB : Op → Bool
  | .alloc _ | .box _ _ | .buildSlice _ _ _ | .makeSlice _ _ _ => true
  | .call c => (match c.callee with | .builtin .append => true | _ => false)
  | _ => false
def tB : Op → Bool
  | .store _ _ _ => true
  | _ => false
section
variable {P : Program} {σ : Type} {X : Face P σ} {fn : Func} {A : Conf σ → Prop} {ops : Array Oper} {k : List Item} {i : Nat} {tmps : List Value} {h : AHeap} {S : σ} {o : Oper} {j d : Nat} {b b' : Bool}
theorem qv1 (ho : ops.toList[i]? = some o) (hg : o.guard = none) (_ : vB o.op = true) (hk : ∀ K : List Value → AHeap → Prop, (∀ t h, At X fn A ops k (i + 1) t h S → K t h) → OpK K o tmps h (valA P (evA tmps) h o.op)) (hb : opOK o.op = true := by rfl) : At X fn A ops k i tmps h S := AtL.valn ho hg hb hk
theorem qv2 (ho : ops.toList[i]? = some o) (hg : o.guard = some (j, b)) (hd : (ops[j]?).bind (·.dst) = some d) (hv : tmps[d]? = some (.bool b')) (hw : (b' == b) = true) (_ : vB o.op = true)
    (hk : ∀ K : List Value → AHeap → Prop, (∀ t h, At X fn A ops k (i + 1) t h S → K t h) → OpK K o tmps h (valA P (evA tmps) h o.op)) (hb : opOK o.op = true := by rfl) : At X fn A ops k i tmps h S := AtL.valg ho hg hd hv hw hb hk
theorem qn1 (ho : ops.toList[i]? = some o) (hg : o.guard = none) (_ : nB o.op = true)
    (hk : ∀ K : List Value → AHeap → Prop, (∀ t h, At X fn A ops k (i + 1) t h S → K t h) → NewK K o tmps h (newA P (evA tmps) h h.next o.op)) (hb : opOK o.op = true := by rfl) (hl : h.next < VB := by first | exact heapL_lim rfl | (exact gap_lim (by simp only [sz]; omega))) : At X fn A ops k i tmps h S := AtL.newn ho hg hb hl hk
theorem qt1 (ho : ops.toList[i]? = some o) (hg : o.guard = none) (_ : tB o.op = true)
    (hk : ∀ K : List Value → AHeap → Prop, (∀ t h, At X fn A ops k (i + 1) t h S → K t h) → StoreK K o tmps (storeOp P (evA tmps) h o.op)) (hb : opOK o.op = true := by rfl) : At X fn A ops k i tmps h S := AtL.storen ho hg hb hk
theorem qp1 (ho : ops.toList[i]? = some o) (hw : Region.wanted o (yieldedL ops tmps) = true)
    (hk : ∀ K : List Value → σ → Prop, (∀ t S', At X fn A ops k (i + 1) t h S' → K t S') → CallK (fun f args => fnOK P f = true ∧ ∃ v S', X.prim f args S v S' ∧ K (putL o.dst v tmps) S') (callA P (evA tmps) o.op)) (hb : opOK o.op = true := by rfl) : At X fn A ops k i tmps h S := At.prim2 ho hw hb hk
theorem qc1 (ho : ops.toList[i]? = some o) (hw : Region.wanted o (yieldedL ops tmps) = true)
    (hk : ∀ K : List Value → σ → Prop, (∀ t S', At X fn A ops k (i + 1) t h S' → K t S') → CallK (fun f args => ∃ v S', Does X f args [] S v S' ∧ K (putL o.dst v tmps) S') (callA P (evA tmps) o.op)) (hb : opOK o.op = true := by rfl) : At X fn A ops k i tmps h S := At.call2 ho hw hb hk
variable {W : List Nat} {n0 : Nat} {hf : AHeap} {Kf : List Value → AHeap → σ → Prop} {born : List (Nat × Nat)}
theorem qv3 (ho : ops.toList[i]? = some o) (hg : o.guard = none) (_ : vB o.op = true) (hk : ∀ K : List Value → AHeap → Prop, (∀ t h, RGF X W ops n0 hf Kf (i + 1) t h S born → K t h) → OpK K o tmps h (valA P (evA tmps) (lowH n0 h) o.op))
    (hb : opOK o.op = true := by rfl) (hq : wrB W i o = false := by rfl) (hl : h.Low := by first | exact heapL_low _ | exact gap_low _ _ _) (hnf : farB W i = false := by rfl) : RGF X W ops n0 hf Kf i tmps h S born := RGL.valn hl ho hg hb hq hk hnf
theorem qv4 (ho : ops.toList[i]? = some o) (hg : o.guard = some (j, b)) (hd : (ops[j]?).bind (·.dst) = some d) (hv : tmps[d]? = some (.bool b')) (hw : (b' == b) = true) (_ : vB o.op = true)
    (hk : ∀ K : List Value → AHeap → Prop, (∀ t h, RGF X W ops n0 hf Kf (i + 1) t h S born → K t h) → OpK K o tmps h (valA P (evA tmps) (lowH n0 h) o.op))
    (hb : opOK o.op = true := by rfl) (hq : wrB W i o = false := by rfl) (hl : h.Low := by first | exact heapL_low _ | exact gap_low _ _ _) (hnf : farB W i = false := by rfl) : RGF X W ops n0 hf Kf i tmps h S born := RGL.valg hl ho hg hd hv hw hb hq hk hnf
theorem qn3 (ho : ops.toList[i]? = some o) (hg : o.guard = none) (_ : nB o.op = true)
    (hk : ∀ K : List Value → AHeap → Prop, (∀ t h', RGF X W ops n0 hf Kf (i + 1) t h' S ((i, h.next) :: born) → K t h') → NewK K o tmps h (newA P (evA tmps) (lowH n0 h) h.next o.op))
    (hb : opOK o.op = true := by rfl) (hq : wrB W i o = false := by rfl) (hl : h.Low := by first | exact heapL_low _ | exact gap_low _ _ _) (hn : h.next < VB := by first | exact heapL_lim rfl | (exact gap_lim (by simp only [sz]; omega))) (hne : noEnd o.op = true := by rfl) (hnf : farB W i = false := by rfl) : RGF X W ops n0 hf Kf i tmps h S born := RGL.newn hl ho hg hb hq hn hne hk hnf
theorem qt3 (ho : ops.toList[i]? = some o) (hg : o.guard = none) (_ : tB o.op = true)
    (hk : ∀ K : List Value → AHeap → Prop, (∀ t h, RG X W ops n0 Kf (i + 1) t h S born → K t h) → StoreK K o tmps (storeOp P (evA tmps) h o.op)) (hb : opOK o.op = true := by rfl) (hnf : farB W i = false := by rfl) : RG X W ops n0 Kf i tmps h S born := RGL.storen ho hg hb hk hnf
theorem qp3 (ho : ops.toList[i]? = some o) (hw : Region.wanted o (yieldedL ops tmps) = true)
    (hk : ∀ K : List Value → σ → Prop, (∀ t S', RGF X W ops n0 hf Kf (i + 1) t h S' born → K t S') → CallK (fun f args => fnOK P f = true ∧ ∃ v S', X.prim f args S v S' ∧ K (putL o.dst v tmps) S') (callA P (evA tmps) o.op))
    (hb : opOK o.op = true := by rfl) (hq : wrB W i o = false := by rfl) (hl : h.Low := by first | exact heapL_low _ | exact gap_low _ _ _) (hnf : farB W i = false := by rfl) : RGF X W ops n0 hf Kf i tmps h S born := RG.prim2 hl ho hw hb hq hk hnf
theorem qc3 (ho : ops.toList[i]? = some o) (hw : Region.wanted o (yieldedL ops tmps) = true)
    (hk : ∀ K : List Value → σ → Prop, (∀ t S', RGF X W ops n0 hf Kf (i + 1) t h S' born → K t S') → CallK (fun f args => ∃ v S', Does X f args [] S v S' ∧ K (putL o.dst v tmps) S') (callA P (evA tmps) o.op))
    (hb : opOK o.op = true := by rfl) (hq : wrB W i o = false := by rfl) (hl : h.Low := by first | exact heapL_low _ | exact gap_low _ _ _) (hnf : farB W i = false := by rfl) : RGF X W ops n0 hf Kf i tmps h S born := RG.call2 hl ho hw hb hq hk hnf
end
theorem qpu {f : FuncId} {args : Array Value} {v : Value} {S : St} (h : ∀ w, Calls Try.prog f args w (Ret v (Ext [] w))) (ha : args.all plainB = true := by first | rfl | (simp [plainB]; done) | simp [plainB, geoC]) (hv : plainB v = true := by first | rfl | (simp [plainB]; done) | simp [plainB, geoC]) : Prim f args S v S := .pure h ha hv
structure Hold (p : Prop) : Prop where
  out : p
theorem via {G G' : Prop} (k : G') (h : Hold G' → G := by (intro hk0; (repeat (first | refine Goes.reg ?_ | refine Goes.ctl2 rfl ?_ | ((first | refine qv1 rfl rfl rfl fun K hK => ?_ | refine qv3 rfl rfl rfl fun K hK => ?_ | refine qv2 rfl rfl rfl rfl rfl rfl fun K hK => ?_ | refine qv4 rfl rfl rfl rfl rfl rfl fun K hK => ?_ | refine qn1 rfl rfl rfl fun K hK => ?_ | refine qn3 rfl rfl rfl fun K hK => ?_ | refine qt1 rfl rfl rfl fun K hK => ?_ | refine qt3 rfl rfl rfl fun K hK => ?_); simp (disch := (first | omega | (simp only [sz] <;> omega) | fail)) only [go_sem]; with_reducible refine hK _ _ ?_; clear hK K) | refine At.nil rfl ?_ | refine RG.nil rfl ?_ | ((first | refine AtL.skipg rfl rfl rfl rfl rfl ?_ | refine RGL.skipg rfl rfl rfl rfl rfl ?_ | refine AtL.skipu rfl rfl rfl rfl ?_ | refine RGL.skipu rfl rfl rfl rfl ?_); simp only [putL, List.set_cons_zero, List.set_cons_succ]) | refine Goes.yes rfl ?_ | refine Goes.no rfl ?_ | refine Goes.drawR [] (by kernel_rfl) ?_)); exact hk0.out)) : G := h ⟨k⟩
theorem viaF {F G G' : Prop} (f : F) (k : G') (h : F → Hold G' → G := by (intro hF0 hk0; (repeat (first | refine Goes.reg ?_ | refine Goes.ctl2 rfl ?_ | ((first | refine qv1 rfl rfl rfl fun K hK => ?_ | refine qv3 rfl rfl rfl fun K hK => ?_ | refine qv2 rfl rfl rfl rfl rfl rfl fun K hK => ?_ | refine qv4 rfl rfl rfl rfl rfl rfl fun K hK => ?_ | refine qn1 rfl rfl rfl fun K hK => ?_ | refine qn3 rfl rfl rfl fun K hK => ?_ | refine qt1 rfl rfl rfl fun K hK => ?_ | refine qt3 rfl rfl rfl fun K hK => ?_); simp (disch := (first | omega | (simp only [sz] <;> omega) | fail)) only [go_sem, hF0]; with_reducible refine hK _ _ ?_; clear hK K) | refine At.nil rfl ?_ | refine RG.nil rfl ?_ | ((first | refine AtL.skipg rfl rfl rfl rfl rfl ?_ | refine RGL.skipg rfl rfl rfl rfl rfl ?_ | refine AtL.skipu rfl rfl rfl rfl ?_ | refine RGL.skipu rfl rfl rfl rfl ?_); simp only [putL, List.set_cons_zero, List.set_cons_succ]) | refine Goes.yes rfl ?_ | refine Goes.no rfl ?_ | refine Goes.drawR [] (by kernel_rfl) ?_)); exact hk0.out)) : G := h f ⟨k⟩
theorem viaL {G G' : Prop} (k : G') (h : Hold G' → G := by (intro hk0; (repeat (first | refine Goes.loop ?_ | refine Goes.inLoop ?_ | refine Goes.reg ?_ | refine Goes.ctl2 rfl ?_ | ((first | refine qv1 rfl rfl rfl fun K hK => ?_ | refine qv3 rfl rfl rfl fun K hK => ?_ | refine qv2 rfl rfl rfl rfl rfl rfl fun K hK => ?_ | refine qv4 rfl rfl rfl rfl rfl rfl fun K hK => ?_ | refine qn1 rfl rfl rfl fun K hK => ?_ | refine qn3 rfl rfl rfl fun K hK => ?_ | refine qt1 rfl rfl rfl fun K hK => ?_ | refine qt3 rfl rfl rfl fun K hK => ?_); simp (disch := (first | omega | (simp only [sz] <;> omega) | fail)) only [go_sem]; with_reducible refine hK _ _ ?_; clear hK K) | refine At.nil rfl ?_ | refine RG.nil rfl ?_ | ((first | refine AtL.skipg rfl rfl rfl rfl rfl ?_ | refine RGL.skipg rfl rfl rfl rfl rfl ?_ | refine AtL.skipu rfl rfl rfl rfl ?_ | refine RGL.skipu rfl rfl rfl rfl ?_); simp only [putL, List.set_cons_zero, List.set_cons_succ]) | refine Goes.yes rfl ?_ | refine Goes.no rfl ?_ | refine Goes.drawR [] (by kernel_rfl) ?_)); exact hk0.out)) : G := h ⟨k⟩
theorem viaD {G G' : Prop} (k : G') (h : Hold G' → G := by (intro hk0; (repeat (first | refine Goes.reg ?_ | refine Goes.ctl2 rfl ?_ | ((first | refine qv1 rfl rfl rfl fun K hK => ?_ | refine qv3 rfl rfl rfl fun K hK => ?_ | refine qv2 rfl rfl rfl rfl rfl rfl fun K hK => ?_ | refine qv4 rfl rfl rfl rfl rfl rfl fun K hK => ?_ | refine qn1 rfl rfl rfl fun K hK => ?_ | refine qn3 rfl rfl rfl fun K hK => ?_ | refine qt1 rfl rfl rfl fun K hK => ?_ | refine qt3 rfl rfl rfl fun K hK => ?_); simp (disch := (first | omega | (simp only [sz] <;> omega) | fail)) only [go_sem]; with_reducible refine hK _ _ ?_; clear hK K) | refine At.nil rfl ?_ | refine RG.nil rfl ?_ | ((first | refine AtL.skipg rfl rfl rfl rfl rfl ?_ | refine RGL.skipg rfl rfl rfl rfl rfl ?_ | refine AtL.skipu rfl rfl rfl rfl ?_ | refine RGL.skipu rfl rfl rfl rfl ?_); simp only [putL, List.set_cons_zero, List.set_cons_succ]) | refine Goes.yes rfl ?_ | refine Goes.no rfl ?_)); exact hk0.out)) : G := h ⟨k⟩
theorem viaDF {F G G' : Prop} (f : F) (k : G') (h : F → Hold G' → G := by (intro hF0 hk0; (repeat (first | refine Goes.reg ?_ | refine Goes.ctl2 rfl ?_ | ((first | refine qv1 rfl rfl rfl fun K hK => ?_ | refine qv3 rfl rfl rfl fun K hK => ?_ | refine qv2 rfl rfl rfl rfl rfl rfl fun K hK => ?_ | refine qv4 rfl rfl rfl rfl rfl rfl fun K hK => ?_ | refine qn1 rfl rfl rfl fun K hK => ?_ | refine qn3 rfl rfl rfl fun K hK => ?_ | refine qt1 rfl rfl rfl fun K hK => ?_ | refine qt3 rfl rfl rfl fun K hK => ?_); simp (disch := (first | omega | (simp only [sz] <;> omega) | fail)) only [go_sem, hF0]; with_reducible refine hK _ _ ?_; clear hK K) | refine At.nil rfl ?_ | refine RG.nil rfl ?_ | ((first | refine AtL.skipg rfl rfl rfl rfl rfl ?_ | refine RGL.skipg rfl rfl rfl rfl rfl ?_ | refine AtL.skipu rfl rfl rfl rfl ?_ | refine RGL.skipu rfl rfl rfl rfl ?_); simp only [putL, List.set_cons_zero, List.set_cons_succ]) | refine Goes.yes rfl ?_ | refine Goes.no rfl ?_)); exact hk0.out)) : G := h f ⟨k⟩
end Go.Proofs.Ytceddijolfpppaa
namespace Go.Proofs.Ytceddijolfpppaa
open Go Go.RowKit
set_option linter.unusedSimpArgs false
set_option linter.unusedVariables false
theorem oneCells {xs : List Value} (h : ∀ x ∈ xs, ∃ k n, x = Value.int k n) : ∀ u ∈ xs, u.oneCell' = true := by
  intro u hu; obtain ⟨k, n, rfl⟩ := h u hu; rfl
theorem row_of {w : World} {base : Nat} {e : TypeId} {v : Value} {n : Nat} {xs : List Value} (h : w.ownsRow base e 1 v n xs) (hv : v ≠ .slice none 0 0) :
    ∃ (g : Nat) (q : Array Value), v = .slice (some ⟨g, 0, none⟩) n (n + q.size) ∧ blk w g = some (.cells (xs.toArray ++ q) e (0, 0)) ∧ base ≤ g := by
  obtain ⟨hl, h | ⟨g, cap, cur, rfl, hb, hg, hn, hm, hs, ht⟩⟩ := h
  · exact absurd h.1 hv
  · refine ⟨g, (cur.toList.drop n).toArray, ?_, ?_, hb⟩
    · simp; omega
    · unfold blk; rw [hg]
      rw [Nat.mul_one] at ht
      rw [← ht]
      simp
set_option maxHeartbeats 2000000 in
set_option maxRecDepth 100000 in
theorem cloneW_any (b : Nat) (ws : List UInt64) (p : Array Value) (c : Nat) (w : World) (hl : ws.length ≤ 2097152) (h : blk w b = some (.cells (wcells ws ++ p) 49 (0, 0))) :
    Calls Try.prog 122 #[.slice (some ⟨b, 0, none⟩) ws.length c] w fun e w' =>
      ∃ (g : Nat) (q : Array Value), e = .returned (.slice (some ⟨g, 0, none⟩) ws.length (ws.length + q.size)) ∧ blk w' g = some (.cells (wcells ws ++ q) 49 (0, 0)) ∧ w.heap.size ≤ g ∧ Ext [] w w' := by
  obtain ⟨i, hi, hz, hs, hb⟩ := info_parts Try.infoU64
  have q69 : ∀ (w : World) (a : Option Addr) (n c n' c' : Nat), (binOp .eql 170 (.slice a n c) (.slice none n' c')).run Try.prog w = .ok (.bool a.isNone) w := fun w a n c n' c' => Lib.run_eql_slice_nil w _ _ a n c n' c' Try.underlying170
  have H := hid h
  clear h
  go_enter Try.func122, Try.ntmps122
  go_wp2_with (at_builtin; refine wpList_append_own _ rfl _ _ 170 rfl w.heap.size 49 i (.int .u64 0) 1 8 Try.underlying170 hi hz hs hb rfl (by decide) _ _ _ rfl (World.ownsRow_made w #[] 0 (Nat.le_refl _) (Nat.zero_le _) rfl) ⟨b, 0, none⟩ ws.length c (wcells ws).toList rfl ?qc1 ?qc2 ?qc3 ?qc4 ?qc5 ?qc6 ?_)
  case qc1 => simp [wcells]
  case qc2 =>
    intro j u hj
    have hjn : j < ws.length := by
      have := (List.getElem?_eq_some_iff.1 hj).1
      simpa [wcells] using this
    rw [Addr.add_lit]
    refine Lib.cell?_alloc_some _ ?_
    rw [blk_cell H.out, Nat.zero_add, Array.getElem?_append_left (by rw [wcells_size]; exact hjn)]
    rw [← hj, Array.getElem?_toList]
  case qc3 => exact oneCells (fun x hx => by simp [wcells] at hx; obtain ⟨y, _, rfl⟩ := hx; exact ⟨_, _, rfl⟩)
  case qc4 => unfold maxLen; omega
  case qc5 => omega
  case qc6 => simp
  intro v' w1 hown hgrow hnil
  have hv : v' ≠ .slice none 0 0 := hnil
  obtain ⟨g, q, rfl, hg, hbg⟩ := row_of hown hv
  have HG := hid hg
  have HX := hid (Ext.of_below (((Below.refl _ w).alloc (Nat.le_refl _) _).grown hgrow (by simp) (by intro k hk; simp [Value.ownBlock] at hk; omega)))
  clear hown hgrow hnil hg
  go_wp2
  go_ret
  exact ⟨g, q, by simp, by simpa using HG.out, hbg, HX.out⟩
set_option maxHeartbeats 2000000 in
set_option maxRecDepth 100000 in
theorem cloneB_any (b : Nat) (ws : List UInt8) (p : Array Value) (c : Nat) (w : World) (hl : ws.length ≤ 2097152) (h : blk w b = some (.cells (bcells ws ++ p) 5 (0, 0))) :
    Calls Try.prog 123 #[.slice (some ⟨b, 0, none⟩) ws.length c] w fun e w' =>
      ∃ (g : Nat) (q : Array Value), e = .returned (.slice (some ⟨g, 0, none⟩) ws.length (ws.length + q.size)) ∧ blk w' g = some (.cells (bcells ws ++ q) 5 (0, 0)) ∧ w.heap.size ≤ g ∧ Ext [] w w' := by
  obtain ⟨i, hi, hz, hs, hb⟩ := info_parts Try.infoU8
  have q69 : ∀ (w : World) (a : Option Addr) (n c n' c' : Nat), (binOp .eql 22 (.slice a n c) (.slice none n' c')).run Try.prog w = .ok (.bool a.isNone) w := fun w a n c n' c' => Lib.run_eql_slice_nil w _ _ a n c n' c' Try.underlying22
  have H := hid h
  clear h
  go_enter Try.func123, Try.ntmps123
  go_wp2_with (at_builtin; refine wpList_append_own _ rfl _ _ 22 rfl w.heap.size 5 i (.int .u8 0) 1 1 Try.underlying22 hi hz hs hb rfl (by decide) _ _ _ rfl (World.ownsRow_made w #[] 0 (Nat.le_refl _) (Nat.zero_le _) rfl) ⟨b, 0, none⟩ ws.length c (bcells ws).toList rfl ?qc1 ?qc2 ?qc3 ?qc4 ?qc5 ?qc6 ?_)
  case qc1 => simp [bcells]
  case qc2 =>
    intro j u hj
    have hjn : j < ws.length := by
      have := (List.getElem?_eq_some_iff.1 hj).1
      simpa [bcells] using this
    rw [Addr.add_lit]
    refine Lib.cell?_alloc_some _ ?_
    rw [blk_cell H.out, Nat.zero_add, Array.getElem?_append_left (by rw [bcells_size]; exact hjn)]
    rw [← hj, Array.getElem?_toList]
  case qc3 => exact oneCells (fun x hx => by simp [bcells] at hx; obtain ⟨y, _, rfl⟩ := hx; exact ⟨_, _, rfl⟩)
  case qc4 => unfold maxLen; omega
  case qc5 => omega
  case qc6 => simp
  intro v' w1 hown hgrow hnil
  have hv : v' ≠ .slice none 0 0 := hnil
  obtain ⟨g, q, rfl, hg, hbg⟩ := row_of hown hv
  have HG := hid hg
  have HX := hid (Ext.of_below (((Below.refl _ w).alloc (Nat.le_refl _) _).grown hgrow (by simp) (by intro k hk; simp [Value.ownBlock] at hk; omega)))
  clear hown hgrow hnil hg
  go_wp2
  go_ret
  exact ⟨g, q, by simp, by simpa using HG.out, hbg, HX.out⟩
def MemCopied (w : World) (ws : List UInt64) (bs : List UInt8) (e : Ending) (w' : World) : Prop :=
  ∃ M : MemId, e = .returned (.pointer (some ⟨M.m, 0, none⟩)) ∧ MemAt w' M ws bs ∧ Ext [] w w' ∧ w.heap.size ≤ M.m ∧ w.heap.size ≤ M.bw ∧ w.heap.size ≤ M.bb
set_option maxHeartbeats 4000000 in
set_option maxRecDepth 100000 in
theorem mCopy_any (M : MemId) (ws : List UInt64) (bs : List UInt8) (w : World) (h : MemAt w M ws bs) :
    Calls Try.prog 70 #[.pointer (some ⟨M.m, 0, none⟩)] w (MemCopied w ws bs) := by
  have hE := Ext.refl []
  have HM := hid h.hm
  have HW := hid h.hw
  have HB := hid h.hb
  have hwl := h.wl
  have hbl := h.bl
  clear h
  go_enter Try.func70, Try.ntmps70
  go_wp2_with fail
  refine wp_region_lit_lin [4,9,11] [0,1,2,3,5,6,7,8,4,9,10,11,12] (Ext [] _) (Ext []) Try.mix (by kernel_rfl) (Ext.refl []) (fun _ _ _ => Ext.trans') (fun _ _ h k => h.trans0 k) ((Ext.refl _ _).drew) (fun X _ f hf => ?_)
  have c0 : ∀ x, (f x).cell? ⟨M.m, 0, none⟩ = some (.slice (some ⟨M.bw, 0, none⟩) ws.length (ws.length + M.pw.size)) := fun x => by rw [blk_cell ((hf x).blk HM.out (by simp))]; simp [memC]
  have c1 : ∀ x, (f x).cell? ⟨M.m, 1, none⟩ = some (.slice (some ⟨M.bb, 0, none⟩) bs.length (bs.length + M.pb.size)) := fun x => by rw [blk_cell ((hf x).blk HM.out (by simp))]; simp [memC]
  clear hf
  repeat (refine lexX_step rfl rfl (fun K hK => ?_); go_simp; (try go_bits); (try (simp only [↓IntWalk.iteOmega]; go_simp)); (refine hK _ ?_; clear hK K))
  refine lexX_effp rfl rfl rfl (fun w2 hw2 K hK => ?_)
  have X2 := hid hw2.of_drew
  have HW2 := hid (hw2.of_drew.blk HW.out (by simp))
  have HB2 := hid (hw2.of_drew.blk HB.out (by simp))
  clear hw2
  go_simp
  refine (cloneW_any M.bw ws M.pw _ w2 hwl HW2.out).mono ?_
  rintro e w3 ⟨g, q, rfl, hg, hgl, x3⟩
  refine ⟨_, rfl, X2.out.trans' x3, hK _ _ ?_⟩
  clear hK K
  have HG := hid hg
  have HB3 := hid (x3.blk HB2.out (by simp))
  have X3 := hid (X2.out.trans' x3)
  have hs2 := X2.out.size
  have hs3 := x3.size
  clear hg x3
  repeat (refine lexX_step rfl rfl (fun K hK => ?_); go_simp; (try go_bits); (try (simp only [↓IntWalk.iteOmega]; go_simp)); (refine hK _ ?_; clear hK K))
  refine lexX_effp rfl rfl rfl (fun w4 hw4 K hK => ?_)
  have X4 := hid hw4
  have HG4 := hid (hw4.blk HG.out (by simp))
  have HB4 := hid (hw4.blk HB3.out (by simp))
  have hs4 := hw4.size
  clear hw4
  go_simp
  refine (cloneB_any M.bb bs M.pb _ w4 (by omega) HB4.out).mono ?_
  rintro e w5 ⟨g', q', rfl, hg', hgl', x5⟩
  refine ⟨_, rfl, X3.out.trans' (X4.out.trans' x5), hK _ _ ?_⟩
  clear hK K
  have HG5 := hid (x5.blk HG4.out (by simp))
  have HG5' := hid hg'
  have X5 := hid (X4.out.trans' x5)
  have hs5 := x5.size
  clear hg' x5
  repeat (refine lexX_step rfl rfl (fun K hK => ?_); go_simp; (try go_bits); (try (simp only [↓IntWalk.iteOmega]; go_simp)); (refine hK _ ?_; clear hK K))
  refine lexX_effp rfl rfl rfl (fun w6 hw6 K hK => ?_)
  have HG6 := hid (hw6.blk HG5.out (by simp))
  have HG6' := hid (hw6.blk HG5'.out (by simp))
  have X6 := hid (X3.out.trans' (X5.out.trans' hw6))
  have hs6 := hw6.size
  clear hw6
  go_simp
  refine ⟨X6.out.alloc _, hK _ _ ?_⟩
  clear hK K
  repeat (refine lexX_step rfl rfl (fun K hK => ?_); go_simp; (try go_bits); (try (simp only [↓IntWalk.iteOmega]; go_simp)); (refine hK _ ?_; clear hK K))
  refine lexX_nil (fun w7 hw7 => ?_)
  have hx : Ext [] (w6.alloc (.cells #[.slice (some ⟨g, 0, none⟩) ws.length (ws.length + q.size), .slice (some ⟨g', 0, none⟩) bs.length (bs.length + q'.size)] 173)) w7 := hw7
  have H1 := hid (hx.blk (blk_new _ _) (by simp))
  have H2 := hid (hx.blk (((Ext.refl [] w6).alloc _).blk HG6.out (by simp)) (by simp))
  have H3 := hid (hx.blk (((Ext.refl [] w6).alloc _).blk HG6'.out (by simp)) (by simp))
  have X7 := hid ((X6.out.alloc _).trans' hx)
  have LG := hid (show w.heap.size ≤ g by omega)
  have LG' := hid (show w.heap.size ≤ g' by omega)
  clear hw7 hx
  go_wp2
  go_ret
  exact ⟨⟨w6.heap.size, g, g', q, q'⟩, rfl, ⟨H1.out, H2.out, H3.out, hwl, hbl⟩, X7.out, X6.out.size, LG.out, LG'.out⟩
end Go.Proofs.Ytceddijolfpppaa
namespace Go.Proofs.Ytceddijolfpppaa
open Go Go.RowKit
set_option linter.unusedSimpArgs false
set_option linter.unusedVariables false
def BF : Face Try.prog Unit where
  mix := Try.mix
  cnt := fun _ => 0
  rep := fun _ _ _ => True
  fp := fun _ _ _ => False
  prim := fun _ _ _ _ _ => False
  rep_same := fun _ _ _ _ _ _ => ⟨trivial, fun _ h => h⟩
  rep_kept := fun _ _ _ _ _ _ _ => trivial
  fp_low := fun _ _ _ _ _ h => h.elim
  prim_hand := fun _ _ _ _ _ h => h.elim
  prim_ok := fun _ _ _ _ _ _ _ h _ => h.elim
theorem Gives.one {cnt : Nat} {l : List Blk} {h1 : AHeap} {v0 v : Value} {n0 : Nat} {b0 : Blk} (hro : l.all (·.ro) = true) (hn : l.length ≤ n0) (hn' : n0 < VB) (hl : l.length < VB) (hg : h1.get n0 = some b0) (hb : b0.ro = false) (hp : ∀ u ∈ b0.cells, plainB u = true)
    (hv : v = ren (nameE fun n => if n = n0 then l.length else n) v0) (hc : Clo (fun n => n < l.length ∨ n ∈ [n0] ∨ (VB ≤ n ∧ n < VB + cnt)) v0) : Gives cnt l l [b0] [n0] (fun n => if n = n0 then l.length else n) h1 v0 v where
  low := fun n hn2 => if_neg (by omega)
  hand := fun n hn2 => if_neg (by omega)
  more := fun j n hj => by
    match j, hj with
    | 0, hj => simp at hj; subst hj; exact ⟨hn, hn', by simp⟩
    | j + 1, hj => simp at hj
  nodup := by simp
  len := rfl
  len' := rfl
  told := hv
  clo := hc
  rows := fun i b hb hr => by
    have := List.all_eq_true.1 hro b (List.mem_of_getElem? hb)
    rw [hr] at this; cases this
  news := fun j n hj => by
    match j, hj with
    | 0, hj =>
      simp at hj; subst hj
      refine ⟨b0, hg, ?_, hb, fun u hu => Clo.plain (hp u hu)⟩
      unfold renB
      rw [← plain_map hp]
      rfl
    | j + 1, hj => simp at hj
theorem numRow_len {k : IntKind} {ns : List Int} : (numRow k ns).length = ns.length := by simp [numRow]
theorem numRow_get {k : IntKind} {ns : List Int} {i : Nat} (h : i < ns.length) : (numRow k ns)[i]? = some (.int k ns[i]) := by simp [numRow, h]
def numB (k : IntKind) (e : TypeId) (ns : List Int) : Blk := ⟨numRow k ns, e, true, none⟩
theorem clo_sq {q n c a m : Nat} (h : q < n) : Clo (Kn n c) (.slice (some ⟨q, 0, none⟩) a m) := fun F F' hs => by
  obtain ⟨h1, h2, h3⟩ := hs q (.inl h)
  simp [adr, h1, h2, h3]
theorem clo_pq {q n c : Nat} (h : q < n) : Clo (Kn n c) (.pointer (some ⟨q, 0, none⟩)) := fun F F' hs => by
  obtain ⟨h1, h2, h3⟩ := hs q (.inl h)
  simp [adr, h1, h2]
set_option maxHeartbeats 2000000 in
theorem eqW_x (ns ms : List Int) (c d : Nat) (hn : ns.length ≤ 2097152) (hm : ms.length ≤ 2097152) : DoesX BF 126 #[.slice (some ⟨0, 0, none⟩) ns.length c, .slice (some ⟨1, 0, none⟩) ms.length d] [numB .u64 49 ns, numB .u64 49 ms] () (.bool (decide (ns = ms))) [numB .u64 49 ns, numB .u64 49 ms] [] () := by
  refine DoesX.mk Try.func126 rfl rfl ?clo ?rows ?_
  case clo => exact clo2 (clo_sq (by simp)) (clo_sq (by simp))
  case rows => exact plain_rows (by simp [numB]; exact ⟨numRow_plain, numRow_plain⟩)
  rw [Try.ntmps126]; simp only [List.size_toArray, List.length_cons, List.length_nil, List.replicate, List.cons_append, List.nil_append]
  simp only [numB, List.map_cons, List.map_nil]
  by_cases hl : ns.length = ms.length
  · have h1 : ((ns.length : Int) != (ms.length : Int)) = false := by rw [hl]; simp
    refine viaF h1 ?_
    refine Goes.wh (fun q tmps h S => ∃ k, q = ns.length - k ∧ k ≤ ns.length ∧ ns.take k = ms.take k ∧ h = heapL [some ⟨numRow .u64 ns, 49, true, none⟩, some ⟨numRow .u64 ms, 49, true, none⟩] ∧ tmps.length = 26 ∧ tmps.getD 0 undef = .slice (some ⟨0, 0, none⟩) ns.length c ∧
      tmps.getD 1 undef = .slice (some ⟨1, 0, none⟩) ms.length d ∧ tmps.getD 12 undef = .int .i64 ns.length ∧ tmps.getD 13 undef = .int .i64 k) (m := ns.length) ⟨0, by omega, by omega, rfl, rfl, rfl, rfl, rfl, rfl, rfl⟩ ?_
    rintro q tmps h S ih ⟨k, rfl, hk, hpre, rfl, hlen, f0, f1, f12, f13⟩
    obtain ⟨V, hV, hT⟩ := frame_lit hlen; replace hT : _ = ([V 0, V 1, V 2, V 3, V 4, V 5, V 6, V 7, V 8, V 9, V 10, V 11, V 12, V 13, V 14, V 15, V 16, V 17, V 18, V 19, V 20, V 21, V 22, V 23, V 24, V 25] : List Value) := hT; rw [hV] at f0 f1 f12 f13; subst hT; simp only [f0, f1, f12, f13]; clear hV hlen
    by_cases hlt : k < ns.length
    · have hd1 : decide ((k : Int) < (ns.length : Int)) = true := decide_eq_true (by omega)
      have hd2 : (0 ≤ (k : Int)) = True := eq_true (by omega)
      have hd3 : ((k : Int) < (ns.length : Int)) = True := eq_true (by omega)
      have hd4 : ((k : Int) < (ms.length : Int)) = True := eq_true (by omega)
      have hg1 := numRow_get (k := .u64) hlt
      have hg2 := numRow_get (k := .u64) (show k < ms.length by omega)
      by_cases hx : ns[k] = ms[k]
      · have h5 : (ns[k] != ms[k]) = false := by rw [hx]; simp
        repeat (first | refine Goes.reg ?_ | refine Goes.ctl2 rfl ?_ | ((first | refine qv1 rfl rfl rfl fun K hK => ?_ | refine qv3 rfl rfl rfl fun K hK => ?_ | refine qv2 rfl rfl rfl rfl rfl rfl fun K hK => ?_ | refine qv4 rfl rfl rfl rfl rfl rfl fun K hK => ?_ | refine qn1 rfl rfl rfl fun K hK => ?_ | refine qn3 rfl rfl rfl fun K hK => ?_ | refine qt1 rfl rfl rfl fun K hK => ?_ | refine qt3 rfl rfl rfl fun K hK => ?_); simp (disch := (first | omega | (simp only [sz] <;> omega) | fail)) only [go_sem, hd1, hd2, hd3, hd4, hg1, hg2, h5, Nat.mul_one]; with_reducible refine hK _ _ ?_; clear hK K) | refine At.nil rfl ?_ | refine RG.nil rfl ?_ | ((first | refine AtL.skipg rfl rfl rfl rfl rfl ?_ | refine RGL.skipg rfl rfl rfl rfl rfl ?_ | refine AtL.skipu rfl rfl rfl rfl ?_ | refine RGL.skipu rfl rfl rfl rfl ?_); simp only [putL, List.set_cons_zero, List.set_cons_succ]) | refine Goes.yes rfl ?_ | refine Goes.no rfl ?_ | refine Goes.drawR [] (by kernel_rfl) ?_)
        exact ih _ _ _ _ (by omega) ⟨k + 1, rfl, by omega, by rw [List.take_succ_eq_append_getElem hlt, List.take_succ_eq_append_getElem (by omega), hpre, hx], rfl, rfl, rfl, rfl, rfl, rfl⟩
      · have h5 : (ns[k] != ms[k]) = true := by simpa using hx
        have hne : decide (ns = ms) = false := decide_eq_false (fun h => hx (by subst h; rfl))
        rw [hne]
        repeat (first | refine Goes.reg ?_ | refine Goes.ctl2 rfl ?_ | ((first | refine qv1 rfl rfl rfl fun K hK => ?_ | refine qv3 rfl rfl rfl fun K hK => ?_ | refine qv2 rfl rfl rfl rfl rfl rfl fun K hK => ?_ | refine qv4 rfl rfl rfl rfl rfl rfl fun K hK => ?_ | refine qn1 rfl rfl rfl fun K hK => ?_ | refine qn3 rfl rfl rfl fun K hK => ?_ | refine qt1 rfl rfl rfl fun K hK => ?_ | refine qt3 rfl rfl rfl fun K hK => ?_); simp (disch := (first | omega | (simp only [sz] <;> omega) | fail)) only [go_sem, hd1, hd2, hd3, hd4, hg1, hg2, h5, Nat.mul_one]; with_reducible refine hK _ _ ?_; clear hK K) | refine At.nil rfl ?_ | refine RG.nil rfl ?_ | ((first | refine AtL.skipg rfl rfl rfl rfl rfl ?_ | refine RGL.skipg rfl rfl rfl rfl rfl ?_ | refine AtL.skipu rfl rfl rfl rfl ?_ | refine RGL.skipu rfl rfl rfl rfl ?_); simp only [putL, List.set_cons_zero, List.set_cons_succ]) | refine Goes.yes rfl ?_ | refine Goes.no rfl ?_ | refine Goes.drawR [] (by kernel_rfl) ?_)
        refine Goes.finS rfl (by simp (disch := (first | omega | (simp only [heapL_next, List.length_cons, List.length_nil, List.size_toArray, geo_len] <;> omega) | fail)) only [go_sem, resA, res1A, Try.results126] <;> rfl) ?_ rfl ?_
        · rfl
        · exact Clo.plain rfl
    · obtain rfl : k = ns.length := by omega
      have heq : decide (ns = ms) = true := decide_eq_true (by
        rw [List.take_length, hl, List.take_length] at hpre
        exact hpre)
      rw [heq]
      have hd1 : decide ((ns.length : Int) < (ns.length : Int)) = false := decide_eq_false (by omega)
      refine viaF hd1 ?_
      refine Goes.finS rfl (by simp (disch := (first | omega | (simp only [heapL_next, List.length_cons, List.length_nil, List.size_toArray, geo_len] <;> omega) | fail)) only [go_sem, resA, res1A, Try.results126] <;> rfl) ?_ rfl ?_
      · rfl
      · exact Clo.plain rfl
  · have h1 : ((ns.length : Int) != (ms.length : Int)) = true := by rw [bne_iff_ne]; omega
    have hne : decide (ns = ms) = false := decide_eq_false (fun h => hl (by rw [h]))
    rw [hne]
    refine viaF h1 ?_
    refine Goes.finS rfl (by simp (disch := (first | omega | (simp only [heapL_next, List.length_cons, List.length_nil, List.size_toArray, geo_len] <;> omega) | fail)) only [go_sem, resA, res1A, Try.results126] <;> rfl) ?_ rfl ?_
    · rfl
    · exact Clo.plain rfl
set_option maxHeartbeats 2000000 in
theorem eqB_x (ns ms : List Int) (c d : Nat) (hn : ns.length ≤ 2097152) (hm : ms.length ≤ 2097152) : DoesX BF 127 #[.slice (some ⟨0, 0, none⟩) ns.length c, .slice (some ⟨1, 0, none⟩) ms.length d] [numB .u8 5 ns, numB .u8 5 ms] () (.bool (decide (ns = ms))) [numB .u8 5 ns, numB .u8 5 ms] [] () := by
  refine DoesX.mk Try.func127 rfl rfl ?clo ?rows ?_
  case clo => exact clo2 (clo_sq (by simp)) (clo_sq (by simp))
  case rows => exact plain_rows (by simp [numB]; exact ⟨numRow_plain, numRow_plain⟩)
  rw [Try.ntmps127]; simp only [List.size_toArray, List.length_cons, List.length_nil, List.replicate, List.cons_append, List.nil_append]
  simp only [numB, List.map_cons, List.map_nil]
  by_cases hl : ns.length = ms.length
  · have h1 : ((ns.length : Int) != (ms.length : Int)) = false := by rw [hl]; simp
    refine viaF h1 ?_
    refine Goes.wh (fun q tmps h S => ∃ k, q = ns.length - k ∧ k ≤ ns.length ∧ ns.take k = ms.take k ∧ h = heapL [some ⟨numRow .u8 ns, 5, true, none⟩, some ⟨numRow .u8 ms, 5, true, none⟩] ∧ tmps.length = 26 ∧ tmps.getD 0 undef = .slice (some ⟨0, 0, none⟩) ns.length c ∧
      tmps.getD 1 undef = .slice (some ⟨1, 0, none⟩) ms.length d ∧ tmps.getD 12 undef = .int .i64 ns.length ∧ tmps.getD 13 undef = .int .i64 k) (m := ns.length) ⟨0, by omega, by omega, rfl, rfl, rfl, rfl, rfl, rfl, rfl⟩ ?_
    rintro q tmps h S ih ⟨k, rfl, hk, hpre, rfl, hlen, f0, f1, f12, f13⟩
    obtain ⟨V, hV, hT⟩ := frame_lit hlen; replace hT : _ = ([V 0, V 1, V 2, V 3, V 4, V 5, V 6, V 7, V 8, V 9, V 10, V 11, V 12, V 13, V 14, V 15, V 16, V 17, V 18, V 19, V 20, V 21, V 22, V 23, V 24, V 25] : List Value) := hT; rw [hV] at f0 f1 f12 f13; subst hT; simp only [f0, f1, f12, f13]; clear hV hlen
    by_cases hlt : k < ns.length
    · have hd1 : decide ((k : Int) < (ns.length : Int)) = true := decide_eq_true (by omega)
      have hd2 : (0 ≤ (k : Int)) = True := eq_true (by omega)
      have hd3 : ((k : Int) < (ns.length : Int)) = True := eq_true (by omega)
      have hd4 : ((k : Int) < (ms.length : Int)) = True := eq_true (by omega)
      have hg1 := numRow_get (k := .u8) hlt
      have hg2 := numRow_get (k := .u8) (show k < ms.length by omega)
      by_cases hx : ns[k] = ms[k]
      · have h5 : (ns[k] != ms[k]) = false := by rw [hx]; simp
        repeat (first | refine Goes.reg ?_ | refine Goes.ctl2 rfl ?_ | ((first | refine qv1 rfl rfl rfl fun K hK => ?_ | refine qv3 rfl rfl rfl fun K hK => ?_ | refine qv2 rfl rfl rfl rfl rfl rfl fun K hK => ?_ | refine qv4 rfl rfl rfl rfl rfl rfl fun K hK => ?_ | refine qn1 rfl rfl rfl fun K hK => ?_ | refine qn3 rfl rfl rfl fun K hK => ?_ | refine qt1 rfl rfl rfl fun K hK => ?_ | refine qt3 rfl rfl rfl fun K hK => ?_); simp (disch := (first | omega | (simp only [sz] <;> omega) | fail)) only [go_sem, hd1, hd2, hd3, hd4, hg1, hg2, h5, Nat.mul_one]; with_reducible refine hK _ _ ?_; clear hK K) | refine At.nil rfl ?_ | refine RG.nil rfl ?_ | ((first | refine AtL.skipg rfl rfl rfl rfl rfl ?_ | refine RGL.skipg rfl rfl rfl rfl rfl ?_ | refine AtL.skipu rfl rfl rfl rfl ?_ | refine RGL.skipu rfl rfl rfl rfl ?_); simp only [putL, List.set_cons_zero, List.set_cons_succ]) | refine Goes.yes rfl ?_ | refine Goes.no rfl ?_ | refine Goes.drawR [] (by kernel_rfl) ?_)
        exact ih _ _ _ _ (by omega) ⟨k + 1, rfl, by omega, by rw [List.take_succ_eq_append_getElem hlt, List.take_succ_eq_append_getElem (by omega), hpre, hx], rfl, rfl, rfl, rfl, rfl, rfl⟩
      · have h5 : (ns[k] != ms[k]) = true := by simpa using hx
        have hne : decide (ns = ms) = false := decide_eq_false (fun h => hx (by subst h; rfl))
        rw [hne]
        repeat (first | refine Goes.reg ?_ | refine Goes.ctl2 rfl ?_ | ((first | refine qv1 rfl rfl rfl fun K hK => ?_ | refine qv3 rfl rfl rfl fun K hK => ?_ | refine qv2 rfl rfl rfl rfl rfl rfl fun K hK => ?_ | refine qv4 rfl rfl rfl rfl rfl rfl fun K hK => ?_ | refine qn1 rfl rfl rfl fun K hK => ?_ | refine qn3 rfl rfl rfl fun K hK => ?_ | refine qt1 rfl rfl rfl fun K hK => ?_ | refine qt3 rfl rfl rfl fun K hK => ?_); simp (disch := (first | omega | (simp only [sz] <;> omega) | fail)) only [go_sem, hd1, hd2, hd3, hd4, hg1, hg2, h5, Nat.mul_one]; with_reducible refine hK _ _ ?_; clear hK K) | refine At.nil rfl ?_ | refine RG.nil rfl ?_ | ((first | refine AtL.skipg rfl rfl rfl rfl rfl ?_ | refine RGL.skipg rfl rfl rfl rfl rfl ?_ | refine AtL.skipu rfl rfl rfl rfl ?_ | refine RGL.skipu rfl rfl rfl rfl ?_); simp only [putL, List.set_cons_zero, List.set_cons_succ]) | refine Goes.yes rfl ?_ | refine Goes.no rfl ?_ | refine Goes.drawR [] (by kernel_rfl) ?_)
        refine Goes.finS rfl (by simp (disch := (first | omega | (simp only [heapL_next, List.length_cons, List.length_nil, List.size_toArray, geo_len] <;> omega) | fail)) only [go_sem, resA, res1A, Try.results127] <;> rfl) ?_ rfl ?_
        · rfl
        · exact Clo.plain rfl
    · obtain rfl : k = ns.length := by omega
      have heq : decide (ns = ms) = true := decide_eq_true (by
        rw [List.take_length, hl, List.take_length] at hpre
        exact hpre)
      rw [heq]
      have hd1 : decide ((ns.length : Int) < (ns.length : Int)) = false := decide_eq_false (by omega)
      refine viaF hd1 ?_
      refine Goes.finS rfl (by simp (disch := (first | omega | (simp only [heapL_next, List.length_cons, List.length_nil, List.size_toArray, geo_len] <;> omega) | fail)) only [go_sem, resA, res1A, Try.results127] <;> rfl) ?_ rfl ?_
      · rfl
      · exact Clo.plain rfl
  · have h1 : ((ns.length : Int) != (ms.length : Int)) = true := by rw [bne_iff_ne]; omega
    have hne : decide (ns = ms) = false := decide_eq_false (fun h => hl (by rw [h]))
    rw [hne]
    refine viaF h1 ?_
    refine Goes.finS rfl (by simp (disch := (first | omega | (simp only [heapL_next, List.length_cons, List.length_nil, List.size_toArray, geo_len] <;> omega) | fail)) only [go_sem, resA, res1A, Try.results127] <;> rfl) ?_ rfl ?_
    · rfl
    · exact Clo.plain rfl
def memB (i j : Nat) (n c m d : Nat) : Blk := ⟨[.slice (some ⟨i, 0, none⟩) n c, .slice (some ⟨j, 0, none⟩) m d], 173, true, none⟩
set_option maxHeartbeats 2000000 in
theorem same_x (ns ms : List Int) (bs cs : List Int) (c c' d d' : Nat) (hn : ns.length ≤ 2097152) (hm : ms.length ≤ 2097152) (hb : bs.length ≤ 2097152) (hc : cs.length ≤ 2097152) :
    Goes BF Try.f73 (fun x => ∃ h1, x = .done (.bool (decide (ns = ms) && decide (bs = cs))) h1 ()) (.run [.code (Try.f73.body.getD .skip)] ([.pointer (some ⟨0, 0, none⟩), .pointer (some ⟨3, 0, none⟩)] ++ List.replicate (Try.f73.ntmps - 2) undef)
      (heapL [some (memB 1 2 ns.length c bs.length d), some (numB .u64 49 ns), some (numB .u8 5 bs), some (memB 4 5 ms.length c' cs.length d'), some (numB .u64 49 ms), some (numB .u8 5 cs)]) ()) := by
  rw [Try.ntmps73]; simp only [List.replicate, List.cons_append, List.nil_append]
  show Goes BF _ _ (.run [.code _] _ _ _)
  simp only [memB, numB]
  refine via ?_
  ((first | refine At.callX [1, 4] rfl rfl rfl (by decide) rfl (fun K hK => ?_) | refine RG.callX [1, 4] rfl rfl rfl rfl (by decide) (fun K hK => ?_)); simp (disch := (first | omega | (simp only [heapL_next, List.length_cons, List.length_nil, List.size_toArray, geo_len] <;> omega) | fail)) only [go_sem]; refine ⟨_, _, _, _, _, _, eqW_x ns ms c c' hn hm, by first | rfl | simp (disch := (first | omega | (simp only [heapL_next, List.length_cons, List.length_nil, List.size_toArray, geo_len] <;> omega) | fail)) only [go_sem], by ((repeat (refine ⟨⟨_, rfl, rfl, ?_, (by first | exact .inr rfl | exact .inl rfl), (by first | exact fun h => h | exact fun _ => rfl | (intro h; cases h))⟩, ?_⟩; · first | exact plain_map numRow_plain | (simp [up_prt]; done) | exact plain_map (by simp [plainB]; done) | simp [up_0, up_1, up_2, up_00, up_base, up_slack, adr])); exact trivial), by first | exact ⟨rfl, rfl⟩ | rfl, ?_⟩; (try simp only [go_sem]); (first | refine hK _ _ _ ?_ | refine hK _ _ _ _ ?_); clear hK K)
  by_cases h : ns = ms
  · rw [decide_eq_true h]
    refine via ?_
    ((first | refine At.callX [2, 5] rfl rfl rfl (by decide) rfl (fun K hK => ?_) | refine RG.callX [2, 5] rfl rfl rfl rfl (by decide) (fun K hK => ?_)); simp (disch := (first | omega | (simp only [heapL_next, List.length_cons, List.length_nil, List.size_toArray, geo_len] <;> omega) | fail)) only [go_sem]; refine ⟨_, _, _, _, _, _, eqB_x bs cs d d' hb hc, by first | rfl | simp (disch := (first | omega | (simp only [heapL_next, List.length_cons, List.length_nil, List.size_toArray, geo_len] <;> omega) | fail)) only [go_sem], by ((repeat (refine ⟨⟨_, rfl, rfl, ?_, (by first | exact .inr rfl | exact .inl rfl), (by first | exact fun h => h | exact fun _ => rfl | (intro h; cases h))⟩, ?_⟩; · first | exact plain_map numRow_plain | (simp [up_prt]; done) | exact plain_map (by simp [plainB]; done) | simp [up_0, up_1, up_2, up_00, up_base, up_slack, adr])); exact trivial), by first | exact ⟨rfl, rfl⟩ | rfl, ?_⟩; (try simp only [go_sem]); (first | refine hK _ _ _ ?_ | refine hK _ _ _ _ ?_); clear hK K)
    refine via ?_
    exact .ret rfl rfl (.here ⟨_, by rw [Bool.true_and]; rfl⟩)
  · rw [decide_eq_false h]
    refine via ?_
    exact .ret rfl rfl (.here ⟨_, rfl⟩)
theorem map_same {α : Type} (f : α → Int) (hf : ∀ x y, f x = f y → x = y) : ∀ l m : List α, l.map f = m.map f → l = m
  | [], [], _ => rfl
  | [], _ :: _, h => by simp at h
  | _ :: _, [], h => by simp at h
  | x :: l, y :: m, h => by
    simp only [List.map_cons, List.cons.injEq] at h
    rw [hf x y h.1, map_same f hf l m h.2]
theorem mSame_any (M M' : MemId) (ws us : List UInt64) (bs cs : List UInt8) (w : World) (h : MemAt w M ws bs) (h' : MemAt w M' us cs) :
    Calls Try.prog 73 #[.pointer (some ⟨M.m, 0, none⟩), .pointer (some ⟨M'.m, 0, none⟩)] w (Ret (.bool (decide (ws = us) && decide (bs = cs))) (Ext [] w)) := by
  let f : UInt64 → Int := fun x => (x.toNat : Int)
  let g : UInt8 → Int := fun x => (x.toNat : Int)
  have hf : ∀ x y, f x = f y → x = y := fun x y h => UInt64.toNat_inj.1 (by have : (x.toNat : Int) = (y.toNat : Int) := h; omega)
  have hg : ∀ x y, g x = g y → x = y := fun x y h => UInt8.toNat_inj.1 (by have : (x.toNat : Int) = (y.toNat : Int) := h; omega)
  have e1 : decide (ws.map f = us.map f) = decide (ws = us) := by
    by_cases hh : ws = us
    · rw [decide_eq_true hh, decide_eq_true (by rw [hh])]
    · rw [decide_eq_false hh, decide_eq_false (fun e => hh (map_same f hf _ _ e))]
  have e2 : decide (bs.map g = cs.map g) = decide (bs = cs) := by
    by_cases hh : bs = cs
    · rw [decide_eq_true hh, decide_eq_true (by rw [hh])]
    · rw [decide_eq_false hh, decide_eq_false (fun e => hh (map_same g hg _ _ e))]
  rw [← e1, ← e2]
  have G := same_x (ws.map f) (us.map f) (bs.map g) (cs.map g) ws.length us.length bs.length cs.length (by have := h.wl; simpa using this) (by have := h'.wl; simpa using this) (by have := h.bl; simp; omega) (by have := h'.bl; simp; omega)
  obtain ⟨c', ⟨h1, rfl⟩, G⟩ := G.out
  let rows : List (Option Blk) := [some (memB 1 2 (ws.map f).length ws.length (bs.map g).length bs.length), some (numB .u64 49 (ws.map f)), some (numB .u8 5 (bs.map g)), some (memB 4 5 (us.map f).length us.length (cs.map g).length cs.length), some (numB .u64 49 (us.map f)), some (numB .u8 5 (cs.map g))]
  let F : Emb := ⟨fun n => if n = 0 then M.m else if n = 1 then M.bw else if n = 2 then M.bb else if n = 3 then M'.m else if n = 4 then M'.bw else M'.bb, fun _ => 0, fun n => if n = 1 then M.pw.size else if n = 2 then M.pb.size else if n = 4 then M'.pw.size else M'.pb.size⟩
  have hr : ∀ (n : Nat) (b : Blk), rows[n]? = some (some b) → b.ro = true ∧ b.grow = none ∧ (∀ v ∈ b.cells, Clo (Kn rows.length 0) v) ∧ ∃ (post : Array Value), w.heap[F.blk n]? = some (.cells ((b.cells.map (ren F)).toArray ++ post) b.elem (0, 0)) := by
    intro n b hb
    have wc : ∀ {l : List UInt64}, (numRow .u64 (l.map f)).map (ren F) = (wcells l).toList := fun {l} => by rw [← plain_map numRow_plain]; simp [numRow, wcells, f]
    have bc : ∀ {l : List UInt8}, (numRow .u8 (l.map g)).map (ren F) = (bcells l).toList := fun {l} => by rw [← plain_map numRow_plain]; simp [numRow, bcells, g]
    match n, hb with
    | 0, hb => cases hb; exact ⟨rfl, rfl, by simp only [memB, List.mem_cons, List.not_mem_nil, or_false]; rintro v (rfl | rfl); exact clo_sq (by simp [rows]); exact clo_sq (by simp [rows]), #[], by have := h.hm; simpa [F, memB, adr, memC, blk] using this⟩
    | 1, hb => cases hb; exact ⟨rfl, rfl, fun v hv => Clo.plain (numRow_plain v hv), M.pw, by have := h.hw; simp only [numB, wc]; simpa [F, blk] using this⟩
    | 2, hb => cases hb; exact ⟨rfl, rfl, fun v hv => Clo.plain (numRow_plain v hv), M.pb, by have := h.hb; simp only [numB, bc]; simpa [F, blk] using this⟩
    | 3, hb => cases hb; exact ⟨rfl, rfl, by simp only [memB, List.mem_cons, List.not_mem_nil, or_false]; rintro v (rfl | rfl); exact clo_sq (by simp [rows]); exact clo_sq (by simp [rows]), #[], by have := h'.hm; simpa [F, memB, adr, memC, blk] using this⟩
    | 4, hb => cases hb; exact ⟨rfl, rfl, fun v hv => Clo.plain (numRow_plain v hv), M'.pw, by have := h'.hw; simp only [numB, wc]; simpa [F, blk] using this⟩
    | 5, hb => cases hb; exact ⟨rfl, rfl, fun v hv => Clo.plain (numRow_plain v hv), M'.pb, by have := h'.hb; simp only [numB, bc]; simpa [F, blk] using this⟩
    | n + 6, hb => simp [rows] at hb
  have hget : ∀ (n : Nat) (b : Blk), (heapL rows).get n = some b → rows[n]? = some (some b) := fun n b h => by
    rw [heapL_get] at h
    cases hr : rows[n]? with
    | none => rw [hr] at h; cases h
    | some o => rw [hr] at h; rw [show o = some b from h]
  have hlen : rows.length = 6 := rfl
  have I : AInv BF F w (fun _ => False) (Kn (heapL rows).next (BF.cnt ())) (fun u => u ∈ [Value.pointer (some ⟨0, 0, none⟩), Value.pointer (some ⟨3, 0, none⟩)] ++ List.replicate (Try.f73.ntmps - 2) undef) (heapL rows) () w := by
    refine ⟨⟨fun n b hb => ?_, fun n m b _ hb _ _ hro => ?_⟩, trivial, fun u hu => ?_, fun n b hb v hv => ?_, fun n b hb => ?_, fun n h1 h2 => ?_, fun n hn => ?_, Kept.refl _ _, fun n b hb hro _ => ?_, fun b hb _ => hb, fun n b _ hf => hf⟩
    · obtain ⟨r1, r2, _, post, r4⟩ := hr n b (hget n b hb)
      exact ⟨#[], post, (0, 0), by simpa using r4, rfl, (fun _ => rfl), (fun h => by rw [r2] at h; cases h), (fun s h => by rw [r2] at h; cases h)⟩
    · have := (hr n b (hget n b hb)).1
      rw [hro] at this; cases this
    · rcases List.mem_append.1 hu with hu | hu
      · simp only [List.mem_cons, List.not_mem_nil, or_false] at hu
        rcases hu with rfl | rfl
        · exact (clo_pq (by rw [heapL_next, hlen]; decide)).stab F
        · exact (clo_pq (by rw [heapL_next, hlen]; decide)).stab F
      · rw [List.eq_of_mem_replicate hu]
        exact Stab.plain (by simp [undef, plainB])
    · exact ((hr n b (hget n b hb)).2.2.1 v hv).stab F
    · have := (List.getElem?_eq_some_iff.1 (hget n b hb)).1
      exact ⟨.inl (by rw [heapL_next]; exact this), by unfold VB; omega⟩
    · have h2 : n < VB + 0 := h2
      omega
    · rcases hn with hn | ⟨hn, hn'⟩
      · rw [heapL_next, hlen] at hn
        show n < VB + 0
        unfold VB; omega
      · exact hn'
    · have := (hr n b (hget n b hb)).1
      rw [hro] at this; cases this
  have hC := calls_of_simul (zs := #[.pointer (some ⟨0, 0, none⟩), .pointer (some ⟨3, 0, none⟩)]) Try.func73 rfl G.simul I (by rw [heapL_next, hlen]; unfold VB; omega)
  have ha : (#[.pointer (some ⟨0, 0, none⟩), .pointer (some ⟨3, 0, none⟩)] : Array Value).map (ren F) = #[.pointer (some ⟨M.m, 0, none⟩), .pointer (some ⟨M'.m, 0, none⟩)] := by simp [adr, F]
  rw [ha] at hC
  refine hC.mono ?_
  rintro e w' ⟨F', rfl, I', _⟩
  exact ⟨by rw [ren_bool], I'.kept.os, I'.kept.tape, I'.kept.output, I'.kept.size, fun b hb _ => I'.kept.block b hb (fun h => h)⟩
end Go.Proofs.Ytceddijolfpppaa
