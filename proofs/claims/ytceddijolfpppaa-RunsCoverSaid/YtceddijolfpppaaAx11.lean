/-
  The abstract machine, part 11: its rules, as they are used.
  No condition: laws.
-/
import Derived.Test.YtceddijolfpppaaAx10
namespace Go.Proofs.Ytceddijolfpppaa
open Go Go.RowKit
set_option linter.unusedSimpArgs false
set_option linter.unusedVariables false

/-- A heap of rows, the first of which has the name 0; a name may have no row. -/
def heapL (l : List (Option Blk)) : AHeap := ⟨fun n => (l[n]?).join, l.length⟩
theorem heapL_addO (l : List (Option Blk)) (b : Option Blk) : (heapL l).addO b = heapL (l ++ [b]) := by
  unfold heapL AHeap.addO
  simp only [List.length_append, List.length_singleton]
  congr 1
  funext n
  split
  · rename_i h; subst h; simp
  · rename_i h
    by_cases hn : n < l.length
    · rw [List.getElem?_append_left hn]
    · rw [List.getElem?_eq_none (by omega), List.getElem?_eq_none (by simp; omega)]
theorem heapL_putO (l : List (Option Blk)) (n : Nat) (b : Option Blk) (h : n < l.length) : (heapL l).putO n b = heapL (l.set n b) := by
  unfold heapL AHeap.putO
  simp only [List.length_set]
  congr 1
  funext m
  rw [List.getElem?_set]
  by_cases hm : m = n
  · subst hm; simp [h]
  · rw [if_neg hm, if_neg (Ne.symm hm)]
theorem put_putO (h : AHeap) (n : Nat) (b : Blk) : h.put n b = h.putO n (some b) := rfl
theorem heapL_put (l : List (Option Blk)) (n : Nat) (b : Blk) (h : n < l.length) : (heapL l).put n b = heapL (l.set n (some b)) := by
  rw [put_putO, heapL_putO l n _ h]
theorem heapL_get (l : List (Option Blk)) (n : Nat) : (heapL l).get n = (l[n]?).join := rfl
theorem heapL_next (l : List (Option Blk)) : (heapL l).next = l.length := rfl
theorem heapL_lim {l : List (Option Blk)} (h : decide (l.length < 1000000) = true) : (heapL l).next < VB := by
  have := of_decide_eq_true h
  unfold heapL VB
  simp only
  omega
/-- No row under a name that is to come. -/
def AHeap.Low (h : AHeap) : Prop := ∀ n b, h.get n = some b → n < h.next
theorem heapL_low (l : List (Option Blk)) : (heapL l).Low := by
  intro n b hb
  rw [heapL_get] at hb
  rw [heapL_next]
  rcases Nat.lt_or_ge n l.length with h | h
  · exact h
  · rw [List.getElem?_eq_none h] at hb; cases hb

theorem ren_id : ∀ v : Value, ren (nameE id) v = v
  | .pointer (some a) => by simp [adr, nameE]
  | .pointer none => by simp
  | .slice (some a) n c => by simp [adr, nameE]
  | .slice none n c => by simp
  | .iface t v => by simp [ren_id v]
  | .agg cs => by
    simp only [ren_agg]
    congr 1
    exact (Array.map_congr_left fun x hx => ren_id x).trans (by simp)
  | .tuple cs => by
    simp only [ren_tuple]
    congr 1
    exact (Array.map_congr_left fun x hx => ren_id x).trans (by simp)
  | .func fn xs ys => by
    simp only [ren_func]
    congr 1
    · exact (Array.map_congr_left fun x hx => ren_id x).trans (by simp)
    · exact (Array.map_congr_left fun x hx => ren_id x).trans (by simp)
  | .bool b => by simp
  | .int k n => by simp
  | .float k n => by simp [ren]
  | .complex k n m => by simp [ren]
  | .string s => by simp
  | .map r => by simp [ren]
  | .chan r => by simp [ren]
  | .nilFunc => by simp
  | .nilIface => by simp
termination_by v => SizeOf.sizeOf v
decreasing_by all_goals (simp_wf; first | omega | (have := Array.sizeOf_lt_of_mem hx; omega))

section
variable {P : Program} {σ : Type} {X : Face P σ}

/-- Each name is itself. -/
def idE : Emb := nameE id

/-- What a function does, called with such arguments; rows l are to be read. -/
def Does (X : Face P σ) (f : FuncId) (args : Array Value) (l : List Blk) (S : σ) (v : Value) (S' : σ) : Prop :=
  ∃ g c h1, P.funcs[f]? = some g ∧ goB g = true ∧ g.body = some c ∧ (∀ u ∈ args.toList, Clo (Kn l.length (X.cnt S)) u) ∧ Hand (X.cnt S') v ∧
    Goes X g (fun x => x = .done v h1 S') (.run (enterL g c args).1 (enterL g c args).2 (heapL (l.map some)) S)

theorem map_id (args : Array Value) : args = args.map (ren idE) := by
  conv => lhs; rw [← Array.map_id args]
  exact Array.map_congr_left fun x _ => (ren_id x).symm

/-- A call to which nothing is lent. -/
theorem call_bare {o : Oper} {e : Operand → Value} {h : AHeap} {S S' : σ} {f : FuncId} {g : Func} {c : Code} {args : Array Value} {v : Value} (h1 : AHeap) (hca : callA P e o.op = some (f, args)) (hf : P.funcs[f]? = some g) (hg : goB g = true) (hb : g.body = some c)
    (hclo : ∀ u ∈ args.toList, Clo (Kn 0 (X.cnt S)) u) (hv : Hand (X.cnt S') v) : CallOK X o e h S v h S' f g c args idE idE (heapL []) h1 [] v := by
  refine ⟨by rw [← map_id]; exact hca, hf, hg, hb, ⟨fun n b hb => by simp [heapL_get] at hb, fun n b hb => by simp [heapL_get] at hb, fun n b hb => by simp [heapL_get] at hb, fun n m b c hb => by simp [heapL_get] at hb, by simp [heapL_next, VB], fun n _ => ⟨rfl, rfl, rfl⟩⟩, hclo,
    ⟨rfl, fun n hn => ⟨rfl, rfl, rfl⟩, fun j n hj => by simp at hj, fun n _ => ⟨rfl, rfl, rfl⟩, (ren_id v).symm, ?_, ?_, fun j n hj => by simp at hj, fun m _ => .inl ⟨rfl, fun n b hb => by simp [heapL_get] at hb⟩, ?_, List.nodup_nil⟩⟩
  · exact fun F F' hs => hv F F' (hs.mono fun n hn => .inr (.inr hn))
  · rintro n b _ (⟨b0, hb0, _⟩ | hn)
    · simp [heapL_get] at hb0
    · cases hn
  · rintro n b _ (⟨b0, hb0, _⟩ | hn)
    · simp [heapL_get] at hb0
    · cases hn

/-- The value of an operation, and what comes then. -/
def OpK (K : List Value → AHeap → Prop) (o : Oper) (tmps : List Value) (h : AHeap) : Option Value → Prop
  | some v => K (putL o.dst v tmps) h
  | none => False
def NewK (K : List Value → AHeap → Prop) (o : Oper) (tmps : List Value) (h : AHeap) : Option (Value × Option Blk) → Prop
  | some (v, b) => K (putL o.dst v tmps) (h.addO b)
  | none => False
def WrK (K : List Value → AHeap → Prop) (o : Oper) (tmps : List Value) : Option (Value × AHeap) → Prop
  | some (v, h') => K (putL o.dst v tmps) h'
  | none => False
def StoreK (K : List Value → AHeap → Prop) (o : Oper) (tmps : List Value) : Option AHeap → Prop
  | some h' => K (putL o.dst undef tmps) h'
  | none => False
def CallK (K : FuncId → Array Value → Prop) : Option (FuncId × Array Value) → Prop
  | some (f, args) => K f args
  | none => False
def storeOp (P : Program) (e : Operand → Value) (h : AHeap) : Op → Option AHeap
  | .store t x y => (match e x with | .pointer (some a) => storeA P h t a (e y) | _ => none)
  | _ => none

theorem storeOp_wr {e : Operand → Value} {h h' : AHeap} {o : Op} (hs : storeOp P e h o = some h') : wrA P e h o = some (undef, h') := by
  unfold storeOp at hs
  split at hs
  · split at hs
    · rename_i a ha
      unfold wrA
      simp only [ha, hs, Option.map_some]
    · cases hs
  · cases hs
theorem wrA_next1 {e : Operand → Value} {h h' : AHeap} {o : Op} {v : Value} (hv : wrA P e h o = some (v, h')) : h'.next = h.next ∨ h'.next = h.next + 1 := by
  unfold wrA at hv
  repeat' split at hv
  all_goals first
    | (cases hv; done)
    | (cases hv; exact .inl rfl)
    | (cases hv; exact .inr rfl)
    | (rename_i a _; cases hs : storeA P h _ a _ with
        | none => rw [hs] at hv; cases hv
        | some h1 =>
          rw [hs] at hv
          cases hv
          obtain ⟨b, s, _, _, _, _, _, _, _, rfl⟩ := storeA_spec hs
          exact .inl rfl)
theorem storeOp_spec {e : Operand → Value} {h h' : AHeap} {o : Op} (hs : storeOp P e h o = some h') : ∃ t x y a, o = .store t x y ∧ e x = .pointer (some a) ∧ storeA P h t a (e y) = some h' := by
  unfold storeOp at hs
  split at hs
  · rename_i t x y
    split at hs
    · rename_i a ha; exact ⟨t, x, y, a, rfl, ha, hs⟩
    · cases hs
  · cases hs

/-! ### a region in its text's order -/

variable (X) in
/-- The region's operations from number i on. -/
def At (fn : Func) (A : Conf σ → Prop) (ops : Array Oper) (k : List Item) (i : Nat) (tmps : List Value) (h : AHeap) (S : σ) : Prop :=
  Goes X fn A (.run (.inRegion ops (List.range' i (ops.size - i)) :: k) tmps h S)

variable {fn : Func} {A : Conf σ → Prop} {ops : Array Oper} {k : List Item} {i : Nat} {tmps : List Value} {h : AHeap} {S : σ} {o : Oper} {todo : List Item}

theorem Goes.reg {id : Nat} (hk : At X fn A ops k 0 tmps h S) : Goes X fn A (.run (.code (.region id ops false) :: k) tmps h S) := by
  refine .ctl (todo' := .inRegion ops (List.range ops.size) :: k) rfl ?_
  rw [List.range_eq_range']
  exact hk

theorem range_at (ho : ops[i]? = some o) : List.range' i (ops.size - i) = i :: List.range' (i + 1) (ops.size - (i + 1)) := by
  have := (Array.getElem?_eq_some_iff.1 ho).1
  rw [show ops.size - i = (ops.size - (i + 1)) + 1 by omega, List.range'_succ]

theorem At.nil (hn : decide (ops.size ≤ i) = true) (hk : Goes X fn A (.run k tmps h S)) : At X fn A ops k i tmps h S := by
  unfold At
  rw [show ops.size - i = 0 by have := of_decide_eq_true hn; omega]
  exact .ctl rfl hk

theorem At.skip (ho : ops[i]? = some o) (hw : Region.wanted o (yieldedL ops tmps) = false) (hk : At X fn A ops k (i + 1) (putL o.dst undef tmps) h S) : At X fn A ops k i tmps h S := by
  unfold At
  rw [range_at ho]
  exact .skip ho hw hk

theorem At.op {v : Value} {h' : AHeap} {S' : σ} (ho : ops[i]? = some o) (hw : Region.wanted o (yieldedL ops tmps) = true) (hb : o.op.operands.all operB = true) (hop : Op0 X o (evA tmps) h S v h' S') (hl : h'.next = h.next ∨ h'.next ≤ VB)
    (hk : At X fn A ops k (i + 1) (putL o.dst v tmps) h' S') : At X fn A ops k i tmps h S := by
  unfold At
  rw [range_at ho]
  exact .op ho hw hb hop hl hk

theorem At.val (ho : ops[i]? = some o) (hw : Region.wanted o (yieldedL ops tmps) = true) (hb : o.op.operands.all operB = true)
    (hk : ∀ K : List Value → AHeap → Prop, (∀ t h, At X fn A ops k (i + 1) t h S → K t h) → OpK K o tmps h (valA P (evA tmps) h o.op)) : At X fn A ops k i tmps h S := by
  have := hk _ (fun _ _ h => h)
  cases hv : valA P (evA tmps) h o.op with
  | none => rw [hv] at this; exact this.elim
  | some v => rw [hv] at this; exact .op ho hw hb (.inl ⟨hv, rfl, rfl⟩) (.inl rfl) this

theorem At.new (ho : ops[i]? = some o) (hw : Region.wanted o (yieldedL ops tmps) = true) (hb : o.op.operands.all operB = true) (hl : h.next < VB)
    (hk : ∀ K : List Value → AHeap → Prop, (∀ t h, At X fn A ops k (i + 1) t h S → K t h) → NewK K o tmps h (newA P (evA tmps) h h.next o.op)) : At X fn A ops k i tmps h S := by
  have := hk _ (fun _ _ h => h)
  cases hv : newA P (evA tmps) h h.next o.op with
  | none => rw [hv] at this; exact this.elim
  | some v =>
    obtain ⟨v, ob⟩ := v
    rw [hv] at this
    exact .op ho hw hb (.inr (.inl ⟨ob, hv, rfl, rfl⟩)) (.inr hl) this

theorem At.wr (ho : ops[i]? = some o) (hw : Region.wanted o (yieldedL ops tmps) = true) (hb : o.op.operands.all operB = true) (hl : h.next < VB)
    (hk : ∀ K : List Value → AHeap → Prop, (∀ t h, At X fn A ops k (i + 1) t h S → K t h) → WrK K o tmps (wrA P (evA tmps) h o.op)) : At X fn A ops k i tmps h S := by
  have := hk _ (fun _ _ h => h)
  cases hv : wrA P (evA tmps) h o.op with
  | none => rw [hv] at this; exact this.elim
  | some v =>
    obtain ⟨v, h'⟩ := v
    rw [hv] at this
    exact .op ho hw hb (.inr (.inr (.inl ⟨hv, rfl⟩))) (by rcases wrA_next1 hv with h | h <;> omega) this

theorem At.store (ho : ops[i]? = some o) (hw : Region.wanted o (yieldedL ops tmps) = true) (hb : o.op.operands.all operB = true)
    (hk : ∀ K : List Value → AHeap → Prop, (∀ t h, At X fn A ops k (i + 1) t h S → K t h) → StoreK K o tmps (storeOp P (evA tmps) h o.op)) : At X fn A ops k i tmps h S := by
  have := hk _ (fun _ _ h => h)
  cases hv : storeOp P (evA tmps) h o.op with
  | none => rw [hv] at this; exact this.elim
  | some h' =>
    rw [hv] at this
    obtain ⟨t, x, y, a, h1, h2, h3⟩ := storeOp_spec hv
    obtain ⟨b, s, _, _, _, _, _, _, _, rfl⟩ := storeA_spec h3
    exact .op ho hw hb (.inr (.inr (.inl ⟨storeOp_wr hv, rfl⟩))) (.inl rfl) this

theorem At.prim {g : Func} (ho : ops[i]? = some o) (hw : Region.wanted o (yieldedL ops tmps) = true) (hb : o.op.operands.all operB = true)
    (hk : CallK (fun f args => P.funcs[f]? = some g ∧ goB g = true ∧ ∃ v S', X.prim f args S v S' ∧ At X fn A ops k (i + 1) (putL o.dst v tmps) h S') (callA P (evA tmps) o.op)) : At X fn A ops k i tmps h S := by
  cases hv : callA P (evA tmps) o.op with
  | none => rw [hv] at hk; exact hk.elim
  | some x =>
    obtain ⟨f, args⟩ := x
    rw [hv] at hk
    obtain ⟨h1, h2, v, S', h3, h4⟩ := hk
    exact .op ho hw hb (.inr (.inr (.inr ⟨f, g, args, hv, h1, h2, h3, rfl⟩))) (.inl rfl) h4

theorem At.call (ho : ops[i]? = some o) (hw : Region.wanted o (yieldedL ops tmps) = true) (hb : o.op.operands.all operB = true)
    (hk : CallK (fun f args => ∃ v S', Does X f args [] S v S' ∧ At X fn A ops k (i + 1) (putL o.dst v tmps) h S') (callA P (evA tmps) o.op)) : At X fn A ops k i tmps h S := by
  unfold At
  rw [range_at ho]
  cases hv : callA P (evA tmps) o.op with
  | none => rw [hv] at hk; exact hk.elim
  | some x =>
    obtain ⟨f, args⟩ := x
    rw [hv] at hk
    obtain ⟨v, S', ⟨g, c, h1, d1, d2, d3, d4, d5, d6⟩, h4⟩ := hk
    exact .call f g c args idE idE (heapL []) h1 [] v ho hw hb (call_bare h1 hv d1 d2 d3 d4 d5) (.inl rfl) d6 h4

/-! ### a region that draws its order -/

/-- The region's operations from number i on, in the order of the text; K: what is to hold behind the last one; hf: rows that stay. -/
inductive RGF (X : Face P σ) (W : List Nat) (ops : Array Oper) (n0 : Nat) (hf : AHeap) (K : List Value → AHeap → σ → Prop) : Nat → List Value → AHeap → σ → List (Nat × Nat) → Prop
  | nil' {i tmps h S born} (hn : ops.size = i) (hk : K tmps h S) : RGF X W ops n0 hf K i tmps h S born
  | skip' {i tmps h S born o} (ho : ops[i]? = some o) (hw : Region.wanted o (yieldedL ops tmps) = false) (hk : RGF X W ops n0 hf K (i + 1) (putL o.dst undef tmps) h S born) : RGF X W ops n0 hf K i tmps h S born
  | far' {i tmps h S born o v} (ho : ops[i]? = some o) (hw : Region.wanted o (yieldedL ops tmps) = true) (hb : o.op.operands.all operB = true) (hq : wrB W i o = false) (hfar : farB W i = true) (hv : valA P (evA tmps) hf o.op = some v)
      (hk : RGF X W ops n0 hf K (i + 1) (putL o.dst v tmps) h S born) : RGF X W ops n0 hf K i tmps h S born
  | op' {i tmps h S born o v h' S'} (wr : Bool) (hnf : farB W i = false) (ho : ops[i]? = some o) (hw : Region.wanted o (yieldedL ops tmps) = true) (hb : o.op.operands.all operB = true) (hl : h'.next = h.next ∨ h'.next ≤ VB)
      (hop : if wr then wrB W i o = true ∧ Op0 X o (evA tmps) h S v h' S' else wrB W i o = false ∧ ∃ hv, Op0 X o (evA tmps) (visH n0 born ((masksFrom ops.toList []).getD i 0) h) S v hv S' ∧ h' = glueH h hv)
      (hst : ∀ n b, hf.get n = some b → n < n0 → n0 ≤ h.next → h'.get n = h.get n)
      (hk : RGF X W ops n0 hf K (i + 1) (putL o.dst v tmps) h' S' (bornN i h.next h'.next ++ born)) : RGF X W ops n0 hf K i tmps h S born
  | call' {i tmps h S born o v h' S'} (wr : Bool) (f : FuncId) (g : Func) (c : Code) (zs : Array Value) (E Q : Emb) (hc h1 : AHeap) (ex : List Nat) (v0 : Value) (hnf : farB W i = false) (ho : ops[i]? = some o) (hw : Region.wanted o (yieldedL ops tmps) = true) (hb : o.op.operands.all operB = true) (hl : h'.next = h.next ∨ h'.next ≤ VB)
      (hok : if wr then wrB W i o = true ∧ CallOK X o (evA tmps) h S v h' S' f g c zs E Q hc h1 ex v0 else wrB W i o = false ∧ ∃ hv, CallOK X o (evA tmps) (visH n0 born ((masksFrom ops.toList []).getD i 0) h) S v hv S' f g c zs E Q hc h1 ex v0 ∧ h' = glueH h hv)
      (hrun : Goes X g (fun x => x = .done v0 h1 S') (.run (enterL g c zs).1 (enterL g c zs).2 hc S))
      (hst : ∀ n b, hf.get n = some b → n < n0 → n0 ≤ h.next → h'.get n = h.get n)
      (hk : RGF X W ops n0 hf K (i + 1) (putL o.dst v tmps) h' S' (bornN i h.next h'.next ++ born)) : RGF X W ops n0 hf K i tmps h S born

def RecOK (X : Face P σ) (W : List Nat) (ops : Array Oper) (n0 : Nat) (hf : AHeap) (i : Nat) (rec : Nat → DRec σ) : Prop :=
  (∀ j o, i ≤ j → ops[j]? = some o → GoodK X W ops n0 hf j o (rec j) (rec (j + 1))) ∧
  (∀ j wr f g c zs E Q hc h1 ex v0, i ≤ j → j < ops.size → (rec j).kind = .call wr f g c zs E Q hc h1 ex v0 → Goes X g (fun x => x = .done v0 h1 (rec (j + 1)).S) (.run (enterL g c zs).1 (enterL g c zs).2 hc (rec j).S)) ∧
  (∀ j, i ≤ j → j ≤ ops.size → ∀ n b, hf.get n = some b → n < n0 → n0 ≤ (rec i).h.next → n0 ≤ (rec j).h.next ∧ (rec j).h.get n = (rec i).h.get n)

theorem op0_next {o : Oper} {e : Operand → Value} {h h' : AHeap} {S S' : σ} {v : Value} (H : Op0 X o e h S v h' S') : h.next ≤ h'.next := (op0_facts H).1

theorem RGF.recs {W : List Nat} {n0 : Nat} {hf : AHeap} {K : List Value → AHeap → σ → Prop} {i : Nat} {tmps : List Value} {h : AHeap} {S : σ} {born : List (Nat × Nat)} (R : RGF X W ops n0 hf K i tmps h S born) :
    ∃ rec : Nat → DRec σ, (rec i).tmps = tmps ∧ (rec i).h = h ∧ (rec i).S = S ∧ (rec i).born = born ∧ RecOK X W ops n0 hf i rec ∧ K (rec ops.size).tmps (rec ops.size).h (rec ops.size).S := by
  have ext : ∀ {i : Nat} {tmps : List Value} {h : AHeap} {S : σ} {born : List (Nat × Nat)} {o : Oper} {h' : AHeap} {S' : σ} {born' : List (Nat × Nat)} (v : Value) (kd : Kind), ops[i]? = some o →
      (∃ rec : Nat → DRec σ, (rec (i + 1)).tmps = putL o.dst v tmps ∧ (rec (i + 1)).h = h' ∧ (rec (i + 1)).S = S' ∧ (rec (i + 1)).born = born' ∧ RecOK X W ops n0 hf (i + 1) rec ∧ K (rec ops.size).tmps (rec ops.size).h (rec ops.size).S) →
      (∀ q : DRec σ, q.tmps = putL o.dst v tmps → q.h = h' → q.S = S' → q.born = born' → GoodK X W ops n0 hf i o ⟨tmps, h, S, v, born, kd⟩ q) → (∀ wr f g c zs E Q hc h1 ex v0, kd = .call wr f g c zs E Q hc h1 ex v0 → Goes X g (fun x => x = .done v0 h1 S') (.run (enterL g c zs).1 (enterL g c zs).2 hc S)) →
      (h.next ≤ h'.next ∧ ∀ n b, hf.get n = some b → n < n0 → n0 ≤ h.next → h'.get n = h.get n) →
      ∃ rec : Nat → DRec σ, (rec i).tmps = tmps ∧ (rec i).h = h ∧ (rec i).S = S ∧ (rec i).born = born ∧ RecOK X W ops n0 hf i rec ∧ K (rec ops.size).tmps (rec ops.size).h (rec ops.size).S := by
    intro i tmps h S born o h' S' born' v kd ho ⟨rec, k1, k2, k3, k4, ⟨k5, k6, k8⟩, k7⟩ hq hcl hst
    have hlt := (Array.getElem?_eq_some_iff.1 ho).1
    refine ⟨fun j => if j = i then ⟨tmps, h, S, v, born, kd⟩ else rec j, by simp, by simp, by simp, by simp, ⟨?_, ?_, ?_⟩, ?_⟩
    · intro j oj hj hoj
      by_cases hji : j = i
      · subst hji
        rw [ho] at hoj; cases hoj
        have : ¬ j + 1 = j := by omega
        simp only [if_true, this, if_false]
        exact hq _ k1 k2 k3 k4
      · have : ¬ j + 1 = i := by omega
        simp only [hji, this, if_false]
        exact k5 j oj (by omega) hoj
    · intro j wr f g c zs E Q hc h1 ex v0 hj hjl hk
      by_cases hji : j = i
      · subst hji
        have h2 : ¬ j + 1 = j := by omega
        simp only [if_true, h2, if_false] at hk ⊢
        rw [k3]
        exact hcl wr f g c zs E Q hc h1 ex v0 hk
      · have h2 : ¬ j + 1 = i := by omega
        simp only [hji, h2, if_false] at hk ⊢
        exact k6 j wr f g c zs E Q hc h1 ex v0 (by omega) hjl hk
    · intro j hj hjl n b hb hn hnx
      simp only [if_true] at hnx ⊢
      by_cases hji : j = i
      · subst hji
        exact ⟨by simpa using hnx, by simp⟩
      · simp only [hji, if_false]
        have e1 := hst.2 n b hb hn hnx
        obtain ⟨q1, q2⟩ := k8 j (by omega) hjl n b hb hn (by rw [k2]; have := hst.1; omega)
        exact ⟨q1, by rw [q2, k2, e1]⟩
    · have : ¬ ops.size = i := by omega
      simp only [this, if_false]
      exact k7
  induction R with
  | @nil' i tmps h S born hn hk =>
    refine ⟨fun _ => ⟨tmps, h, S, undef, born, .skip⟩, rfl, rfl, rfl, rfl, ⟨fun j o hj hoj => ?_, fun j wr f g c zs E Q hc h1 ex v0 _ _ hk' => (by cases hk'), fun j _ _ n b _ _ h => ⟨h, rfl⟩⟩, hk⟩
    have := (Array.getElem?_eq_some_iff.1 hoj).1
    omega
  | skip' ho hw hk ih => exact ext undef .skip ho ih (fun q h1 h2 h3 h4 => ⟨h1, hw, rfl, h2, h3, h4⟩) (fun wr f g c zs E Q hc h1 ex v0 hk' => by cases hk') ⟨Nat.le_refl _, fun _ _ _ _ _ => rfl⟩
  | @far' i tmps h S born o v ho hw hb hq hfar hv hk ih => exact ext v .far ho ih (fun q h1 h2 h3 h4 => ⟨h1, hw, hb, hq, hfar, hv, h2, h3, h4⟩) (fun wr f g c zs E Q hc h1 ex v0 hk' => by cases hk') ⟨Nat.le_refl _, fun _ _ _ _ _ => rfl⟩
  | @op' i tmps h S born o v h' S' wr hnf ho hw hb hl hop hst hk ih =>
    refine ext v (.op wr) ho ih (fun q h1 h2 h3 h4 => ⟨h1, hnf, hw, hb, by rw [h2]; exact hl, by rw [h2]; exact h4, by rw [h2, h3]; exact hop⟩) (fun wr f g c zs E Q hc h1 ex v0 hk' => by cases hk') ⟨?_, hst⟩
    cases wr with
    | true => exact op0_next hop.2
    | false =>
      obtain ⟨_, hv, h1, rfl⟩ := hop
      have h2 := op0_next h1
      exact h2
  | @call' i tmps h S born o v h' S' wr f g c zs E Q hc h1 ex v0 hnf ho hw hb hl hok hrun hst hk ih =>
    refine ext v (.call wr f g c zs E Q hc h1 ex v0) ho ih (fun q k1 k2 k3 k4 => ⟨k1, hnf, hw, hb, by rw [k2]; exact hl, by rw [k2]; exact k4, by rw [k2, k3]; exact hok⟩) (fun wr f' g' c' zs' E' Q' hc' h1' ex' v0' hk' => by cases hk'; exact hrun) ⟨?_, hst⟩
    cases wr with
    | true => have := hok.2.back.next; omega
    | false =>
      obtain ⟨_, hv, k1, rfl⟩ := hok
      have := k1.back.next
      show h.next ≤ hv.next
      rw [this]
      show h.next ≤ h.next + _
      omega

theorem Goes.drawF {id : Nat} (W : List Nat) (hB : drawB W ops = true) (hf : AHeap) (hst : ∀ n b, hf.get n = some b → n < h.next ∧ ∃ b0, b = { b0 with ro := true } ∧ h.get n = some b0) (hk : RGF X W ops h.next hf (fun t h S => Goes X fn A (.run k t h S)) 0 tmps h S []) : Goes X fn A (.run (.code (.region id ops true) :: k) tmps h S) := by
  obtain ⟨rec, h1, h2, h3, h4, ⟨h5, h6, h8⟩, h7⟩ := hk.recs
  refine .draw W rec hB ⟨h1, h2, h3, h4⟩ hf (fun n b hb => ?_) (fun j o ho => h5 j o (Nat.zero_le _) ho) (fun j wr f g c zs E Q hc h1 ex v0 hj hkd => h6 j wr f g c zs E Q hc h1 ex v0 (Nat.zero_le _) hj hkd) h7
  obtain ⟨k1, b0, k2, k3⟩ := hst n b hb
  refine ⟨k1, b0, k2, fun j hj => ?_⟩
  rw [(h8 j (Nat.zero_le _) hj n b hb k1 (by rw [h2]; exact Nat.le_refl _)).2, h2]
  exact k3

/-- Without rows that stay. -/
abbrev RG (X : Face P σ) (W : List Nat) (ops : Array Oper) (n0 : Nat) (K : List Value → AHeap → σ → Prop) : Nat → List Value → AHeap → σ → List (Nat × Nat) → Prop := RGF X W ops n0 AHeap.none K
theorem Goes.drawR {id : Nat} (W : List Nat) (hB : drawB W ops = true) (hk : RG X W ops h.next (fun t h S => Goes X fn A (.run k t h S)) 0 tmps h S []) : Goes X fn A (.run (.code (.region id ops true) :: k) tmps h S) :=
  .drawF W hB AHeap.none (fun n b hb => by cases hb) hk
/-- No number of that kind. -/
abbrev NoFar (W : List Nat) (i : Nat) : Prop := farB W i = false
section
variable {W : List Nat} {n0 : Nat} {hf : AHeap} {K : List Value → AHeap → σ → Prop} {born : List (Nat × Nat)}
theorem RG.nil' (hn : ops.size = i) (hk : K tmps h S) : RGF X W ops n0 hf K i tmps h S born := RGF.nil' hn hk
theorem RG.skip' (ho : ops[i]? = some o) (hw : Region.wanted o (yieldedL ops tmps) = false) (hk : RGF X W ops n0 hf K (i + 1) (putL o.dst undef tmps) h S born) : RGF X W ops n0 hf K i tmps h S born := RGF.skip' ho hw hk
end
section
variable {n0 : Nat} {K : List Value → AHeap → σ → Prop} {born : List (Nat × Nat)} {v : Value} {h' : AHeap} {S' : σ}
end

variable {W : List Nat} {n0 : Nat} {Kf : List Value → AHeap → σ → Prop} {born : List (Nat × Nat)}

theorem glue_vis (hl : h.Low) {n0 mask : Nat} : glueH h (visH n0 born mask h) = h := by
  unfold glueH visH
  cases h with
  | mk get next =>
    congr 1
    funext n
    simp only
    split
    · rw [if_neg (by omega)]
      cases hg : get n with
      | none => rfl
      | some b => have := hl n b hg; simp only at this; omega
    · rfl
theorem glue_vis_add (hl : h.Low) {n0 mask : Nat} (ob : Option Blk) : glueH h ((visH n0 born mask h).addO ob) = h.addO ob := by
  unfold glueH visH AHeap.addO
  congr 1
  funext n
  simp only
  by_cases h1 : n = h.next
  · rw [if_pos (by omega), if_pos (by omega), if_pos h1, if_pos h1]
  · rw [if_neg h1]
    by_cases h2 : h.next ≤ n
    · rw [if_pos h2, if_neg (by omega), if_neg h1]
      cases hg : h.get n with
      | none => rfl
      | some b => have := hl n b hg; omega
    · rw [if_neg h2, if_neg h1]
theorem bornN_one (i n : Nat) : bornN i n (n + 1) = [(i, n)] := by
  unfold bornN
  rw [show n + 1 - n = 1 by omega]
  rfl

variable {hf : AHeap}
theorem RG.nil (hn : (ops.size == i) = true) (hk : Kf tmps h S) : RGF X W ops n0 hf Kf i tmps h S born := .nil' (by simpa using hn) hk

theorem RG.still {v : Value} {S' : σ} (hl : h.Low) (ho : ops[i]? = some o) (hw : Region.wanted o (yieldedL ops tmps) = true) (hb : o.op.operands.all operB = true) (hq : wrB W i o = false) (hop : Op0 X o (evA tmps) (visH n0 born ((masksFrom ops.toList []).getD i 0) h) S v (visH n0 born ((masksFrom ops.toList []).getD i 0) h) S')
    (hk : RGF X W ops n0 hf Kf (i + 1) (putL o.dst v tmps) h S' born) (hnf : farB W i = false := by rfl) : RGF X W ops n0 hf Kf i tmps h S born :=
  .op' (h' := h) false hnf ho hw hb (.inl rfl) ⟨hq, _, hop, (glue_vis hl).symm⟩ (fun _ _ _ _ _ => rfl) (by rw [bornN_nil]; exact hk)

theorem RG.skip (ho : ops[i]? = some o) (hw : Region.wanted o (yieldedL ops tmps) = false) (hk : RGF X W ops n0 hf Kf (i + 1) (putL o.dst undef tmps) h S born) : RGF X W ops n0 hf Kf i tmps h S born := .skip' ho hw hk

/-- What was there ahead of the region. -/
def lowH (n0 : Nat) (h : AHeap) : AHeap := ⟨fun n => if n < n0 then h.get n else none, h.next⟩

theorem low_vis {n0 mask : Nat} {n : Nat} {b : Blk} (hb : (lowH n0 h).get n = some b) : (visH n0 born mask h).get n = some { b with ro := true } := by
  unfold lowH at hb
  simp only at hb
  split at hb
  · rename_i hn
    unfold visH
    simp only [hn, true_or, if_true, hb, Option.map_some]
  · cases hb

theorem loadA_low {n0 mask : Nat} {t : TypeId} {a : Addr} {v : Value} (hv : loadA P (lowH n0 h) t a = some v) : loadA P (visH n0 born mask h) t a = some v := by
  unfold loadA at hv ⊢
  cases hg : (lowH n0 h).get a.block with
  | none => rw [hg] at hv; simp at hv
  | some b =>
    rw [hg] at hv; rw [low_vis hg]
    revert hv
    generalize tyAgg P t = q1
    generalize tySize P t = q2
    intro hv
    rcases q1 with _ | q1 | q1 <;> rcases q2 with _ | q2 <;> exact hv
theorem sliceA_low {n0 mask : Nat} {t : TypeId} {x v : Value} {lo hi mx : Option Value} (hv : sliceA P (lowH n0 h) t x lo hi mx = some v) : sliceA P (visH n0 born mask h) t x lo hi mx = some v := by
  unfold sliceA at hv ⊢
  split at hv
  · rename_i a len cap _
    cases hg : (lowH n0 h).get a.block with
    | none =>
      rw [hg] at hv
      split at hv
      · split at hv
        · split at hv
          · rename_i h1 h2; simp_all
          · cases hv
        · cases hv
      · cases hv
    | some b => rw [hg] at hv; rw [low_vis hg]; exact hv
  · exact hv
  · rename_i n el a _ _
    cases hg : (lowH n0 h).get a.block with
    | none => rw [hg] at hv; simp at hv
    | some b =>
      rw [hg] at hv; rw [low_vis hg]
      revert hv
      generalize boundA lo 0 = q1
      generalize boundA hi n = q2
      generalize tySize P el = q3
      intro hv
      rcases q1 with _ | q1 <;> rcases q2 with _ | q2 <;> rcases q3 with _ | q3 <;> exact hv
  · cases hv
theorem valA_low {n0 mask : Nat} {e : Operand → Value} {v : Value} (hv : valA P e (lowH n0 h) o.op = some v) : valA P e (visH n0 born mask h) o.op = some v := by
  cases hl : isLoadO o with
  | false => rw [valA_heap (h' := lowH n0 h) hl]; exact hv
  | true =>
    unfold isLoadO at hl
    split at hl
    · rename_i t x hop
      rw [hop] at hv ⊢
      simp only [valA] at hv ⊢
      split at hv
      · exact loadA_low hv
      · cases hv
    · rename_i t x lo hi mx hop
      rw [hop] at hv ⊢
      exact sliceA_low hv
    · cases hl

/-! ### control, returns, and what a function does -/

theorem Goes.cond {c : Operand} {x y : Code} {b : Bool} (hc : evA tmps c = .bool b) (h1 : b = true → Goes X fn A (.run (.code x :: k) tmps h S)) (h2 : b = false → Goes X fn A (.run (.code y :: k) tmps h S)) : Goes X fn A (.run (.code (.cond c x y) :: k) tmps h S) := by
  refine .ctl (todo' := .code (if b then x else y) :: k) (by simp only [Go.Proofs.Ytceddijolfpppaa.ctl, hc]) ?_
  cases b with
  | true => exact h1 rfl
  | false => exact h2 rfl

/-- The end of a function. -/
theorem Goes.fin {v : Value} {S' : σ} (ht : retB todo = true) (hv : resA P fn tmps h = some v) (hS : S = S') : Goes X fn (fun x => ∃ h1, x = .done v h1 S') (.run todo tmps h S) :=
  .ret ht hv (.here ⟨h, by rw [hS]⟩)

/-- Are all operands such that no renaming turns them by themselves? -/
def opOK : Op → Bool
  | .alloc _ | .ready _ | .waits _ => true
  | .move x | .assign x | .box _ x | .load _ x | .nilCheck x | .unOp _ _ x | .convert _ _ x | .makeInterface _ x | .makeChan _ x | .fieldAddr _ x _ | .field _ x _ | .extract x _ | .panic x => operB x
  | .pick c a b => operB c && operB a && operB b
  | .store _ a v | .binOp _ _ a v _ | .makeSlice _ a v | .indexAddr _ a v | .index _ a v => operB a && operB v
  | .makeFunc _ xs ys => xs.toList.all operB && ys.toList.all operB
  | .build _ ps | .buildSlice _ _ ps => ps.toList.all fun p => operB p.2
  | .slice _ x l h m => operB x && l.all operB && h.all operB && m.all operB
  | .call c => (match c.callee with | .value f => operB f | .invoke r _ => operB r | .builtin _ => true) && c.args.toList.all operB
  | _ => false

theorem all_mem {l : Array Operand} (h : l.toList.all operB = true) : ∀ x ∈ l, operB x = true := fun x hx => List.all_eq_true.1 h x (by simpa using hx)
theorem all_parts {l : Array (Nat × Operand)} (h : (l.toList.all fun p => operB p.2) = true) : ∀ x ∈ (l.toList.map (·.2)).toArray, operB x = true := fun x hx => by
  obtain ⟨p, hp, rfl⟩ := List.mem_map.1 (by simpa using hx : x ∈ l.toList.map (·.2))
  exact List.all_eq_true.1 h p hp

theorem opOK_all {o : Op} (h : opOK o = true) : o.operands.all operB = true := by
  rw [Array.all_eq_true_iff_forall_mem]
  intro x hx
  cases o with
  | makeFunc fn xs ys =>
    simp only [opOK, Bool.and_eq_true] at h
    rcases Array.mem_append.1 hx with hx | hx
    · exact all_mem h.1 x hx
    · exact all_mem h.2 x hx
  | build t ps => exact all_parts h x hx
  | buildSlice t n ps => exact all_parts h x hx
  | call c =>
    simp only [opOK, Bool.and_eq_true] at h
    unfold Op.operands Call.operands at hx
    rcases Array.mem_append.1 hx with hx | hx
    · have h1 := h.1
      cases hc : c.callee <;> simp_all
    · exact all_mem h.2 x hx
  | slice t x' l hh m =>
    simp only [opOK, Bool.and_eq_true] at h
    obtain ⟨⟨⟨h1, h2⟩, h3⟩, h4⟩ := h
    unfold Op.operands at hx
    cases l <;> cases hh <;> cases m <;> simp_all <;> rcases hx with rfl | rfl | rfl | rfl <;> simp_all
  | _ => simp_all [opOK, Op.operands] <;> (try (rcases hx with rfl | rfl | rfl <;> simp_all)) <;> (try (rcases hx with rfl | rfl <;> simp_all))

/-! ### the same, with the operation read off a list -/
theorem at_list (ho : ops.toList[i]? = some o) : ops[i]? = some o := by rw [← ho]; simp


theorem AtL.skip (ho : ops.toList[i]? = some o) (hw : Region.wanted o (yieldedL ops tmps) = false) (hk : At X fn A ops k (i + 1) (putL o.dst undef tmps) h S) : At X fn A ops k i tmps h S := At.skip (at_list ho) hw hk
theorem AtL.val (ho : ops.toList[i]? = some o) (hw : Region.wanted o (yieldedL ops tmps) = true) (hb : opOK o.op = true)
    (hk : ∀ K : List Value → AHeap → Prop, (∀ t h, At X fn A ops k (i + 1) t h S → K t h) → OpK K o tmps h (valA P (evA tmps) h o.op)) : At X fn A ops k i tmps h S := At.val (at_list ho) hw (opOK_all hb) hk
theorem AtL.new (ho : ops.toList[i]? = some o) (hw : Region.wanted o (yieldedL ops tmps) = true) (hb : opOK o.op = true) (hl : h.next < VB)
    (hk : ∀ K : List Value → AHeap → Prop, (∀ t h, At X fn A ops k (i + 1) t h S → K t h) → NewK K o tmps h (newA P (evA tmps) h h.next o.op)) : At X fn A ops k i tmps h S := At.new (at_list ho) hw (opOK_all hb) hl hk
theorem AtL.wr (ho : ops.toList[i]? = some o) (hw : Region.wanted o (yieldedL ops tmps) = true) (hb : opOK o.op = true) (hl : h.next < VB)
    (hk : ∀ K : List Value → AHeap → Prop, (∀ t h, At X fn A ops k (i + 1) t h S → K t h) → WrK K o tmps (wrA P (evA tmps) h o.op)) : At X fn A ops k i tmps h S := At.wr (at_list ho) hw (opOK_all hb) hl hk
theorem AtL.store (ho : ops.toList[i]? = some o) (hw : Region.wanted o (yieldedL ops tmps) = true) (hb : opOK o.op = true)
    (hk : ∀ K : List Value → AHeap → Prop, (∀ t h, At X fn A ops k (i + 1) t h S → K t h) → StoreK K o tmps (storeOp P (evA tmps) h o.op)) : At X fn A ops k i tmps h S := At.store (at_list ho) hw (opOK_all hb) hk

theorem cellsA_low {n0 mask s : Nat} {v : Value} {cs : List Value} (hv : cellsA (lowH n0 h) s v = some cs) : cellsA (visH n0 born mask h) s v = some cs := by
  unfold cellsA at hv ⊢
  split at hv
  · exact hv
  · rename_i a n c
    cases hg : (lowH n0 h).get a.block with
    | none =>
      rw [hg] at hv
      split at hv
      · rename_i h0; simp only [h0, if_true]; exact hv
      · split at hv
        · cases hv
        · cases hv
    | some b => rw [hg] at hv; rw [low_vis hg]; exact hv
  · cases hv
theorem appendA_low {n0 mask : Nat} {t : TypeId} {x y : Value} {r : List Value × TypeId × Nat} (hv : appendA P (lowH n0 h) t x y = some (r.1, r.2.1, r.2.2, true)) : appendA P (visH n0 born mask h) t x y = some (r.1, r.2.1, r.2.2, true) := by
  unfold appendA at hv ⊢
  cases hsl : tySlice P t with
  | none => rw [hsl] at hv; cases hv
  | some el =>
    rw [hsl] at hv
    simp only at hv ⊢
    cases h1 : cellsA (lowH n0 h) ((tySize P el).getD 0) x with
    | none => rw [h1] at hv; simp at hv
    | some olds =>
      cases h2 : cellsA (lowH n0 h) ((tySize P el).getD 0) y with
      | none => rw [h1, h2] at hv; simp at hv
      | some news =>
        rw [h1, h2] at hv
        rw [cellsA_low h1, cellsA_low h2]
        split at hv
        · rename_i s bs z olds' news' a sl sc b n c hs hbs hz ho hn
          cases ho; cases hn
          split at hv
          · rename_i hc
            rw [if_pos hc]
            split at hv
            · exact hv
            · rename_i ad
              cases hg : (lowH n0 h).get ad.block with
              | none => rw [hg] at hv; cases hv
              | some bk =>
                rw [hg] at hv
                simp only [low_vis hg] at hv ⊢
                split at hv
                · rename_i hgr; rw [if_pos hgr]; exact hv
                · split at hv
                  · simp at hv
                  · cases hv
          · cases hv
        · cases hv
theorem newA_low {n0 mask n : Nat} {e : Operand → Value} {v : Value × Option Blk} (hv : newA P e (lowH n0 h) n o.op = some v) (hne : ∀ t x lo hi mx, o.op ≠ .slice t x lo hi mx) : newA P e (visH n0 born mask h) n o.op = some v := by
  revert hv
  generalize o.op = op at hne
  intro hv
  unfold newA at hv ⊢
  split at hv
  · exact hv
  · exact hv
  · exact hv
  · exact hv
  · split at hv
    · rename_i x y t t' hx ht
      split at hv
      · rename_i htt
        split at hv
        · rename_i news el need hap
          have := appendA_low (mask := mask) (born := born) (r := (news, el, need)) hap
          simp only [if_pos htt, this]
          exact hv
        · cases hv
      · cases hv
    · cases hv
  · exact absurd rfl (hne _ _ _ _ _)
  · cases hv

/-- An operation that makes a name: none that a slice's end may ask for. -/
def noEnd : Op → Bool
  | .slice .. => false
  | _ => true

theorem RGL.skip (ho : ops.toList[i]? = some o) (hw : Region.wanted o (yieldedL ops tmps) = false) (hk : RGF X W ops n0 hf Kf (i + 1) (putL o.dst undef tmps) h S born) : RGF X W ops n0 hf Kf i tmps h S born := RG.skip (at_list ho) hw hk
theorem RGL.val (hl : h.Low) (ho : ops.toList[i]? = some o) (hw : Region.wanted o (yieldedL ops tmps) = true) (hb : opOK o.op = true) (hq : wrB W i o = false)
    (hk : ∀ K : List Value → AHeap → Prop, (∀ t h, RGF X W ops n0 hf Kf (i + 1) t h S born → K t h) → OpK K o tmps h (valA P (evA tmps) (lowH n0 h) o.op)) (hnf : farB W i = false := by rfl) : RGF X W ops n0 hf Kf i tmps h S born := by
  have := hk _ (fun _ _ h => h)
  cases hv : valA P (evA tmps) (lowH n0 h) o.op with
  | none => rw [hv] at this; exact this.elim
  | some v => rw [hv] at this; exact RG.still hl (at_list ho) hw (opOK_all hb) hq (.inl ⟨valA_low hv, rfl, rfl⟩) this hnf
theorem RGL.new (hl : h.Low) (ho : ops.toList[i]? = some o) (hw : Region.wanted o (yieldedL ops tmps) = true) (hb : opOK o.op = true) (hq : wrB W i o = false) (hn : h.next < VB) (hne : noEnd o.op = true)
    (hk : ∀ K : List Value → AHeap → Prop, (∀ t h', RGF X W ops n0 hf Kf (i + 1) t h' S ((i, h.next) :: born) → K t h') → NewK K o tmps h (newA P (evA tmps) (lowH n0 h) h.next o.op)) (hnf : farB W i = false := by rfl) : RGF X W ops n0 hf Kf i tmps h S born := by
  have := hk _ (fun _ _ h => h)
  cases hv : newA P (evA tmps) (lowH n0 h) h.next o.op with
  | none => rw [hv] at this; exact this.elim
  | some v =>
    obtain ⟨v, ob⟩ := v
    rw [hv] at this
    refine .op' (h' := h.addO ob) (v := v) (S' := S) false hnf (at_list ho) hw (opOK_all hb) (.inr hn) ⟨hq, _, .inr (.inl ⟨ob, newA_low hv (fun t x lo hi mx he => by rw [he] at hne; cases hne), rfl, rfl⟩), (glue_vis_add hl ob).symm⟩ (fun n b _ h1 h2 => by rw [AHeap.addO_get, if_neg (by omega)]) ?_
    rw [show (h.addO ob).next = h.next + 1 from rfl, bornN_one]
    exact this
theorem RGL.store (ho : ops.toList[i]? = some o) (hw : Region.wanted o (yieldedL ops tmps) = true) (hb : opOK o.op = true)
    (hk : ∀ K : List Value → AHeap → Prop, (∀ t h, RG X W ops n0 Kf (i + 1) t h S born → K t h) → StoreK K o tmps (storeOp P (evA tmps) h o.op)) (hnf : farB W i = false := by rfl) : RG X W ops n0 Kf i tmps h S born := by
  have := hk _ (fun _ _ h => h)
  cases hv : storeOp P (evA tmps) h o.op with
  | none => rw [hv] at this; exact this.elim
  | some h' =>
    rw [hv] at this
    obtain ⟨t, x, y, a, h1, h2, h3⟩ := storeOp_spec hv
    obtain ⟨b, s, _, _, _, _, _, _, _, rfl⟩ := storeA_spec h3
    have hop : Op0 X o (evA tmps) h S undef (h.put a.block { b with cells := spliceA b.cells a.off (evA tmps y).cells.toList }) S := .inr (.inr (.inl ⟨storeOp_wr hv, rfl⟩))
    refine RGF.op' (h' := h.put a.block { b with cells := spliceA b.cells a.off (evA tmps y).cells.toList }) true hnf (at_list ho) hw (opOK_all hb) (.inl rfl) ⟨by unfold wrB isStoreO; rw [h1]; rfl, hop⟩ (fun n b hb => by cases hb) ?_
    rw [AHeap.put_next, bornN_nil]
    exact this
theorem RGL.wr (ho : ops.toList[i]? = some o) (hw : Region.wanted o (yieldedL ops tmps) = true) (hb : opOK o.op = true) (hn : h.next < VB) (hq : wrB W i o = true)
    (hk : ∀ K : List Value → AHeap → Prop, (∀ t h', RG X W ops n0 Kf (i + 1) t h' S (bornN i h.next h'.next ++ born) → K t h') → WrK K o tmps (wrA P (evA tmps) h o.op)) (hnf : farB W i = false := by rfl) : RG X W ops n0 Kf i tmps h S born := by
  have := hk _ (fun _ _ h => h)
  cases hv : wrA P (evA tmps) h o.op with
  | none => rw [hv] at this; exact this.elim
  | some v =>
    obtain ⟨v, h'⟩ := v
    rw [hv] at this
    exact RGF.op' true hnf (at_list ho) hw (opOK_all hb) (by rcases wrA_next1 hv with h | h <;> omega) ⟨hq, .inr (.inr (.inl ⟨hv, rfl⟩))⟩ (fun n b hb => by cases hb) this
theorem RG.prim {g : Func} (hl : h.Low) (ho : ops[i]? = some o) (hw : Region.wanted o (yieldedL ops tmps) = true) (hb : o.op.operands.all operB = true) (hq : wrB W i o = false)
    (hk : CallK (fun f args => P.funcs[f]? = some g ∧ goB g = true ∧ ∃ v S', X.prim f args S v S' ∧ RGF X W ops n0 hf Kf (i + 1) (putL o.dst v tmps) h S' born) (callA P (evA tmps) o.op)) (hnf : farB W i = false := by rfl) : RGF X W ops n0 hf Kf i tmps h S born := by
  cases hv : callA P (evA tmps) o.op with
  | none => rw [hv] at hk; exact hk.elim
  | some x =>
    obtain ⟨f, args⟩ := x
    rw [hv] at hk
    obtain ⟨h1, h2, v, S', h3, h4⟩ := hk
    exact RG.still hl ho hw hb hq (.inr (.inr (.inr ⟨f, g, args, hv, h1, h2, h3, rfl⟩))) h4 hnf
theorem RG.call (hl : h.Low) (ho : ops[i]? = some o) (hw : Region.wanted o (yieldedL ops tmps) = true) (hb : o.op.operands.all operB = true) (hq : wrB W i o = false)
    (hk : CallK (fun f args => ∃ v S', Does X f args [] S v S' ∧ RGF X W ops n0 hf Kf (i + 1) (putL o.dst v tmps) h S' born) (callA P (evA tmps) o.op)) (hnf : farB W i = false := by rfl) : RGF X W ops n0 hf Kf i tmps h S born := by
  cases hv : callA P (evA tmps) o.op with
  | none => rw [hv] at hk; exact hk.elim
  | some x =>
    obtain ⟨f, args⟩ := x
    rw [hv] at hk
    obtain ⟨v, S', ⟨g, c, h1, d1, d2, d3, d4, d5, d6⟩, h4⟩ := hk
    refine .call' (h' := h) false f g c args idE idE (heapL []) h1 [] v hnf ho hw hb (.inl rfl) ⟨hq, _, call_bare h1 hv d1 d2 d3 d4 d5, (glue_vis hl).symm⟩ d6 (fun _ _ _ _ _ => rfl) ?_
    rw [bornN_nil]
    exact h4

theorem Goes.trans {B : Conf σ → Prop} {c : Conf σ} (G : Goes X fn A c) (hAB : ∀ x, A x → Goes X fn B x) : Goes X fn B c := by
  induction G with
  | here h => exact hAB _ h
  | ctl hc _ ih => exact .ctl hc (ih hAB)
  | ret ht hv _ ih => exact .ret ht hv (ih hAB)
  | skip ho hw _ ih => exact .skip ho hw (ih hAB)
  | op ho hw hb hop hl _ ih => exact .op ho hw hb hop hl (ih hAB)
  | call f g c zs E Q hc h1 ex v0 ho hw hb hok hl hrun _ _ ih => exact .call f g c zs E Q hc h1 ex v0 ho hw hb hok hl hrun (ih hAB)
  | draw W rec hB h0 hf hst hgood hcalls _ _ ih => exact .draw W rec hB h0 hf hst hgood hcalls (ih hAB)
  | weak hs hn _ ih => exact .weak hs hn (ih hAB)

theorem Goes.mono {B : Conf σ → Prop} {c : Conf σ} (G : Goes X fn A c) (hAB : ∀ x, A x → B x) : Goes X fn B c := G.trans fun x h => .here (hAB x h)

/-- Where it ends. -/
theorem Goes.out {c : Conf σ} (G : Goes X fn A c) : ∃ c', A c' ∧ Goes X fn (fun x => x = c') c := by
  induction G with
  | here h => exact ⟨_, h, .here rfl⟩
  | ctl hc _ ih => obtain ⟨c', h, G⟩ := ih; exact ⟨c', h, .ctl hc G⟩
  | ret ht hv _ ih => obtain ⟨c', h, G⟩ := ih; exact ⟨c', h, .ret ht hv G⟩
  | skip ho hw _ ih => obtain ⟨c', h, G⟩ := ih; exact ⟨c', h, .skip ho hw G⟩
  | op ho hw hb hop hl _ ih => obtain ⟨c', h, G⟩ := ih; exact ⟨c', h, .op ho hw hb hop hl G⟩
  | call f g c zs E Q hc h1 ex v0 ho hw hb hok hl hrun _ _ ih => obtain ⟨c', h, G⟩ := ih; exact ⟨c', h, .call f g c zs E Q hc h1 ex v0 ho hw hb hok hl hrun G⟩
  | draw W rec hB h0 hf hst hgood hcalls _ _ ih => obtain ⟨c', h, G⟩ := ih; exact ⟨c', h, .draw W rec hB h0 hf hst hgood hcalls G⟩
  | weak hs hn _ ih => obtain ⟨c', h, G⟩ := ih; exact ⟨c', h, .weak hs hn G⟩

/-- A function's contract, out of its walk. -/
theorem Does.mk {f : FuncId} {g : Func} {c : Code} {args : Array Value} {l : List Blk} {S S' : σ} {v : Value} (hf : P.funcs[f]? = some g) (hg : goB g = true) (hb : g.body = some c) (hclo : ∀ u ∈ args.toList, Clo (Kn l.length (X.cnt S)) u) (hv : Hand (X.cnt S') v)
    (hrun : Goes X g (fun x => ∃ h1, x = .done v h1 S') (.run [.code c] (args.toList ++ List.replicate (g.ntmps - args.size) undef) (heapL (l.map some)) S)) : Does X f args l S v S' := by
  obtain ⟨c', ⟨h1, rfl⟩, G⟩ := hrun.out
  exact ⟨g, c, h1, hf, hg, hb, hclo, hv, G⟩

end
end Go.Proofs.Ytceddijolfpppaa
