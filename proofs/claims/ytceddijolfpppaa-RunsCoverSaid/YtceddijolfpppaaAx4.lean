/-
  The abstract machine, part 4: how it goes; that each of its runs is one of the model's.
  No condition: definitions and laws.
-/
import Derived.Test.YtceddijolfpppaaAx3
import Derived.Scope
namespace Go.Proofs.Ytceddijolfpppaa
open Go
set_option linter.unusedSimpArgs false
set_option linter.unusedVariables false

/-- Names from here on are handles: of what the state tells, not the heap. -/
def VB : Nat := 1099511627776

def Same (K : Nat → Prop) (F F' : Emb) : Prop := ∀ n, K n → F.blk n = F'.blk n ∧ F.base n = F'.base n ∧ F.slack n = F'.slack n
theorem Same.refl (K : Nat → Prop) (F : Emb) : Same K F F := fun _ _ => ⟨rfl, rfl, rfl⟩
theorem Same.symm {K : Nat → Prop} {F F' : Emb} (h : Same K F F') : Same K F' F := fun n k => ⟨(h n k).1.symm, (h n k).2.1.symm, (h n k).2.2.symm⟩
theorem Same.trans {K : Nat → Prop} {F F' F'' : Emb} (h : Same K F F') (h' : Same K F' F'') : Same K F F'' := fun n k => ⟨(h n k).1.trans (h' n k).1, (h n k).2.1.trans (h' n k).2.1, (h n k).2.2.trans (h' n k).2.2⟩
theorem Same.mono {K K' : Nat → Prop} {F F' : Emb} (h : Same K F F') (hk : ∀ n, K' n → K n) : Same K' F F' := fun n k => h n (hk n k)

/-- The names that are in use. -/
def Kn (next cnt : Nat) (n : Nat) : Prop := n < next ∨ (VB ≤ n ∧ n < VB + cnt)
/-- A value names nothing else. -/
def Stab (K : Nat → Prop) (F : Emb) (v : Value) : Prop := ∀ F', Same K F F' → ren F' v = ren F v
theorem Stab.move {K K' : Nat → Prop} {F F' : Emb} {v : Value} (h : Stab K F v) (hs : Same K F F') (hk : ∀ n, K n → K' n) : Stab K' F' v :=
  fun F'' h' => (h F'' (hs.trans (h'.mono hk))).trans (h F' hs).symm
theorem Stab.plain {K : Nat → Prop} {F : Emb} {v : Value} (h : plainB v = true) : Stab K F v := fun F' _ => (ren_plain F' h).trans (ren_plain F h).symm
/-- A value names nothing else, wherever they lie. -/
def Clo (K : Nat → Prop) (v : Value) : Prop := ∀ F F' : Emb, Same K F F' → ren F v = ren F' v
theorem Clo.stab {K : Nat → Prop} {v : Value} (h : Clo K v) (F : Emb) : Stab K F v := fun F' hs => (h F F' hs).symm
theorem Clo.plain {K : Nat → Prop} {v : Value} (h : plainB v = true) : Clo K v := fun F F' _ => (ren_plain F h).trans (ren_plain F' h).symm
/-- A value of handles alone. -/
def Hand (c : Nat) (v : Value) : Prop := Clo (fun n => VB ≤ n ∧ n < VB + c) v
theorem Hand.plain {c : Nat} {v : Value} (h : plainB v = true) : Hand c v := Clo.plain h

/-- What others have is as it was; M: the old blocks that may turn. -/
structure Kept (w0 : World) (M : Nat → Prop) (w : World) : Prop where
  os : w.os = w0.os
  tape : w.tape = w0.tape
  output : w.output = w0.output
  size : w0.heap.size ≤ w.heap.size
  block : ∀ b, b < w0.heap.size → ¬ M b → w.heap[b]? = w0.heap[b]?

theorem Kept.refl (w : World) (M : Nat → Prop) : Kept w M w := ⟨rfl, rfl, rfl, Nat.le_refl _, fun _ _ _ => rfl⟩
theorem Kept.trans {w0 w w' : World} {M M' : Nat → Prop} (h : Kept w0 M w) (h' : Kept w M' w') (hm : ∀ b, b < w0.heap.size → M' b → M b) : Kept w0 M w' :=
  ⟨h'.os.trans h.os, h'.tape.trans h.tape, h'.output.trans h.output, Nat.le_trans h.size h'.size, fun b hb hn =>
    (h'.block b (Nat.lt_of_lt_of_le hb h.size) (fun k => hn (hm b hb k))).trans (h.block b hb hn)⟩

/-- Calls that are known by what they do to a state: what the state is in a world. -/
structure Face (P : Program) (σ : Type) where
  mix : P.follows .mixedOrders = true
  cnt : σ → Nat
  rep : Emb → σ → World → Prop
  fp : Emb → σ → Nat → Prop
  prim : FuncId → Array Value → σ → Value → σ → Prop
  rep_same : ∀ F F' S w, Same (fun n => VB ≤ n ∧ n < VB + cnt S) F F' → rep F S w → rep F' S w ∧ ∀ b, fp F' S b → fp F S b
  rep_kept : ∀ F S w w', rep F S w → w.heap.size ≤ w'.heap.size → (∀ b, fp F S b → w'.heap[b]? = w.heap[b]?) → rep F S w'
  fp_low : ∀ F S w b, rep F S w → fp F S b → b < w.heap.size
  prim_hand : ∀ f args S v S', prim f args S v S' → cnt S ≤ cnt S' ∧ Hand (cnt S') v
  prim_ok : ∀ f args S v S' F w, prim f args S v S' → rep F S w → Calls P f (args.map (ren F)) w fun e w' => ∃ F', Same (fun n => n < VB + cnt S) F F' ∧ e = .returned (ren F' v) ∧ rep F' S' w' ∧
    Kept w (fp F S) w' ∧ ∀ b, fp F' S' b → fp F S b ∨ w.heap.size ≤ b

inductive Conf (σ : Type) where
  | run (todo : List Item) (tmps : List Value) (h : AHeap) (S : σ)
  | done (v : Value) (h : AHeap) (S : σ)

/-- Control alone. -/
def ctl (tmps : List Value) : List Item → Option (List Item)
  | .code .skip :: k | .code (.label _) :: k | .inBlock _ :: k => some k
  | .code (.seq a b) :: k => some (.code a :: .code b :: k)
  | .code (.cond c x y) :: k => (match evA tmps c with | .bool b => some (.code (if b then x else y) :: k) | _ => none)
  | .code (.block id b) :: k => some (.code b :: .inBlock id :: k)
  | .code (.loop b) :: k | .inLoop b :: k => some (.code b :: .inLoop b :: k)
  | .code (.exit id) :: k => exitTo id k
  | .code (.goto l) :: k => gotoIn l k
  | .code (.region _ ops false) :: k => some (.inRegion ops (List.range ops.size) :: k)
  | .inRegion _ [] :: k => some k
  | .code (.scope b) :: k => some (.code b :: .inScope b :: k)
  | .inScope _ :: k => some k
  | _ => none

def retB : List Item → Bool
  | [] | .code .ret :: _ => true
  | _ => false

def res1A (P : Program) (tmps : List Value) (h : AHeap) : ResultVar → Option Value
  | .tmp t => some (tmps.getD t undef)
  | .cell a t => (match tmps.getD a undef with | .pointer (some ad) => loadA P h t ad | _ => none)

def resA (P : Program) (fn : Func) (tmps : List Value) (h : AHeap) : Option Value := match fn.results.toList with
  | [] => some (.tuple #[])
  | [r] => res1A P tmps h r
  | [r, q] => (match res1A P tmps h r, res1A P tmps h q with | some x, some y => some (.tuple #[x, y]) | _, _ => none)
  | [r, q, s] => (match res1A P tmps h r, res1A P tmps h q, res1A P tmps h s with | some x, some y, some z => some (.tuple #[x, y, z]) | _, _, _ => none)
  | _ => none

def putL (dst : Option Tmp) (v : Value) (tmps : List Value) : List Value := match dst with
  | some d => tmps.set d v
  | none => tmps

def yieldedL (ops : Array Oper) (tmps : List Value) (j : Nat) : Option Bool := match ((ops[j]?).bind (·.dst)).bind (tmps[·]?) with
  | some (.bool b) => some b
  | _ => none

/-- A function, as it is entered. -/
def enterL (fn : Func) (c : Code) (args : Array Value) : List Item × List Value := ([.code c], args.toList ++ List.replicate (fn.ntmps - args.size) undef)

/-- A name for a name. -/
def nameE (r : Nat → Nat) : Emb := ⟨r, fun _ => 0, fun _ => 0⟩
def goB (fn : Func) : Bool := fn.body.isSome && !(fn.name == "runtime.NumGoroutine")

/-- What the heap is for a function that is called: rows, or parts of rows, under names of its own. -/
structure Lends (cnt : Nat) (E : Emb) (h hc : AHeap) : Prop where
  clo : ∀ n b, hc.get n = some b → ∀ v ∈ b.cells, Clo (Kn hc.next cnt) v
  low : ∀ n b, hc.get n = some b → n < hc.next
  row : ∀ n b, hc.get n = some b → ∃ b0, h.get (E.blk n) = some b0 ∧ b0.elem = b.elem ∧
    ((b0.cells = b.cells.map (ren E) ∧ E.base n = 0 ∧ E.slack n = 0 ∧ (b.grow = b0.grow ∨ b.grow = none) ∧ (b.ro = false → b0.ro = false)) ∨
     (b.ro = true ∧ b.grow = none ∧ ∃ l r, b0.cells = l ++ b.cells.map (ren E) ++ r ∧ l.length = E.base n))
  apart : ∀ n m b c, hc.get n = some b → hc.get m = some c → n ≠ m → b.ro = false → E.blk n ≠ E.blk m
  lim : hc.next ≤ VB
  hand : ∀ n, VB ≤ n → E.blk n = n ∧ E.base n = 0 ∧ E.slack n = 0

/-- What comes back: E names what was lent; ex are the further names that are handed over. -/
structure Back (cnt : Nat) (E Q : Emb) (h hc h1 h' : AHeap) (ex : List Nat) (v0 v : Value) : Prop where
  next : h'.next = h.next + ex.length
  lent : ∀ n, n < hc.next → Q.blk n = E.blk n ∧ Q.base n = E.base n ∧ Q.slack n = E.slack n
  more : ∀ j n, ex[j]? = some n → hc.next ≤ n ∧ n < VB ∧ Q.blk n = h.next + j ∧ Q.base n = 0 ∧ Q.slack n = 0
  hand : ∀ n, VB ≤ n → Q.blk n = n ∧ Q.base n = 0 ∧ Q.slack n = 0
  told : v = ren Q v0
  clo : Clo (fun n => (∃ b, hc.get n = some b) ∨ n ∈ ex ∨ (VB ≤ n ∧ n < VB + cnt)) v0
  rows : ∀ n b, h1.get n = some b → ((∃ b0, hc.get n = some b0 ∧ b0.ro = false) ∨ n ∈ ex) → ∀ u ∈ b.cells, Clo (fun n => (∃ b, hc.get n = some b) ∨ n ∈ ex ∨ (VB ≤ n ∧ n < VB + cnt)) u
  fresh : ∀ j n, ex[j]? = some n → h'.get (h.next + j) = (h1.get n).map fun b => { b with cells := b.cells.map (ren Q) }
  old : ∀ m, (m < h.next ∨ h'.next ≤ m) → (h'.get m = h.get m ∧ ∀ n b, hc.get n = some b → b.ro = false → E.blk n ≠ m) ∨
    ∃ n b0, hc.get n = some b0 ∧ b0.ro = false ∧ E.blk n = m ∧ h'.get m = (h1.get n).map fun b => { b with cells := b.cells.map (ren Q) }
  own : ∀ n b, h1.get n = some b → ((∃ b0, hc.get n = some b0 ∧ b0.ro = false) ∨ n ∈ ex) → b.ro = false
  nodup : ex.Nodup

/-! ### a region that draws its order: what each of its operations does, in the order of the text -/

def isCallO (o : Oper) : Bool := match o.op with | .call c => (match c.callee with | .builtin _ => false | _ => true) | _ => false
def isStoreO (o : Oper) : Bool := match o.op with | .store .. => true | _ => false
def isNewO (o : Oper) : Bool := match o.op with | .alloc _ | .box .. | .buildSlice .. | .makeSlice .. | .slice .. => true | .call c => (match c.callee with | .builtin .append => true | _ => false) | _ => false
def isLoadO (o : Oper) : Bool := match o.op with | .load .. | .slice .. => true | _ => false
def loudO (o : Oper) : Bool := isCallO o || isStoreO o || isNewO o || isLoadO o
/-- Those that may write rows: stores, and what W names. -/
def wrB (W : List Nat) (i : Nat) (o : Oper) : Bool := isStoreO o || W.contains i

/-- Those that only look at rows that stay: they may stand anywhere. (W bears their numbers, by a million more.) -/
def farB (W : List Nat) (i : Nat) : Bool := W.contains (i + 1000000)
def loudB (W : List Nat) (i : Nat) (o : Oper) : Bool := loudO o && !farB W i
def pairD (W : List Nat) (ops : Array Oper) (ms : List Nat) (i j : Nat) : Bool := match ops[i]?, ops[j]? with
  | some oi, some oj =>
    let meet := (match oi.dst with | some d => (namesOf ops oj).contains d | none => false) || (match oj.dst with | some d => (namesOf ops oi).contains d | none => false) ||
      (wrB W i oi && loudB W j oj) || (loudB W i oi && wrB W j oj) || (isCallO oi && isCallO oj)
    !meet || (ms.getD j 0).testBit i
  | _, _ => false

/-- Those that meet keep their row. -/
def drawB (W : List Nat) (ops : Array Oper) : Bool := Region.noSelect ops && (List.range ops.size).all fun j => (match ops[j]? with | none => true | some oj => (depsOf oj).all (fun d => decide (d < j)) && (!wrB W j oj || loudB W j oj)) && (List.range j).all fun i => pairD W ops (masksFrom ops.toList []) i j

/-- An operation that calls no function that is walked. -/
def Op0 {P : Program} {σ : Type} (X : Face P σ) (o : Oper) (e : Operand → Value) (h : AHeap) (S : σ) (v : Value) (h' : AHeap) (S' : σ) : Prop :=
  (valA P e h o.op = some v ∧ h' = h ∧ S' = S) ∨ (∃ ob, newA P e h h.next o.op = some (v, ob) ∧ h' = h.addO ob ∧ S' = S) ∨ (wrA P e h o.op = some (v, h') ∧ S' = S) ∨
  (∃ f g args, callA P e o.op = some (f, args) ∧ P.funcs[f]? = some g ∧ goB g = true ∧ X.prim f args S v S' ∧ h' = h)

/-- A call of a function that is walked. -/
structure CallOK {P : Program} {σ : Type} (X : Face P σ) (o : Oper) (e : Operand → Value) (h : AHeap) (S : σ) (v : Value) (h' : AHeap) (S' : σ) (f : FuncId) (g : Func) (c : Code) (zs : Array Value) (E Q : Emb) (hc h1 : AHeap) (ex : List Nat) (v0 : Value) : Prop where
  call : callA P e o.op = some (f, zs.map (ren E))
  func : P.funcs[f]? = some g
  go : goB g = true
  body : g.body = some c
  lends : Lends (X.cnt S) E h hc
  clo : ∀ u ∈ zs.toList, Clo (Kn hc.next (X.cnt S)) u
  back : Back (X.cnt S') E Q h hc h1 h' ex v0 v

inductive Kind where
  | skip
  | far
  | op (wr : Bool)
  | call (wr : Bool) (f : FuncId) (g : Func) (c : Code) (zs : Array Value) (E Q : Emb) (hc h1 : AHeap) (ex : List Nat) (v0 : Value)

structure DRec (σ : Type) where
  tmps : List Value
  h : AHeap
  S : σ
  v : Value
  born : List (Nat × Nat)
  kind : Kind

/-- What an operation may look at: what was there ahead of the region, and what those made that it waits for. It writes nothing there. -/
def visH (n0 : Nat) (born : List (Nat × Nat)) (mask : Nat) (h : AHeap) : AHeap := ⟨fun n => if n < n0 ∨ born.any (fun p => p.2 == n && mask.testBit p.1) = true then (h.get n).map (fun b => { b with ro := true }) else none, h.next⟩
/-- Further rows. -/
def glueH (h hv : AHeap) : AHeap := ⟨fun n => if h.next ≤ n then (if n < hv.next then hv.get n else none) else h.get n, hv.next⟩
def bornN (i a b : Nat) : List (Nat × Nat) := (List.range' a (b - a)).map fun n => (i, n)

/-- The rows that stay, under the next name. -/
def atN (hf : AHeap) (n : Nat) : AHeap := ⟨hf.get, n⟩
def GoodK {P : Program} {σ : Type} (X : Face P σ) (W : List Nat) (ops : Array Oper) (n0 : Nat) (hf : AHeap) (i : Nat) (o : Oper) (p q : DRec σ) : Prop :=
  q.tmps = putL o.dst p.v p.tmps ∧ match p.kind with
  | .skip => Region.wanted o (yieldedL ops p.tmps) = false ∧ p.v = undef ∧ q.h = p.h ∧ q.S = p.S ∧ q.born = p.born
  | .far => Region.wanted o (yieldedL ops p.tmps) = true ∧ o.op.operands.all operB = true ∧ wrB W i o = false ∧ farB W i = true ∧ valA P (evA p.tmps) hf o.op = some p.v ∧ q.h = p.h ∧ q.S = p.S ∧ q.born = p.born
  | .op wr => farB W i = false ∧ Region.wanted o (yieldedL ops p.tmps) = true ∧ o.op.operands.all operB = true ∧ (q.h.next = p.h.next ∨ q.h.next ≤ VB) ∧ q.born = bornN i p.h.next q.h.next ++ p.born ∧
    (if wr then wrB W i o = true ∧ Op0 X o (evA p.tmps) p.h p.S p.v q.h q.S
     else wrB W i o = false ∧ ∃ hv, Op0 X o (evA p.tmps) (visH n0 p.born ((masksFrom ops.toList []).getD i 0) p.h) p.S p.v hv q.S ∧ q.h = glueH p.h hv)
  | .call wr f g c zs E Q hc h1 ex v0 => farB W i = false ∧ Region.wanted o (yieldedL ops p.tmps) = true ∧ o.op.operands.all operB = true ∧ (q.h.next = p.h.next ∨ q.h.next ≤ VB) ∧ q.born = bornN i p.h.next q.h.next ++ p.born ∧
    (if wr then wrB W i o = true ∧ CallOK X o (evA p.tmps) p.h p.S p.v q.h q.S f g c zs E Q hc h1 ex v0
     else wrB W i o = false ∧ ∃ hv, CallOK X o (evA p.tmps) (visH n0 p.born ((masksFrom ops.toList []).getD i 0) p.h) p.S p.v hv q.S f g c zs E Q hc h1 ex v0 ∧ q.h = glueH p.h hv)

inductive Goes {P : Program} {σ : Type} (X : Face P σ) : Func → (Conf σ → Prop) → Conf σ → Prop
  | here {fn A c} (h : A c) : Goes X fn A c
  | ctl {fn A todo todo' tmps h S} (hc : ctl tmps todo = some todo') (hk : Goes X fn A (.run todo' tmps h S)) : Goes X fn A (.run todo tmps h S)
  | ret {fn A todo tmps h S v} (ht : retB todo = true) (hv : resA P fn tmps h = some v) (hk : Goes X fn A (.done v h S)) : Goes X fn A (.run todo tmps h S)
  | skip {fn A ops i rest k tmps h S o} (ho : ops[i]? = some o) (hw : Region.wanted o (yieldedL ops tmps) = false)
      (hk : Goes X fn A (.run (.inRegion ops rest :: k) (putL o.dst undef tmps) h S)) : Goes X fn A (.run (.inRegion ops (i :: rest) :: k) tmps h S)
  | op {fn A ops i rest k tmps h S o v h' S'} (ho : ops[i]? = some o) (hw : Region.wanted o (yieldedL ops tmps) = true) (hb : o.op.operands.all operB = true) (hop : Op0 X o (evA tmps) h S v h' S') (hl : h'.next = h.next ∨ h'.next ≤ VB)
      (hk : Goes X fn A (.run (.inRegion ops rest :: k) (putL o.dst v tmps) h' S')) : Goes X fn A (.run (.inRegion ops (i :: rest) :: k) tmps h S)
  | call {fn A ops i rest k tmps h S o v h' S'} (f : FuncId) (g : Func) (c : Code) (zs : Array Value) (E Q : Emb) (hc h1 : AHeap) (ex : List Nat) (v0 : Value) (ho : ops[i]? = some o) (hw : Region.wanted o (yieldedL ops tmps) = true) (hb : o.op.operands.all operB = true)
      (hok : CallOK X o (evA tmps) h S v h' S' f g c zs E Q hc h1 ex v0) (hl : h'.next = h.next ∨ h'.next ≤ VB) (hrun : Goes X g (fun x => x = .done v0 h1 S') (.run (enterL g c zs).1 (enterL g c zs).2 hc S))
      (hk : Goes X fn A (.run (.inRegion ops rest :: k) (putL o.dst v tmps) h' S')) : Goes X fn A (.run (.inRegion ops (i :: rest) :: k) tmps h S)
  | draw {fn A id ops k tmps h S} (W : List Nat) (rec : Nat → DRec σ) (hB : drawB W ops = true) (h0 : (rec 0).tmps = tmps ∧ (rec 0).h = h ∧ (rec 0).S = S ∧ (rec 0).born = []) (hf : AHeap) (hstill : ∀ n b, hf.get n = some b → n < h.next ∧ ∃ b0, b = { b0 with ro := true } ∧ ∀ j, j ≤ ops.size → (rec j).h.get n = some b0) (hgood : ∀ i o, ops[i]? = some o → GoodK X W ops h.next hf i o (rec i) (rec (i + 1)))
      (hcalls : ∀ i wr f g c zs E Q hc h1 ex v0, i < ops.size → (rec i).kind = .call wr f g c zs E Q hc h1 ex v0 → Goes X g (fun x => x = .done v0 h1 (rec (i + 1)).S) (.run (enterL g c zs).1 (enterL g c zs).2 hc (rec i).S))
      (hk : Goes X fn A (.run k (rec ops.size).tmps (rec ops.size).h (rec ops.size).S)) : Goes X fn A (.run (.code (.region id ops true) :: k) tmps h S)
  | weak {fn A todo tmps h h0 S} (hs : ∀ n b, h0.get n = some b → ∃ b', h.get n = some b' ∧ b'.cells = b.cells ∧ b'.elem = b.elem ∧ (b.ro = false → b'.ro = false) ∧ (b.grow = b'.grow ∨ b.grow = none)) (hn : h0.next = h.next) (hk : Goes X fn A (.run todo tmps h0 S)) : Goes X fn A (.run todo tmps h S)


/-! ### each run is one of the model's -/

section
variable {P : Program} {σ : Type} {X : Face P σ}

/-- The frame of the model. -/
def actF (F : Emb) (tmps : List Value) : Act := ⟨(tmps.map (ren F)).toArray, []⟩

theorem actF_eval (F : Emb) (tmps : List Value) (x : Operand) (hx : operB x = true) : (actF F tmps).eval x = ren F (evA tmps x) := by
  cases x with
  | tmp t =>
    simp only [Act.eval, actF, evA]
    by_cases h : t < tmps.length
    · simp [h, List.getD]
    · simp [h, List.getD, ren_undef]
  | const v => exact (ren_plain F hx).symm
  | global g => cases hx
  | func f => simp [Act.eval, evA]

theorem actF_put (F : Emb) (tmps : List Value) (dst : Option Tmp) (v : Value) : (actF F tmps).put dst (ren F v) = actF F (putL dst v tmps) := by
  cases dst with
  | none => rfl
  | some d => simp [actF, Act.put, putL, List.map_set]

theorem actF_undef (F : Emb) (tmps : List Value) (dst : Option Tmp) : (actF F tmps).put dst undef = actF F (putL dst undef tmps) := by
  rw [← actF_put, ren_undef]

theorem ren_bool_iff (F : Emb) (v : Value) : (match some (ren F v) with | some (.bool b) => some b | _ => none) = (match some v with | some (.bool b) => some b | _ => (none : Option Bool)) := by
  cases v with
  | pointer a => cases a <;> simp
  | slice a n c => cases a <;> simp
  | _ => simp [ren]

theorem actF_yielded (F : Emb) (ops : Array Oper) (tmps : List Value) (j : Nat) : yielded ops (actF F tmps).tmps j = yieldedL ops tmps j := by
  unfold yielded yieldedL actF
  cases h : (ops[j]?).bind (·.dst) with
  | none => rfl
  | some d =>
    simp only [Option.bind_some, List.getElem?_toArray, List.getElem?_map]
    cases hd : tmps[d]? with
    | none => rfl
    | some v => exact ren_bool_iff F v

theorem actF_wanted (F : Emb) (ops : Array Oper) (tmps : List Value) (o : Oper) : Region.wanted o (yielded ops (actF F tmps).tmps) = Region.wanted o (yieldedL ops tmps) := by
  unfold Region.wanted
  cases o.guard with
  | none => rfl
  | some g => simp only [actF_yielded]

theorem actF_congr {K : Nat → Prop} {F F' : Emb} {tmps : List Value} (h : ∀ v ∈ tmps, Stab K F v) (hs : Same K F F') : actF F' tmps = actF F tmps := by
  unfold actF
  congr 2
  exact List.map_congr_left fun v hv => h v hv F' hs

/-- What holds between. K: the names that are known. -/
structure AInv (X : Face P σ) (F : Emb) (w0 : World) (M K : Nat → Prop) (vs : Value → Prop) (h : AHeap) (S : σ) (w : World) : Prop where
  holds : Holds F h w
  rep : X.rep F S w
  vst : ∀ v, vs v → Stab K F v
  hst : ∀ n b, h.get n = some b → ∀ v ∈ b.cells, Stab K F v
  hk : ∀ n b, h.get n = some b → K n ∧ n < VB
  hand : ∀ n, VB ≤ n → n < VB + X.cnt S → K n
  klim : ∀ n, K n → n < VB + X.cnt S
  kept : Kept w0 M w
  own : ∀ n b, h.get n = some b → b.ro = false → F.blk n < w0.heap.size → M (F.blk n)
  fown : ∀ b, X.fp F S b → b < w0.heap.size → M b
  sep : ∀ n b, h.get n = some b → ¬ X.fp F S (F.blk n)

def vals : Conf σ → List Value
  | .run _ tmps _ _ => tmps
  | .done v _ _ => [v]
def heap : Conf σ → AHeap
  | .run _ _ h _ => h
  | .done _ h _ => h
def st : Conf σ → σ
  | .run _ _ _ S => S
  | .done _ _ S => S
def InvC (X : Face P σ) (F : Emb) (w0 : World) (M : Nat → Prop) (c : Conf σ) (w : World) : Prop := AInv X F w0 M (Kn (heap c).next (X.cnt (st c))) (fun v => v ∈ vals c) (heap c) (st c) w ∧ (heap c).next ≤ VB

def Stands (P : Program) (F : Emb) (b : Frame) (cs : List Frame) : Conf σ → World → Machine → Prop
  | .run todo tmps _ _, w, m => m = lone (b.at (actF F tmps) todo) cs w
  | .done v _ _, w, m => ∃ fr, m = lone fr cs w ∧ fr.fn = b.fn ∧ fr.leaving P w (.returned (ren F v))

theorem block_low {w : World} {b : Nat} {o : Obj} (h : w.heap[b]? = some o) : b < w.heap.size := (Array.getElem?_eq_some_iff.1 h).1

theorem Holds.same {F F' : Emb} {h : AHeap} {w : World} {K : Nat → Prop} (H : Holds F h w) (hk : ∀ n b, h.get n = some b → K n) (hst : ∀ n b, h.get n = some b → ∀ v ∈ b.cells, Stab K F v) (hs : Same K F F') : Holds F' h w where
  row := fun n b hb => by
    obtain ⟨pre, post, fr, h1, h2, h3, h4, h5⟩ := H.row n b hb
    have hn := hs n (hk n b hb)
    refine ⟨pre, post, fr, ?_, by rw [← hn.2.1]; exact h2, h3, by rw [← hn.2.2]; exact h4, by rw [← hn.2.2]; exact h5⟩
    rw [← hn.1, h1]
    congr 5
    exact List.map_congr_left fun v hv => (hst n b hb v hv F' hs).symm
  apart := fun n m b c hb hc hne hro => by
    rw [← (hs n (hk n b hb)).1, ← (hs m (hk m c hc)).1]
    exact H.apart n m b c hb hc hne hro

theorem Holds.kept {F : Emb} {h : AHeap} {w w' : World} (H : Holds F h w) (hk : ∀ n b, h.get n = some b → w'.heap[F.blk n]? = w.heap[F.blk n]?) : Holds F h w' where
  row := fun n b hb => by
    obtain ⟨pre, post, fr, h1, h2, h3⟩ := H.row n b hb
    exact ⟨pre, post, fr, by rw [hk n b hb]; exact h1, h2, h3⟩
  apart := H.apart

theorem Holds.blk_lt {F : Emb} {h : AHeap} {w : World} (H : Holds F h w) {n : Nat} {b : Blk} (hb : h.get n = some b) : F.blk n < w.heap.size := by
  obtain ⟨pre, post, fr, h1, _⟩ := H.row n b hb
  exact block_low h1

/-- One operation that yields a value in the same world. -/
theorem step_value {b : Frame} {a : Act} {ops : Array Oper} {i : Nat} {rest : List Nat} {k : List Item} {cs : List Frame} {w w' : World} {o : Oper} {v : Value} (ho : ops[i]? = some o) (hw : Region.wanted o (yielded ops a.tmps) = true)
    (hr : (execOp a.eval o).run P w = .ok (.value v) w') : step P (lone (b.at a (.inRegion ops (i :: rest) :: k)) cs w) = .next (lone (b.at (a.put o.dst v) (.inRegion ops rest :: k)) cs w') := by
  have hg := stepG_op (P := P) (b := b) (k := k) (cs := cs) (w := w) (rest := rest) ho hw
  have hfin : (b.at a (.inRegion ops (i :: rest) :: k)).finish v = b.at (a.put o.dst v) (.inRegion ops rest :: k) := by
    rw [Frame.finish_at, ho]; rfl
  refine step_lone_go ?_
  rw [hg, ← hfin]; simp [stepG.apply, hr]

theorem step_skipv {b : Frame} {a : Act} {ops : Array Oper} {i : Nat} {rest : List Nat} {k : List Item} {cs : List Frame} {w w' : World} {o : Oper} (ho : ops[i]? = some o) (hw : Region.wanted o (yielded ops a.tmps) = true)
    (hr : (execOp a.eval o).run P w = .ok .skip w') : step P (lone (b.at a (.inRegion ops (i :: rest) :: k)) cs w) = .next (lone (b.at (a.put o.dst undef) (.inRegion ops rest :: k)) cs w') := by
  have hg := stepG_op (P := P) (b := b) (k := k) (cs := cs) (w := w) (rest := rest) ho hw
  have hfin : (b.at a (.inRegion ops (i :: rest) :: k)).finish undef = b.at (a.put o.dst undef) (.inRegion ops rest :: k) := by
    rw [Frame.finish_at, ho]; rfl
  refine step_lone_go ?_
  rw [hg, ← hfin]; simp [stepG.apply, hr]

theorem step_callv {b : Frame} {a : Act} {ops : Array Oper} {i : Nat} {rest : List Nat} {k : List Item} {cs : List Frame} {w w1 : World} {o : Oper} {f : FuncId} {args : Array Value} {v : Value} {Q : World → Prop} (ho : ops[i]? = some o) (hw : Region.wanted o (yielded ops a.tmps) = true)
    (hr : (execOp a.eval o).run P w = .ok (.enter f args) w1) (hc : Calls P f args w1 fun e w' => e = .returned v ∧ Q w') :
    ∃ w', Q w' ∧ Steps P (lone (b.at a (.inRegion ops (i :: rest) :: k)) cs w) (lone (b.at (a.put o.dst v) (.inRegion ops rest :: k)) cs w') := by
  have hg := stepG_op (P := P) (b := b) (k := k) (cs := cs) (w := w) (rest := rest) ho hw
  have hfin : (b.at a (.inRegion ops (i :: rest) :: k)).finish v = b.at (a.put o.dst v) (.inRegion ops rest :: k) := by
    rw [Frame.finish_at, ho]; rfl
  obtain ⟨e, w'', fr, ⟨rfl, hq⟩, hsteps, _, hleave⟩ := hc (b.at a (.inRegion ops (i :: rest) :: k) :: cs)
  have henter : step P (lone (b.at a (.inRegion ops (i :: rest) :: k)) cs w) = .next (lone (Frame.enter P f args .normal) (b.at a (.inRegion ops (i :: rest) :: k) :: cs) w1) :=
    step_lone_go (by rw [hg]; simp [stepG.apply, hr, Frame.at])
  refine ⟨w'', hq, .head henter (Steps.trans hsteps (.one ?_))⟩
  rw [← hfin]; exact step_leave_returned hleave

theorem step_ctl {tmps : List Value} {todo todo' : List Item} (F : Emb) (h : ctl tmps todo = some todo') (b : Frame) (cs : List Frame) (w : World) :
    step P (lone (b.at (actF F tmps) todo) cs w) = .next (lone (b.at (actF F tmps) todo') cs w) := by
  unfold ctl at h
  split at h
  · cases h; exact step_skip
  · cases h; exact step_label
  · cases h; exact step_inBlock
  · cases h; exact step_seq
  · rename_i c x y k
    split at h
    · rename_i t ht
      cases h
      refine step_cond ?_
      cases c with
      | tmp t' => rw [actF_eval F tmps _ rfl, ht, ren_bool]
      | const v => simpa [Act.eval, evA] using ht
      | global g => simp [evA, undef] at ht
      | func f => simp [evA] at ht
    · cases h
  · cases h; exact step_block
  · cases h; exact step_loop
  · cases h; exact step_inLoop
  · exact step_exit h
  · exact step_goto h
  · cases h; exact step_region
  · cases h; exact step_region_end
  · cases h; exact step_scope
  · cases h; exact step_inScope
  · cases h

/-- A result, as the model reads it. -/
def res1M (tmps : Array Value) : ResultVar → Sem Value
  | .tmp t => pure (tmps.getD t undef)
  | .cell a t => do loadVar t (← asAddr (tmps.getD a undef))

theorem results_eq (fn : Func) (tmps : Array Value) : results fn tmps = (do
    let vs ← fn.results.mapM (res1M tmps)
    pure (if h : vs.size = 1 then vs[0] else .tuple vs)) := by
  unfold results res1M
  congr 2

theorem res1A_run {F : Emb} {h : AHeap} {w : World} {tmps : List Value} {r : ResultVar} {v : Value} (H : Holds F h w) (hv : res1A P tmps h r = some v) :
    (res1M (actF F tmps).tmps r).run P w = .ok (ren F v) w := by
  have hget : ∀ t, (actF F tmps).tmps.getD t undef = ren F (tmps.getD t undef) := fun t => actF_eval F tmps (.tmp t) rfl
  cases r with
  | tmp t =>
    simp only [res1A, Option.some.injEq] at hv
    subst hv
    simp only [res1M, hget, Sem.run_pure]
  | cell a t =>
    simp only [res1A] at hv
    split at hv
    · rename_i ad had
      have := loadA_run H hv
      simp only [Instr.loadAt, Instr.sureAddr, Sem.run_bind, Sem.run_pure, Result.andThen_ok] at this
      simp only [res1M, hget, had, ren_psome, asAddr, Sem.run_bind, Sem.run_pure, Result.andThen_ok, this]
    · cases hv

theorem resA_run {F : Emb} {h : AHeap} {w : World} {tmps : List Value} {fn : Func} {v : Value} (H : Holds F h w) (hv : resA P fn tmps h = some v) :
    (results fn (actF F tmps).tmps).run P w = .ok (ren F v) w := by
  unfold resA at hv
  split at hv
  · rename_i hr
    cases hv
    obtain hr' : fn.results = #[] := by rw [← Array.toArray_toList (xs := fn.results), hr]
    simp [results, hr']
  · rename_i r hr
    obtain hr' : fn.results = #[r] := by rw [← Array.toArray_toList (xs := fn.results), hr]
    have := res1A_run H hv
    rw [results_eq, hr']
    simp [this]
  · rename_i r q hr
    obtain hr' : fn.results = #[r, q] := by rw [← Array.toArray_toList (xs := fn.results), hr]
    split at hv
    · rename_i x y hx hy
      cases hv
      have h1 := res1A_run H hx
      have h2 := res1A_run H hy
      rw [results_eq, hr']
      simp [Sem.run_bind, h1, h2]
    · cases hv
  · rename_i r q s hr
    obtain hr' : fn.results = #[r, q, s] := by rw [← Array.toArray_toList (xs := fn.results), hr]
    split at hv
    · rename_i x y z hx hy hz
      cases hv
      have h1 := res1A_run H hx
      have h2 := res1A_run H hy
      have h3 := res1A_run H hz
      rw [results_eq, hr']
      simp [Sem.run_bind, h1, h2, h3]
    · cases hv
  · cases hv

end
end Go.Proofs.Ytceddijolfpppaa
