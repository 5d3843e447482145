/-
  The abstract machine, part 4: how it goes; that each of its runs is one of the model's.
  No condition: definitions and laws.
-/
import Derived.Test.YtjdbknnacaacaaaUAx2
import Derived.Scope
namespace Go.Proofs.Ytjdbknnacaacaaa
open Go
set_option linter.unusedSimpArgs false
set_option linter.unusedVariables false
def VB : Nat := 1099511627776
def Same (K : Nat → Prop) (F F' : Emb) : Prop := ∀ n, K n → F.blk n = F'.blk n ∧ F.base n = F'.base n ∧ F.slack n = F'.slack n
theorem Same.refl (K : Nat → Prop) (F : Emb) : Same K F F := fun _ _ => ⟨rfl, rfl, rfl⟩
theorem Same.symm {K : Nat → Prop} {F F' : Emb} (h : Same K F F') : Same K F' F := fun n k => ⟨(h n k).1.symm, (h n k).2.1.symm, (h n k).2.2.symm⟩
theorem Same.trans {K : Nat → Prop} {F F' F'' : Emb} (h : Same K F F') (h' : Same K F' F'') : Same K F F'' := fun n k => ⟨(h n k).1.trans (h' n k).1, (h n k).2.1.trans (h' n k).2.1, (h n k).2.2.trans (h' n k).2.2⟩
theorem Same.mono {K K' : Nat → Prop} {F F' : Emb} (h : Same K F F') (hk : ∀ n, K' n → K n) : Same K' F F' := fun n k => h n (hk n k)
def Kn (next cnt : Nat) (n : Nat) : Prop := n < next ∨ (VB ≤ n ∧ n < VB + cnt)
def Stab (K : Nat → Prop) (F : Emb) (v : Value) : Prop := ∀ F', Same K F F' → ren F' v = ren F v
theorem Stab.move {K K' : Nat → Prop} {F F' : Emb} {v : Value} (h : Stab K F v) (hs : Same K F F') (hk : ∀ n, K n → K' n) : Stab K' F' v :=
  fun F'' h' => (h F'' (hs.trans (h'.mono hk))).trans (h F' hs).symm
theorem Stab.plain {K : Nat → Prop} {F : Emb} {v : Value} (h : plainB v = true) : Stab K F v := fun F' _ => (ren_plain F' h).trans (ren_plain F h).symm
def Clo (K : Nat → Prop) (v : Value) : Prop := ∀ F F' : Emb, Same K F F' → ren F v = ren F' v
theorem Clo.stab {K : Nat → Prop} {v : Value} (h : Clo K v) (F : Emb) : Stab K F v := fun F' hs => (h F F' hs).symm
theorem Clo.plain {K : Nat → Prop} {v : Value} (h : plainB v = true) : Clo K v := fun F F' _ => (ren_plain F h).trans (ren_plain F' h).symm
def Hand (c : Nat) (v : Value) : Prop := Clo (fun n => VB ≤ n ∧ n < VB + c) v
theorem Hand.plain {c : Nat} {v : Value} (h : plainB v = true) : Hand c v := Clo.plain h
structure Kept (w0 : World) (M : Nat → Prop) (w : World) : Prop where
  os : w.os = w0.os
  tape : w.tape = w0.tape
  output : w.output = w0.output
  size : w0.heap.size ≤ w.heap.size
  block : ∀ b, b < w0.heap.size → ¬ M b → w.heap[b]? = w0.heap[b]?
theorem Kept.refl (w : World) (M : Nat → Prop) : Kept w M w := ⟨rfl, rfl, rfl, Nat.le_refl _, fun _ _ _ => rfl⟩
theorem Kept.trans {w0 w w' : World} {M M' : Nat → Prop} (h : Kept w0 M w) (h' : Kept w M' w') (hm : ∀ b, b < w0.heap.size → M' b → M b) : Kept w0 M w' :=
  ⟨h'.os.trans h.os, h'.tape.trans h.tape, h'.output.trans h.output, Nat.le_trans h.size h'.size, fun b hb hn =>
    (h'.block b (Nat.lt_of_lt_of_le hb h.size) (fun k => hn (hm b hb k))).trans (h.block b hb hn)⟩
structure Face (P : Program) (σ : Type) where
  mix : P.follows .mixedOrders = true
  cnt : σ → Nat
  rep : Emb → σ → World → Prop
  fp : Emb → σ → Nat → Prop
  prim : FuncId → Array Value → σ → Value → σ → Prop
  rep_same : ∀ F F' S w, Same (fun n => VB ≤ n ∧ n < VB + cnt S) F F' → rep F S w → rep F' S w ∧ ∀ b, fp F' S b → fp F S b
  rep_kept : ∀ F S w w', rep F S w → w.heap.size ≤ w'.heap.size → (∀ b, fp F S b → w'.heap[b]? = w.heap[b]?) → rep F S w'
  fp_low : ∀ F S w b, rep F S w → fp F S b → b < w.heap.size
  prim_hand : ∀ f args S v S', prim f args S v S' → cnt S ≤ cnt S' ∧ Hand (cnt S') v
  prim_ok : ∀ f args S v S' F w, prim f args S v S' → rep F S w → Calls P f (args.map (ren F)) w fun e w' => ∃ F', Same (fun n => n < VB + cnt S) F F' ∧ e = .returned (ren F' v) ∧ rep F' S' w' ∧
    Kept w (fp F S) w' ∧ ∀ b, fp F' S' b → fp F S b ∨ w.heap.size ≤ b
inductive Conf (σ : Type) where
  | run (todo : List Item) (tmps : List Value) (h : AHeap) (S : σ)
  | done (v : Value) (h : AHeap) (S : σ)
def ctl (tmps : List Value) : List Item → Option (List Item)
  | .code .skip :: k | .code (.label _) :: k | .inBlock _ :: k => some k
  | .code (.seq a b) :: k => some (.code a :: .code b :: k)
  | .code (.cond c x y) :: k => (match evA tmps c with | .bool b => some (.code (if b then x else y) :: k) | _ => none)
  | .code (.block id b) :: k => some (.code b :: .inBlock id :: k)
  | .code (.loop b) :: k | .inLoop b :: k => some (.code b :: .inLoop b :: k)
  | .code (.exit id) :: k => exitTo id k
  | .code (.goto l) :: k => gotoIn l k
  | .code (.region _ ops false) :: k => some (.inRegion ops (List.range ops.size) :: k)
  | .inRegion _ [] :: k => some k
  | .code (.scope b) :: k => some (.code b :: .inScope b :: k)
  | .inScope _ :: k => some k
  | _ => none
def retB : List Item → Bool
  | [] | .code .ret :: _ => true
  | _ => false
def res1A (P : Program) (tmps : List Value) (h : AHeap) : ResultVar → Option Value
  | .tmp t => some (tmps.getD t undef)
  | .cell a t => (match tmps.getD a undef with | .pointer (some ad) => loadA P h t ad | _ => none)
def resA (P : Program) (fn : Func) (tmps : List Value) (h : AHeap) : Option Value := match fn.results.toList with
  | [] => some (.tuple #[])
  | [r] => res1A P tmps h r
  | [r, q] => (match res1A P tmps h r, res1A P tmps h q with | some x, some y => some (.tuple #[x, y]) | _, _ => none)
  | [r, q, s] => (match res1A P tmps h r, res1A P tmps h q, res1A P tmps h s with | some x, some y, some z => some (.tuple #[x, y, z]) | _, _, _ => none)
  | [r, q, s, u] => (match res1A P tmps h r, res1A P tmps h q, res1A P tmps h s, res1A P tmps h u with | some x, some y, some z, some a => some (.tuple #[x, y, z, a]) | _, _, _, _ => none)
  | _ => none
def putL (dst : Option Tmp) (v : Value) (tmps : List Value) : List Value := match dst with
  | some d => tmps.set d v
  | none => tmps
def yieldedL (ops : Array Oper) (tmps : List Value) (j : Nat) : Option Bool := match ((ops[j]?).bind (·.dst)).bind (tmps[·]?) with
  | some (.bool b) => some b
  | _ => none
def enterL (fn : Func) (c : Code) (args : Array Value) : List Item × List Value := ([.code c], args.toList ++ List.replicate (fn.ntmps - args.size) undef)
def nameE (r : Nat → Nat) : Emb := ⟨r, fun _ => 0, fun _ => 0⟩
def goB (fn : Func) : Bool := fn.body.isSome && !(fn.name == "runtime.NumGoroutine")
structure Lends (cnt : Nat) (E : Emb) (h hc : AHeap) : Prop where
  clo : ∀ n b, hc.get n = some b → ∀ v ∈ b.cells, Clo (Kn hc.next cnt) v
  low : ∀ n b, hc.get n = some b → n < hc.next
  row : ∀ n b, hc.get n = some b → ∃ b0, h.get (E.blk n) = some b0 ∧ b0.elem = b.elem ∧
    ((b0.cells = b.cells.map (ren E) ∧ E.base n = 0 ∧ E.slack n = 0 ∧ (b.grow = b0.grow ∨ b.grow = none) ∧ (b.ro = false → b0.ro = false)) ∨
     (b.ro = true ∧ b.grow = none ∧ ∃ l r, b0.cells = l ++ b.cells.map (ren E) ++ r ∧ l.length = E.base n))
  apart : ∀ n m b c, hc.get n = some b → hc.get m = some c → n ≠ m → b.ro = false → E.blk n ≠ E.blk m
  lim : hc.next ≤ VB
  hand : ∀ n, VB ≤ n → E.blk n = n ∧ E.base n = 0 ∧ E.slack n = 0
structure Back (cnt : Nat) (E Q : Emb) (h hc h1 h' : AHeap) (ex : List Nat) (v0 v : Value) : Prop where
  next : h'.next = h.next + ex.length
  lent : ∀ n, n < hc.next → Q.blk n = E.blk n ∧ Q.base n = E.base n ∧ Q.slack n = E.slack n
  more : ∀ j n, ex[j]? = some n → hc.next ≤ n ∧ n < VB ∧ Q.blk n = h.next + j ∧ Q.base n = 0 ∧ Q.slack n = 0
  hand : ∀ n, VB ≤ n → Q.blk n = n ∧ Q.base n = 0 ∧ Q.slack n = 0
  told : v = ren Q v0
  clo : Clo (fun n => (∃ b, hc.get n = some b) ∨ n ∈ ex ∨ (VB ≤ n ∧ n < VB + cnt)) v0
  rows : ∀ n b, h1.get n = some b → ((∃ b0, hc.get n = some b0 ∧ b0.ro = false) ∨ n ∈ ex) → ∀ u ∈ b.cells, Clo (fun n => (∃ b, hc.get n = some b) ∨ n ∈ ex ∨ (VB ≤ n ∧ n < VB + cnt)) u
  fresh : ∀ j n, ex[j]? = some n → h'.get (h.next + j) = (h1.get n).map fun b => { b with cells := b.cells.map (ren Q) }
  old : ∀ m, (m < h.next ∨ h'.next ≤ m) → (h'.get m = h.get m ∧ ∀ n b, hc.get n = some b → b.ro = false → E.blk n ≠ m) ∨
    ∃ n b0, hc.get n = some b0 ∧ b0.ro = false ∧ E.blk n = m ∧ h'.get m = (h1.get n).map fun b => { b with cells := b.cells.map (ren Q) }
  own : ∀ n b, h1.get n = some b → ((∃ b0, hc.get n = some b0 ∧ b0.ro = false) ∨ n ∈ ex) → b.ro = false
  nodup : ex.Nodup
def isCallO (o : Oper) : Bool := match o.op with | .call c => (match c.callee with | .builtin _ => false | _ => true) | _ => false
def isStoreO (o : Oper) : Bool := match o.op with | .store .. => true | _ => false
def isNewO (o : Oper) : Bool := match o.op with | .alloc _ | .box .. | .buildSlice .. | .makeSlice .. | .slice .. => true | .call c => (match c.callee with | .builtin .append => true | _ => false) | _ => false
def isLoadO (o : Oper) : Bool := match o.op with | .load .. | .slice .. => true | _ => false
def loudO (o : Oper) : Bool := isCallO o || isStoreO o || isNewO o || isLoadO o
def wrB (W : List Nat) (i : Nat) (o : Oper) : Bool := isStoreO o || W.contains i
def farB (W : List Nat) (i : Nat) : Bool := W.contains (i + 1000000)
def farU (W : List Nat) (n : Nat) : Nat := match W.find? (fun x => Nat.ble 2000000 x) with | some x => x - 2000000 | none => n
def loudB (W : List Nat) (i : Nat) (o : Oper) : Bool := loudO o && !farB W i
def pairD (W : List Nat) (ops : Array Oper) (ms : List Nat) (i j : Nat) : Bool := match ops[i]?, ops[j]? with
  | some oi, some oj =>
    let meet := (match oi.dst with | some d => (namesOf ops oj).contains d | none => false) || (match oj.dst with | some d => (namesOf ops oi).contains d | none => false) ||
      (wrB W i oi && loudB W j oj) || (loudB W i oi && wrB W j oj) || (isCallO oi && isCallO oj) || (farB W i && wrB W j oj && Nat.ble (farU W ops.size) j)
    !meet || (ms.getD j 0).testBit i
  | _, _ => false
def drawB (W : List Nat) (ops : Array Oper) : Bool := Region.noSelect ops && (List.range ops.size).all fun j => (match ops[j]? with | none => true | some oj => (depsOf oj).all (fun d => decide (d < j)) && (!wrB W j oj || loudB W j oj)) && (!farB W j || Nat.blt j (farU W ops.size)) && (List.range j).all fun i => pairD W ops (masksFrom ops.toList []) i j
def Op0 {P : Program} {σ : Type} (X : Face P σ) (o : Oper) (e : Operand → Value) (h : AHeap) (S : σ) (v : Value) (h' : AHeap) (S' : σ) : Prop :=
  (valA P e h o.op = some v ∧ h' = h ∧ S' = S) ∨ (∃ ob, newA P e h h.next o.op = some (v, ob) ∧ h' = h.addO ob ∧ S' = S) ∨ (wrA P e h o.op = some (v, h') ∧ S' = S) ∨
  (∃ f g args, callA P e o.op = some (f, args) ∧ P.funcs[f]? = some g ∧ goB g = true ∧ X.prim f args S v S' ∧ h' = h)
structure CallOK {P : Program} {σ : Type} (X : Face P σ) (o : Oper) (e : Operand → Value) (h : AHeap) (S : σ) (v : Value) (h' : AHeap) (S' : σ) (f : FuncId) (g : Func) (c : Code) (zs : Array Value) (E Q : Emb) (hc h1 : AHeap) (ex : List Nat) (v0 : Value) : Prop where
  call : callA P e o.op = some (f, zs.map (ren E))
  func : P.funcs[f]? = some g
  go : goB g = true
  body : g.body = some c
  lends : Lends (X.cnt S) E h hc
  clo : ∀ u ∈ zs.toList, Clo (Kn hc.next (X.cnt S)) u
  back : Back (X.cnt S') E Q h hc h1 h' ex v0 v
inductive Kind where
  | skip
  | far
  | op (wr : Bool)
  | call (wr : Bool) (f : FuncId) (g : Func) (c : Code) (zs : Array Value) (E Q : Emb) (hc h1 : AHeap) (ex : List Nat) (v0 : Value)
  | callD (f : FuncId) (g : Func) (c : Code) (args : Array Value)
structure DRec (σ : Type) where
  tmps : List Value
  h : AHeap
  S : σ
  v : Value
  born : List (Nat × Nat)
  kind : Kind
def visH (n0 : Nat) (born : List (Nat × Nat)) (mask : Nat) (h : AHeap) : AHeap := ⟨fun n => if n < n0 ∨ born.any (fun p => p.2 == n && mask.testBit p.1) = true then (h.get n).map (fun b => { b with ro := true }) else none, h.next⟩
def glueH (h hv : AHeap) : AHeap := ⟨fun n => if h.next ≤ n then (if n < hv.next then hv.get n else none) else h.get n, hv.next⟩
def bornN (i a b : Nat) : List (Nat × Nat) := (List.range' a (b - a)).map fun n => (i, n)
def atN (hf : AHeap) (n : Nat) : AHeap := ⟨hf.get, n⟩
def GoodK {P : Program} {σ : Type} (X : Face P σ) (W : List Nat) (ops : Array Oper) (n0 : Nat) (hf : AHeap) (i : Nat) (o : Oper) (p q : DRec σ) : Prop :=
  q.tmps = putL o.dst p.v p.tmps ∧ match p.kind with
  | .skip => Region.wanted o (yieldedL ops p.tmps) = false ∧ p.v = undef ∧ q.h = p.h ∧ q.S = p.S ∧ q.born = p.born
  | .far => Region.wanted o (yieldedL ops p.tmps) = true ∧ o.op.operands.all operB = true ∧ wrB W i o = false ∧ farB W i = true ∧ valA P (evA p.tmps) hf o.op = some p.v ∧ q.h = p.h ∧ q.S = p.S ∧ q.born = p.born
  | .op wr => farB W i = false ∧ Region.wanted o (yieldedL ops p.tmps) = true ∧ o.op.operands.all operB = true ∧ (q.h.next = p.h.next ∨ q.h.next ≤ VB) ∧ q.born = bornN i p.h.next q.h.next ++ p.born ∧
    (if wr then wrB W i o = true ∧ Op0 X o (evA p.tmps) p.h p.S p.v q.h q.S
     else wrB W i o = false ∧ ∃ hv, Op0 X o (evA p.tmps) (visH n0 p.born ((masksFrom ops.toList []).getD i 0) p.h) p.S p.v hv q.S ∧ q.h = glueH p.h hv)
  | .call wr f g c zs E Q hc h1 ex v0 => farB W i = false ∧ Region.wanted o (yieldedL ops p.tmps) = true ∧ o.op.operands.all operB = true ∧ (q.h.next = p.h.next ∨ q.h.next ≤ VB) ∧ q.born = bornN i p.h.next q.h.next ++ p.born ∧
    (if wr then wrB W i o = true ∧ CallOK X o (evA p.tmps) p.h p.S p.v q.h q.S f g c zs E Q hc h1 ex v0
     else wrB W i o = false ∧ ∃ hv, CallOK X o (evA p.tmps) (visH n0 p.born ((masksFrom ops.toList []).getD i 0) p.h) p.S p.v hv q.S f g c zs E Q hc h1 ex v0 ∧ q.h = glueH p.h hv)
  | .callD f g c args => farB W i = false ∧ Region.wanted o (yieldedL ops p.tmps) = true ∧ o.op.operands.all operB = true ∧ (q.h.next = p.h.next ∨ q.h.next ≤ VB) ∧ q.born = bornN i p.h.next q.h.next ++ p.born ∧ wrB W i o = true ∧ p.h.next ≤ q.h.next ∧ (∀ n b, q.h.get n = some b → n < q.h.next) ∧
    callA P (evA p.tmps) o.op = some (f, args) ∧ P.funcs[f]? = some g ∧ goB g = true ∧ g.body = some c
inductive Goes {P : Program} {σ : Type} (X : Face P σ) : Func → (Conf σ → Prop) → Conf σ → Prop
  | here {fn A c} (h : A c) : Goes X fn A c
  | ctl {fn A todo todo' tmps h S} (hc : ctl tmps todo = some todo') (hk : Goes X fn A (.run todo' tmps h S)) : Goes X fn A (.run todo tmps h S)
  | ret {fn A todo tmps h S v} (ht : retB todo = true) (hv : resA P fn tmps h = some v) (hk : Goes X fn A (.done v h S)) : Goes X fn A (.run todo tmps h S)
  | skip {fn A ops i rest k tmps h S o} (ho : ops[i]? = some o) (hw : Region.wanted o (yieldedL ops tmps) = false)
      (hk : Goes X fn A (.run (.inRegion ops rest :: k) (putL o.dst undef tmps) h S)) : Goes X fn A (.run (.inRegion ops (i :: rest) :: k) tmps h S)
  | op {fn A ops i rest k tmps h S o v h' S'} (ho : ops[i]? = some o) (hw : Region.wanted o (yieldedL ops tmps) = true) (hb : o.op.operands.all operB = true) (hop : Op0 X o (evA tmps) h S v h' S') (hl : h'.next = h.next ∨ h'.next ≤ VB)
      (hk : Goes X fn A (.run (.inRegion ops rest :: k) (putL o.dst v tmps) h' S')) : Goes X fn A (.run (.inRegion ops (i :: rest) :: k) tmps h S)
  | call {fn A ops i rest k tmps h S o v h' S'} (f : FuncId) (g : Func) (c : Code) (zs : Array Value) (E Q : Emb) (hc h1 : AHeap) (ex : List Nat) (v0 : Value) (ho : ops[i]? = some o) (hw : Region.wanted o (yieldedL ops tmps) = true) (hb : o.op.operands.all operB = true)
      (hok : CallOK X o (evA tmps) h S v h' S' f g c zs E Q hc h1 ex v0) (hl : h'.next = h.next ∨ h'.next ≤ VB) (hrun : Goes X g (fun x => x = .done v0 h1 S') (.run (enterL g c zs).1 (enterL g c zs).2 hc S))
      (hk : Goes X fn A (.run (.inRegion ops rest :: k) (putL o.dst v tmps) h' S')) : Goes X fn A (.run (.inRegion ops (i :: rest) :: k) tmps h S)
  | callD {fn A ops i rest k tmps h S o} (f : FuncId) (g : Func) (c : Code) (args : Array Value) (v : Value) (h1 : AHeap) (S1 : σ) (ho : ops[i]? = some o) (hw : Region.wanted o (yieldedL ops tmps) = true) (hb : o.op.operands.all operB = true) (hca : callA P (evA tmps) o.op = some (f, args))
      (hf : P.funcs[f]? = some g) (hg : goB g = true) (hbd : g.body = some c) (hrun : Goes X g (fun x => x = .done v h1 S1) (.run (enterL g c args).1 (enterL g c args).2 h S)) (hk : Goes X fn A (.run (.inRegion ops rest :: k) (putL o.dst v tmps) h1 S1)) : Goes X fn A (.run (.inRegion ops (i :: rest) :: k) tmps h S)
  | draw {fn A id ops k tmps h S} (W : List Nat) (rec : Nat → DRec σ) (hB : drawB W ops = true) (h0 : (rec 0).tmps = tmps ∧ (rec 0).h = h ∧ (rec 0).S = S ∧ (rec 0).born = []) (hf : AHeap) (hstill : ∀ n b, hf.get n = some b → n < h.next ∧ ∃ b0, b = { b0 with ro := true } ∧ ∀ j, j ≤ ops.size → j ≤ farU W ops.size → (rec j).h.get n = some b0) (hgood : ∀ i o, ops[i]? = some o → GoodK X W ops h.next hf i o (rec i) (rec (i + 1)))
      (hcalls : ∀ i wr f g c zs E Q hc h1 ex v0, i < ops.size → (rec i).kind = .call wr f g c zs E Q hc h1 ex v0 → Goes X g (fun x => x = .done v0 h1 (rec (i + 1)).S) (.run (enterL g c zs).1 (enterL g c zs).2 hc (rec i).S))
      (hcallsD : ∀ i f g c args, i < ops.size → (rec i).kind = .callD f g c args → Goes X g (fun x => x = .done (rec i).v (rec (i + 1)).h (rec (i + 1)).S) (.run (enterL g c args).1 (enterL g c args).2 (rec i).h (rec i).S))
      (hk : Goes X fn A (.run k (rec ops.size).tmps (rec ops.size).h (rec ops.size).S)) : Goes X fn A (.run (.code (.region id ops true) :: k) tmps h S)
  | raise {fn A todo tmps h h0 S} (hg : h0.get = h.get) (hn : h.next ≤ h0.next) (hl : h0.next ≤ VB) (hk : Goes X fn A (.run todo tmps h0 S)) : Goes X fn A (.run todo tmps h S)
  | weak {fn A todo tmps h h0 S} (hs : ∀ n b, h0.get n = some b → ∃ b', h.get n = some b' ∧ b'.cells = b.cells ∧ b'.elem = b.elem ∧ (b.ro = false → b'.ro = false) ∧ (b.grow = b'.grow ∨ b.grow = none)) (hn : h0.next = h.next) (hk : Goes X fn A (.run todo tmps h0 S)) : Goes X fn A (.run todo tmps h S)
section
variable {P : Program} {σ : Type} {X : Face P σ}
def actF (F : Emb) (tmps : List Value) : Act := ⟨(tmps.map (ren F)).toArray, []⟩
theorem actF_eval (F : Emb) (tmps : List Value) (x : Operand) (hx : operB x = true) : (actF F tmps).eval x = ren F (evA tmps x) := by
  cases x with
  | tmp t =>
    simp only [Act.eval, actF, evA]
    by_cases h : t < tmps.length
    · simp [h, List.getD]
    · simp [h, List.getD, ren_undef]
  | const v => exact (ren_plain F hx).symm
  | global g => cases hx
  | func f => simp [Act.eval, evA]
theorem actF_put (F : Emb) (tmps : List Value) (dst : Option Tmp) (v : Value) : (actF F tmps).put dst (ren F v) = actF F (putL dst v tmps) := by
  cases dst with
  | none => rfl
  | some d => simp [actF, Act.put, putL, List.map_set]
theorem actF_undef (F : Emb) (tmps : List Value) (dst : Option Tmp) : (actF F tmps).put dst undef = actF F (putL dst undef tmps) := by
  rw [← actF_put, ren_undef]
theorem ren_bool_iff (F : Emb) (v : Value) : (match some (ren F v) with | some (.bool b) => some b | _ => none) = (match some v with | some (.bool b) => some b | _ => (none : Option Bool)) := by
  cases v with
  | pointer a => cases a <;> simp
  | slice a n c => cases a <;> simp
  | _ => simp [ren]
theorem actF_yielded (F : Emb) (ops : Array Oper) (tmps : List Value) (j : Nat) : yielded ops (actF F tmps).tmps j = yieldedL ops tmps j := by
  unfold yielded yieldedL actF
  cases h : (ops[j]?).bind (·.dst) with
  | none => rfl
  | some d =>
    simp only [Option.bind_some, List.getElem?_toArray, List.getElem?_map]
    cases hd : tmps[d]? with
    | none => rfl
    | some v => exact ren_bool_iff F v
theorem actF_wanted (F : Emb) (ops : Array Oper) (tmps : List Value) (o : Oper) : Region.wanted o (yielded ops (actF F tmps).tmps) = Region.wanted o (yieldedL ops tmps) := by
  unfold Region.wanted
  cases o.guard with
  | none => rfl
  | some g => simp only [actF_yielded]
theorem actF_congr {K : Nat → Prop} {F F' : Emb} {tmps : List Value} (h : ∀ v ∈ tmps, Stab K F v) (hs : Same K F F') : actF F' tmps = actF F tmps := by
  unfold actF
  congr 2
  exact List.map_congr_left fun v hv => h v hv F' hs
structure AInv (X : Face P σ) (F : Emb) (w0 : World) (M K : Nat → Prop) (vs : Value → Prop) (h : AHeap) (S : σ) (w : World) : Prop where
  holds : Holds F h w
  rep : X.rep F S w
  vst : ∀ v, vs v → Stab K F v
  hst : ∀ n b, h.get n = some b → ∀ v ∈ b.cells, Stab K F v
  hk : ∀ n b, h.get n = some b → K n ∧ n < VB
  hand : ∀ n, VB ≤ n → n < VB + X.cnt S → K n
  klim : ∀ n, K n → n < VB + X.cnt S
  kept : Kept w0 M w
  own : ∀ n b, h.get n = some b → b.ro = false → F.blk n < w0.heap.size → M (F.blk n)
  fown : ∀ b, X.fp F S b → b < w0.heap.size → M b
  sep : ∀ n b, h.get n = some b → ¬ X.fp F S (F.blk n)
def vals : Conf σ → List Value
  | .run _ tmps _ _ => tmps
  | .done v _ _ => [v]
def heap : Conf σ → AHeap
  | .run _ _ h _ => h
  | .done _ h _ => h
def st : Conf σ → σ
  | .run _ _ _ S => S
  | .done _ _ S => S
def InvC (X : Face P σ) (F : Emb) (w0 : World) (M : Nat → Prop) (c : Conf σ) (w : World) : Prop := AInv X F w0 M (Kn (heap c).next (X.cnt (st c))) (fun v => v ∈ vals c) (heap c) (st c) w ∧ (heap c).next ≤ VB
def Stands (P : Program) (F : Emb) (b : Frame) (cs : List Frame) : Conf σ → World → Machine → Prop
  | .run todo tmps _ _, w, m => m = lone (b.at (actF F tmps) todo) cs w
  | .done v _ _, w, m => ∃ fr, m = lone fr cs w ∧ fr.fn = b.fn ∧ fr.leaving P w (.returned (ren F v))
theorem block_low {w : World} {b : Nat} {o : Obj} (h : w.heap[b]? = some o) : b < w.heap.size := (Array.getElem?_eq_some_iff.1 h).1
theorem Holds.same {F F' : Emb} {h : AHeap} {w : World} {K : Nat → Prop} (H : Holds F h w) (hk : ∀ n b, h.get n = some b → K n) (hst : ∀ n b, h.get n = some b → ∀ v ∈ b.cells, Stab K F v) (hs : Same K F F') : Holds F' h w where
  row := fun n b hb => by
    obtain ⟨pre, post, fr, h1, h2, h3, h4, h5⟩ := H.row n b hb
    have hn := hs n (hk n b hb)
    refine ⟨pre, post, fr, ?_, by rw [← hn.2.1]; exact h2, h3, by rw [← hn.2.2]; exact h4, by rw [← hn.2.2]; exact h5⟩
    rw [← hn.1, h1]
    congr 5
    exact List.map_congr_left fun v hv => (hst n b hb v hv F' hs).symm
  apart := fun n m b c hb hc hne hro => by
    rw [← (hs n (hk n b hb)).1, ← (hs m (hk m c hc)).1]
    exact H.apart n m b c hb hc hne hro
theorem Holds.kept {F : Emb} {h : AHeap} {w w' : World} (H : Holds F h w) (hk : ∀ n b, h.get n = some b → w'.heap[F.blk n]? = w.heap[F.blk n]?) : Holds F h w' where
  row := fun n b hb => by
    obtain ⟨pre, post, fr, h1, h2, h3⟩ := H.row n b hb
    exact ⟨pre, post, fr, by rw [hk n b hb]; exact h1, h2, h3⟩
  apart := H.apart
theorem Holds.blk_lt {F : Emb} {h : AHeap} {w : World} (H : Holds F h w) {n : Nat} {b : Blk} (hb : h.get n = some b) : F.blk n < w.heap.size := by
  obtain ⟨pre, post, fr, h1, _⟩ := H.row n b hb
  exact block_low h1
theorem step_value {b : Frame} {a : Act} {ops : Array Oper} {i : Nat} {rest : List Nat} {k : List Item} {cs : List Frame} {w w' : World} {o : Oper} {v : Value} (ho : ops[i]? = some o) (hw : Region.wanted o (yielded ops a.tmps) = true)
    (hr : (execOp a.eval o).run P w = .ok (.value v) w') : step P (lone (b.at a (.inRegion ops (i :: rest) :: k)) cs w) = .next (lone (b.at (a.put o.dst v) (.inRegion ops rest :: k)) cs w') := by
  have hg := stepG_op (P := P) (b := b) (k := k) (cs := cs) (w := w) (rest := rest) ho hw
  have hfin : (b.at a (.inRegion ops (i :: rest) :: k)).finish v = b.at (a.put o.dst v) (.inRegion ops rest :: k) := by
    rw [Frame.finish_at, ho]; rfl
  refine step_lone_go ?_
  rw [hg, ← hfin]; simp [stepG.apply, hr]
theorem step_skipv {b : Frame} {a : Act} {ops : Array Oper} {i : Nat} {rest : List Nat} {k : List Item} {cs : List Frame} {w w' : World} {o : Oper} (ho : ops[i]? = some o) (hw : Region.wanted o (yielded ops a.tmps) = true)
    (hr : (execOp a.eval o).run P w = .ok .skip w') : step P (lone (b.at a (.inRegion ops (i :: rest) :: k)) cs w) = .next (lone (b.at (a.put o.dst undef) (.inRegion ops rest :: k)) cs w') := by
  have hg := stepG_op (P := P) (b := b) (k := k) (cs := cs) (w := w) (rest := rest) ho hw
  have hfin : (b.at a (.inRegion ops (i :: rest) :: k)).finish undef = b.at (a.put o.dst undef) (.inRegion ops rest :: k) := by
    rw [Frame.finish_at, ho]; rfl
  refine step_lone_go ?_
  rw [hg, ← hfin]; simp [stepG.apply, hr]
theorem step_ctl {tmps : List Value} {todo todo' : List Item} (F : Emb) (h : ctl tmps todo = some todo') (b : Frame) (cs : List Frame) (w : World) :
    step P (lone (b.at (actF F tmps) todo) cs w) = .next (lone (b.at (actF F tmps) todo') cs w) := by
  unfold ctl at h
  split at h
  · cases h; exact step_skip
  · cases h; exact step_label
  · cases h; exact step_inBlock
  · cases h; exact step_seq
  · rename_i c x y k
    split at h
    · rename_i t ht
      cases h
      refine step_cond ?_
      cases c with
      | tmp t' => rw [actF_eval F tmps _ rfl, ht, ren_bool]
      | const v => simpa [Act.eval, evA] using ht
      | global g => simp [evA, undef] at ht
      | func f => simp [evA] at ht
    · cases h
  · cases h; exact step_block
  · cases h; exact step_loop
  · cases h; exact step_inLoop
  · exact step_exit h
  · exact step_goto h
  · cases h; exact step_region
  · cases h; exact step_region_end
  · cases h; exact step_scope
  · cases h; exact step_inScope
  · cases h
def res1M (tmps : Array Value) : ResultVar → Sem Value
  | .tmp t => pure (tmps.getD t undef)
  | .cell a t => do loadVar t (← asAddr (tmps.getD a undef))
theorem results_eq (fn : Func) (tmps : Array Value) : results fn tmps = (do
    let vs ← fn.results.mapM (res1M tmps)
    pure (if h : vs.size = 1 then vs[0] else .tuple vs)) := by
  unfold results res1M
  congr 2
theorem res1A_run {F : Emb} {h : AHeap} {w : World} {tmps : List Value} {r : ResultVar} {v : Value} (H : Holds F h w) (hv : res1A P tmps h r = some v) :
    (res1M (actF F tmps).tmps r).run P w = .ok (ren F v) w := by
  have hget : ∀ t, (actF F tmps).tmps.getD t undef = ren F (tmps.getD t undef) := fun t => actF_eval F tmps (.tmp t) rfl
  cases r with
  | tmp t =>
    simp only [res1A, Option.some.injEq] at hv
    subst hv
    simp only [res1M, hget, Sem.run_pure]
  | cell a t =>
    simp only [res1A] at hv
    split at hv
    · rename_i ad had
      have := loadA_run H hv
      simp only [Instr.loadAt, Instr.sureAddr, Sem.run_bind, Sem.run_pure, Result.andThen_ok] at this
      simp only [res1M, hget, had, ren_psome, asAddr, Sem.run_bind, Sem.run_pure, Result.andThen_ok, this]
    · cases hv
theorem resA_run {F : Emb} {h : AHeap} {w : World} {tmps : List Value} {fn : Func} {v : Value} (H : Holds F h w) (hv : resA P fn tmps h = some v) :
    (results fn (actF F tmps).tmps).run P w = .ok (ren F v) w := by
  unfold resA at hv
  split at hv
  · rename_i hr
    cases hv
    obtain hr' : fn.results = #[] := by rw [← Array.toArray_toList (xs := fn.results), hr]
    simp [results, hr']
  · rename_i r hr
    obtain hr' : fn.results = #[r] := by rw [← Array.toArray_toList (xs := fn.results), hr]
    have := res1A_run H hv
    rw [results_eq, hr']
    simp [this]
  · rename_i r q hr
    obtain hr' : fn.results = #[r, q] := by rw [← Array.toArray_toList (xs := fn.results), hr]
    split at hv
    · rename_i x y hx hy
      cases hv
      have h1 := res1A_run H hx
      have h2 := res1A_run H hy
      rw [results_eq, hr']
      simp [Sem.run_bind, h1, h2]
    · cases hv
  · rename_i r q s hr
    obtain hr' : fn.results = #[r, q, s] := by rw [← Array.toArray_toList (xs := fn.results), hr]
    split at hv
    · rename_i x y z hx hy hz
      cases hv
      have h1 := res1A_run H hx
      have h2 := res1A_run H hy
      have h3 := res1A_run H hz
      rw [results_eq, hr']
      simp [Sem.run_bind, h1, h2, h3]
    · cases hv
  · rename_i r q s u hr
    obtain hr' : fn.results = #[r, q, s, u] := by rw [← Array.toArray_toList (xs := fn.results), hr]
    split at hv
    · rename_i x y z a hx hy hz ha
      cases hv
      have h1 := res1A_run H hx
      have h2 := res1A_run H hy
      have h3 := res1A_run H hz
      have h4 := res1A_run H ha
      rw [results_eq, hr']
      simp [Sem.run_bind, h1, h2, h3, h4]
    · cases hv
  · cases hv
end
end Go.Proofs.Ytjdbknnacaacaaa
namespace Go.Proofs.Ytjdbknnacaacaaa
open Go Go.RowKit
set_option linter.unusedSimpArgs false
set_option linter.unusedVariables false
section
variable {P : Program} {σ : Type} {X : Face P σ} {F : Emb} {w0 w : World} {M K : Nat → Prop} {vs : Value → Prop} {h : AHeap} {S : σ}
theorem Stab.undef {K : Nat → Prop} {F : Emb} : Stab K F undef := Stab.plain (by simp [Go.undef, plainB])
theorem Stab.cells {K : Nat → Prop} {F : Emb} {v : Value} (hv : Stab K F v) : ∀ c ∈ v.cells.toList, Stab K F c := by
  intro c hc F' hs
  have := congrArg Value.cells (hv F' hs)
  rw [cells_ren, cells_ren] at this
  have h2 := congrArg Array.toList this
  simp only [Array.toList_map] at h2
  exact List.map_inj_left.1 h2 c hc
theorem evals_stab {tmps : List Value} (hv : ∀ v ∈ tmps, Stab K F v) (x : Operand) (hx : operB x = true) : Stab K F (evA tmps x) := by
  cases x with
  | tmp t =>
    simp only [evA]
    by_cases ht : t < tmps.length
    · rw [show tmps.getD t Go.undef = tmps[t] by simp [List.getD, ht]]
      exact hv _ (List.getElem_mem ht)
    · rw [show tmps.getD t Go.undef = Go.undef by simp [List.getD, Nat.not_lt.1 ht]]
      exact Stab.undef
  | const v => exact Stab.plain hx
  | global g => cases hx
  | func f => intro F' _; simp [evA]
theorem putL_stab {tmps : List Value} {v : Value} (hv : ∀ u ∈ tmps, Stab K F u) (h : Stab K F v) (dst : Option Tmp) : ∀ u ∈ putL dst v tmps, Stab K F u := by
  intro u hu
  cases dst with
  | none => exact hv u hu
  | some d =>
    rcases List.mem_or_eq_of_mem_set hu with hu | rfl
    · exact hv u hu
    · exact h
theorem AInv.vals' {vs' : Value → Prop} (I : AInv X F w0 M K vs h S w) (hv : ∀ v, vs' v → Stab K F v) : AInv X F w0 M K vs' h S w :=
  ⟨I.holds, I.rep, hv, I.hst, I.hk, I.hand, I.klim, I.kept, I.own, I.fown, I.sep⟩
theorem AInv.kmono {K' : Nat → Prop} (I : AInv X F w0 M K vs h S w) (hK : ∀ n, K n → K' n) (hl : ∀ n, K' n → n < VB + X.cnt S) : AInv X F w0 M K' vs h S w :=
  ⟨I.holds, I.rep, fun v hv => (I.vst v hv).move (Same.refl _ _) hK, fun n b hb v hv => (I.hst n b hb v hv).move (Same.refl _ _) hK, fun n b hb => ⟨hK n (I.hk n b hb).1, (I.hk n b hb).2⟩, fun n h1 h2 => hK n (I.hand n h1 h2), hl, I.kept, I.own, I.fown, I.sep⟩
def Emb.set (F : Emb) (n b bs sl : Nat) : Emb := ⟨fun m => if m = n then b else F.blk m, fun m => if m = n then bs else F.base m, fun m => if m = n then sl else F.slack m⟩
theorem Emb.set_same (F : Emb) {n b bs sl : Nat} (hn : ¬ K n) : Same K F (F.set n b bs sl) := by
  intro m hm
  have : m ≠ n := by rintro rfl; exact hn hm
  simp [Emb.set, this]
theorem Emb.set_at (F : Emb) (n b bs sl : Nat) : (F.set n b bs sl).blk n = b ∧ (F.set n b bs sl).base n = bs ∧ (F.set n b bs sl).slack n = sl := by simp [Emb.set]
theorem kn_le {n m c d : Nat} (h1 : n ≤ m) (h2 : c ≤ d) : ∀ x, Kn n c x → Kn m d x := by
  intro x hx
  rcases hx with hx | hx
  · exact .inl (by omega)
  · exact .inr (by omega)
theorem AInv.same (I : AInv X F w0 M K vs h S w) {F' : Emb} (hs : Same K F F') : AInv X F' w0 M K vs h S w := by
  have he : ∀ n b, h.get n = some b → F'.blk n = F.blk n := fun n b hb => (hs n (I.hk n b hb).1).1.symm
  have hh := X.rep_same F F' S w (hs.mono (fun n hn => I.hand n hn.1 hn.2)) I.rep
  exact ⟨I.holds.same (fun n b hb => (I.hk n b hb).1) I.hst hs, hh.1, fun v hv => (I.vst v hv).move hs (fun _ h => h), fun n b hb v hv => (I.hst n b hb v hv).move hs (fun _ h => h), I.hk, I.hand, I.klim, I.kept,
    fun n b hb hr hx => by rw [he n b hb] at hx ⊢; exact I.own n b hb hr hx, fun b hb hx => I.fown b (hh.2 b hb) hx, fun n b hb hx => by rw [he n b hb] at hx; exact I.sep n b hb (hh.2 _ hx)⟩
theorem AInv.add (I : AInv X F w0 M K vs h S w) {n : Nat} (hn : ¬ K n) (hnV : n < VB) {h' : AHeap} {ob : Option Blk} {bk bs sl : Nat} {w' : World} (hg : ∀ m, h'.get m = if m = n then ob else h.get m) (hc : ∀ b, ob = some b → ∀ c ∈ b.cells, Stab K F c)
    (hw : (ob = none ∧ w' = w) ∨ ∃ (b : Blk) (post : Array Value), ob = some b ∧ b.ro = false ∧ bk = w.heap.size ∧ bs = 0 ∧ Grew w w' (.cells ((b.cells.map (ren F)).toArray ++ post) b.elem (0, 0)) ∧ (b.grow = some 0 → sl = 0) ∧ (∀ s, b.grow = some (s + 1) → sl * (s + 1) ≤ post.size)) :
    AInv X (F.set n bk bs sl) w0 M (fun x => K x ∨ x = n) vs h' S w' := by
  have hs : Same K F (F.set n bk bs sl) := F.set_same hn
  have I' := (I.same hs).kmono (K' := fun x => K x ∨ x = n) (fun x hx => .inl hx) (fun x hx => by rcases hx with hx | rfl; exact I.klim x hx; omega)
  obtain ⟨e1, e2, e3⟩ := F.set_at n bk bs sl
  have hne : ∀ m c, h.get m = some c → m ≠ n := fun m c hc => by rintro rfl; exact hn (I.hk m c hc).1
  rcases hw with ⟨rfl, rfl⟩ | ⟨b, post, rfl, hro, rfl, rfl, hgr, hg0, hg1⟩
  · have hg' : ∀ m c, h'.get m = some c → h.get m = some c := fun m c hm => by
      rw [hg] at hm
      split at hm
      · cases hm
      · exact hm
    exact ⟨⟨fun m c hm => I'.holds.row m c (hg' m c hm), fun m k c d hm hk => I'.holds.apart m k c d (hg' m c hm) (hg' k d hk)⟩, I'.rep, I'.vst, fun m c hm => I'.hst m c (hg' m c hm), fun m c hm => I'.hk m c (hg' m c hm), I'.hand, I'.klim, I'.kept, fun m c hm => I'.own m c (hg' m c hm), I'.fown, fun m c hm => I'.sep m c (hg' m c hm)⟩
  · have hget : ∀ m c, h'.get m = some c → (m = n ∧ c = b) ∨ (m ≠ n ∧ h.get m = some c) := fun m c hm => by
      rw [hg] at hm
      split at hm
      · rename_i e; cases hm; exact .inl ⟨e, rfl⟩
      · rename_i e; exact .inr ⟨e, hm⟩
    have hold : ∀ x, x < w.heap.size → w'.heap[x]? = w.heap[x]? := fun x hx => by
      rw [hgr.heap, Array.getElem?_push, if_neg (by omega)]
    have hlt : ∀ m c, h.get m = some c → (F.set n w.heap.size 0 sl).blk m < w.heap.size := fun m c hm => I'.holds.blk_lt hm
    refine ⟨⟨?_, ?_⟩, ?_, I'.vst, ?_, ?_, I'.hand, I'.klim, ?_, ?_, I'.fown, ?_⟩
    · intro m c hm
      rcases hget m c hm with ⟨rfl, rfl⟩ | ⟨hne, hm⟩
      · refine ⟨#[], post, (0, 0), ?_, by rw [e2]; rfl, fun _ => rfl, fun h => by rw [e3]; exact hg0 h, fun s h => by rw [e3]; exact hg1 s h⟩
        rw [e1, hgr.heap, Array.getElem?_push, if_pos rfl]
        rw [show c.cells.map (ren (F.set m w.heap.size 0 sl)) = c.cells.map (ren F) from List.map_congr_left fun v hv => hc c rfl v hv _ hs]
        simp
      · obtain ⟨pre, post, fr, h1, h2⟩ := I'.holds.row m c hm
        exact ⟨pre, post, fr, by rw [hold _ (hlt m c hm)]; exact h1, h2⟩
    · intro m k c d hm hk hmk hr
      rcases hget m c hm with ⟨hm1, _⟩ | ⟨hm1, hm'⟩ <;> rcases hget k d hk with ⟨hk1, _⟩ | ⟨hk1, hk'⟩
      · exact absurd (hm1.trans hk1.symm) hmk
      · rw [hm1, e1]; have := hlt k d hk'; omega
      · rw [hk1, e1]; have := hlt m c hm'; omega
      · exact I'.holds.apart m k c d hm' hk' hmk hr
    · exact X.rep_kept _ _ _ _ I'.rep (by rw [hgr.heap]; simp) (fun x hx => hold x (X.fp_low _ _ _ _ I'.rep hx))
    · intro m c hm v hv
      rcases hget m c hm with ⟨_, rfl⟩ | ⟨_, hm⟩
      · exact (hc c rfl v hv).move hs (fun x hx => .inl hx)
      · exact I'.hst m c hm v hv
    · intro m c hm
      rcases hget m c hm with ⟨rfl, rfl⟩ | ⟨_, hm⟩
      · exact ⟨.inr rfl, hnV⟩
      · exact I'.hk m c hm
    · exact ⟨hgr.os.trans I.kept.os, hgr.tape.trans I.kept.tape, hgr.output.trans I.kept.output, Nat.le_trans I.kept.size (by rw [hgr.heap]; simp), fun x hx hn => (hold x (Nat.lt_of_lt_of_le hx I.kept.size)).trans (I.kept.block x hx hn)⟩
    · intro m c hm hr hx
      rcases hget m c hm with ⟨rfl, rfl⟩ | ⟨_, hm⟩
      · rw [e1] at hx; have := I.kept.size; omega
      · exact I'.own m c hm hr hx
    · intro m c hm hx
      rcases hget m c hm with ⟨rfl, rfl⟩ | ⟨_, hm⟩
      · rw [e1] at hx
        have := X.fp_low _ _ _ _ I'.rep hx
        omega
      · exact I'.sep m c hm hx
theorem wrote_other (w : World) (b : Nat) (c : Array Value) (x : Nat) (hx : x ≠ b) : (wrote w b c).heap[x]? = w.heap[x]? := by
  unfold wrote
  simp only [Array.getElem?_modify, if_neg (Ne.symm hx)]
theorem wrote_at {w : World} {b : Nat} {c c' : Array Value} {el : TypeId} {fr : Nat × Nat} (h : w.heap[b]? = some (.cells c el fr)) : (wrote w b c').heap[b]? = some (.cells c' el fr) := by
  unfold wrote
  simp only [Array.getElem?_modify, if_pos, h, Option.map_some]
theorem wrote_size (w : World) (b : Nat) (c : Array Value) : (wrote w b c).heap.size = w.heap.size := by simp [wrote]
theorem AInv.kill (I : AInv X F w0 M K vs h S w) (n : Nat) : AInv X F w0 M K vs (h.putO n none) S w := by
  have hg : ∀ m c, (h.putO n none).get m = some c → m ≠ n ∧ h.get m = some c := fun m c hm => by
    rw [AHeap.putO_get] at hm
    split at hm
    · cases hm
    · rename_i e; exact ⟨e, hm⟩
  exact ⟨⟨fun m c hm => I.holds.row m c (hg m c hm).2, fun m k c d hm hk => I.holds.apart m k c d (hg m c hm).2 (hg k d hk).2⟩, I.rep, I.vst, fun m c hm => I.hst m c (hg m c hm).2, fun m c hm => I.hk m c (hg m c hm).2, I.hand, I.klim, I.kept, fun m c hm => I.own m c (hg m c hm).2, I.fown, fun m c hm => I.sep m c (hg m c hm).2⟩
theorem AInv.turned (I : AInv X F w0 M K vs h S w) {B : Nat} (hB : ∀ m c, h.get m = some c → F.blk m ≠ B) (hf : ¬ X.fp F S B) (hm : B < w0.heap.size → M B) (c : Array Value) : AInv X F w0 M K vs h S (wrote w B c) := by
  refine ⟨I.holds.kept fun m c' hm => wrote_other _ _ _ _ (hB m c' hm), X.rep_kept _ _ _ _ I.rep (by rw [wrote_size]; exact Nat.le_refl _) (fun x hx => wrote_other _ _ _ _ (fun e => hf (e ▸ hx))), I.vst, I.hst, I.hk, I.hand, I.klim, ?_, I.own, I.fown, I.sep⟩
  exact ⟨I.kept.os, I.kept.tape, I.kept.output, by rw [wrote_size]; exact I.kept.size, fun x hx hn => by
    rw [wrote_other _ _ _ _ (fun e => hn (by rw [e]; exact hm (by rw [← e]; exact hx)))]
    exact I.kept.block x hx hn⟩
theorem AInv.put (I : AInv X F w0 M K vs h S w) {n : Nat} (hK : K n) (hnV : n < VB) {b : Blk} {pre post : Array Value} (hr : w.heap[F.blk n]? = some (.cells (pre ++ (b.cells.map (ren F)).toArray ++ post) b.elem (0, 0))) (hp : pre.size = F.base n) (h0 : b.grow = some 0 → F.slack n = 0) (h1 : ∀ s, b.grow = some (s + 1) → F.slack n * (s + 1) ≤ post.size)
    (hB : ∀ m c, h.get m = some c → m ≠ n → F.blk m ≠ F.blk n) (hf : ¬ X.fp F S (F.blk n)) (hm : F.blk n < w0.heap.size → M (F.blk n)) (hc : ∀ c ∈ b.cells, Stab K F c) {h' : AHeap} (hg : ∀ m, h'.get m = if m = n then some b else h.get m) : AInv X F w0 M K vs h' S w := by
  have hget : ∀ m c, h'.get m = some c → (m = n ∧ c = b) ∨ (m ≠ n ∧ h.get m = some c) := fun m c hm => by
    rw [hg] at hm
    split at hm
    · rename_i e; cases hm; exact .inl ⟨e, rfl⟩
    · rename_i e; exact .inr ⟨e, hm⟩
  refine ⟨⟨?_, ?_⟩, I.rep, I.vst, ?_, ?_, I.hand, I.klim, I.kept, ?_, I.fown, ?_⟩
  · intro m c hm
    rcases hget m c hm with ⟨rfl, rfl⟩ | ⟨_, hm⟩
    · exact ⟨pre, post, (0, 0), hr, hp, fun _ => rfl, h0, h1⟩
    · exact I.holds.row m c hm
  · intro m k c d hm hk hmk hro
    rcases hget m c hm with ⟨hm1, _⟩ | ⟨hm1, hm'⟩ <;> rcases hget k d hk with ⟨hk1, _⟩ | ⟨hk1, hk'⟩
    · exact absurd (hm1.trans hk1.symm) hmk
    · rw [hm1]; exact (hB k d hk' hk1).symm
    · rw [hk1]; exact hB m c hm' hm1
    · exact I.holds.apart m k c d hm' hk' hmk hro
  · intro m c hm v hv
    rcases hget m c hm with ⟨_, rfl⟩ | ⟨_, hm⟩
    · exact hc v hv
    · exact I.hst m c hm v hv
  · intro m c hm
    rcases hget m c hm with ⟨rfl, _⟩ | ⟨_, hm⟩
    · exact ⟨hK, hnV⟩
    · exact I.hk m c hm
  · intro m c hm' hr' hx
    rcases hget m c hm' with ⟨rfl, _⟩ | ⟨_, hm'⟩
    · exact hm hx
    · exact I.own m c hm' hr' hx
  · intro m c hm' hx
    rcases hget m c hm' with ⟨rfl, _⟩ | ⟨_, hm'⟩
    · exact hf hx
    · exact I.sep m c hm' hx
theorem slice_stab {a : Addr} {n c n' c' : Nat} (hv : Stab K F (.slice (some a) n c)) (hc : c' = c) : Stab K F (.slice (some a) n' c') := by
  subst hc
  intro F' hs
  have := hv F' hs
  simp only [ren_ssome, Value.slice.injEq, Option.some.injEq] at this
  simp only [ren_ssome, this.1]
  congr 1
  exact this.2.2
theorem AInv.wrote' (I : AInv X F w0 M K vs h S w) {e : Operand → Value} {xs : Array Operand} (hx : ∀ x ∈ xs, Stab K F (e x)) {v u : Value} {h' : AHeap} {w' : World} (hW : Wrote F e xs h w v h' u w') (hn : ∀ x, h.next ≤ x → x < h'.next → ¬ K x ∧ x < VB) :
    h.next ≤ h'.next ∧ ∃ F', u = ren F' v ∧ Same K F F' ∧ AInv X F' w0 M (fun x => K x ∨ (h.next ≤ x ∧ x < h'.next)) (fun x => x = v) h' S w' := by
  have hno : ∀ {n m : Nat}, m = n → ∀ x, ¬ (n ≤ x ∧ x < m) := by intro n m hm x; omega
  have hmem : ∀ {cs : List Value}, (∀ c ∈ cs, ∃ m b', h.get m = some b' ∧ c ∈ b'.cells) → ∀ c ∈ cs, Stab K F c := fun hc c hcs => by
    obtain ⟨m, b', h1, h2⟩ := hc c hcs
    exact I.hst m b' h1 c h2
  cases hW with
  | same hv =>
    refine ⟨Nat.le_refl _, F, rfl, Same.refl _ _, (I.vals' fun y hy => ?_).kmono (fun x hx => .inl hx) (fun x hx => ?_)⟩
    · rw [hy]
      rcases hv with rfl | ⟨x, hxm, rfl⟩
      · exact Stab.plain rfl
      · exact hx x hxm
    · rcases hx with hx | hx
      · exact I.klim x hx
      · omega
  | @put _ n b cs pre post hv hb hro hl hc hr hp h0 h1 =>
    have hap : ∀ m c, (h.putO n none).get m = some c → F.blk m ≠ F.blk n := fun m c hm => by
      rw [AHeap.putO_get] at hm
      split at hm
      · cases hm
      · rename_i e; exact fun h2 => I.holds.apart n m b c hb hm (Ne.symm e) hro h2.symm
    have I1 := (I.kill n).turned hap (I.sep n b hb) (I.own n b hb hro) (pre ++ (cs.map (ren F)).toArray ++ post)
    have hcs : ∀ c ∈ cs, Stab K F c := fun c hcc => by
      rcases hc c hcc with h2 | ⟨x, hxm, h2⟩ | ⟨m, b', h2, h3⟩
      · exact I.hst n b hb c h2
      · exact Stab.cells (hx x hxm) c h2
      · exact I.hst m b' h2 c h3
    have I2 := I1.put (n := n) (b := { b with cells := cs }) (I.hk n b hb).1 (I.hk n b hb).2 (wrote_at hr) hp h0 h1 (fun m c hm _ => hap m c hm) (I.sep n b hb) (I.own n b hb hro) hcs (h' := h.put n { b with cells := cs }) (fun m => by
      rw [AHeap.put_get, AHeap.putO_get]; split <;> rfl)
    refine ⟨Nat.le_refl _, F, rfl, Same.refl _ _, (I2.vals' fun y hy => ?_).kmono (fun x hx => .inl hx) (fun x hx => ?_)⟩
    · rw [hy]
      rcases hv with rfl | ⟨a, sl, c, sc, x, hxm, hex, rfl⟩
      · exact Stab.undef
      · have := hx x hxm
        rw [hex] at this
        exact slice_stab this rfl
    · rcases hx with hx | hx
      · exact I.klim x hx
      · exact absurd hx (hno rfl x)
  | @grew n b cs s bs sl need pre post post' c hb hro hg hc hr hpost hp h1 =>
    have hnew := hn h.next (Nat.le_refl _) (by rw [show ((h.putO n none).addO (some ⟨cs, b.elem, false, some (s + 1)⟩)).next = h.next + 1 from rfl]; omega)
    have hap : ∀ m c, (h.putO n none).get m = some c → F.blk m ≠ F.blk n := fun m c hm => by
      rw [AHeap.putO_get] at hm
      split at hm
      · cases hm
      · rename_i e; exact fun h2 => I.holds.apart n m b c hb hm (Ne.symm e) hro h2.symm
    have hs : Same K F (F.set h.next (F.blk n) bs sl) := F.set_same hnew.1
    obtain ⟨e1, e2, e3⟩ := F.set_at h.next (F.blk n) bs sl
    have I1 := (((I.kill n).turned hap (I.sep n b hb) (I.own n b hb hro) post).same hs).kmono (K' := fun x => K x ∨ (h.next ≤ x ∧ x < h.next + 1)) (fun x hx => .inl hx) (fun x hx => by rcases hx with hx | hx; exact I.klim x hx; omega)
    have hcs := hmem hc
    have hrep := X.rep_same F (F.set h.next (F.blk n) bs sl) S w (hs.mono (fun m hm => I.hand m hm.1 hm.2)) I.rep
    have I2 := I1.put (n := h.next) (b := ⟨cs, b.elem, false, some (s + 1)⟩) (pre := pre) (post := post') (.inr ⟨Nat.le_refl _, by omega⟩) hnew.2 (by
        rw [e1, wrote_at hr, ← hpost]
        congr 3
        exact congrArg _ (congrArg _ (List.map_congr_left fun v hv => ((hcs v hv) _ hs).symm)))
      (by rw [e2]; exact hp) (fun h => by cases h) (fun s' h => by cases h; rw [e3]; exact h1)
      (fun m c hm hne => by
        rw [e1]
        have : m ≠ h.next := hne
        rw [show (F.set h.next (F.blk n) bs sl).blk m = F.blk m by simp [Emb.set, this]]
        exact hap m c hm)
      (by rw [e1]; exact fun hf => I.sep n b hb (hrep.2 _ hf)) (by rw [e1]; exact I.own n b hb hro) (fun c hc => (hcs c hc).move hs (fun x hx => .inl hx)) (h' := (h.putO n none).addO (some ⟨cs, b.elem, false, some (s + 1)⟩)) (fun m => rfl)
    refine ⟨Nat.le_succ _, _, ?_, hs, I2.vals' fun y hy => ?_⟩
    · simp [adr, e1, e2, e3]
    · rw [hy]
      intro F' hs'
      have := hs' h.next (.inr ⟨Nat.le_refl _, by omega⟩)
      simp [adr, ← this.1, ← this.2.1, ← this.2.2]
  | @fresh n b cs s sl need _ post hb hro hg hc hw h1 =>
    have hnew := hn h.next (Nat.le_refl _) (by rw [show ((h.putO n none).addO (some ⟨cs, b.elem, false, some (s + 1)⟩)).next = h.next + 1 from rfl]; omega)
    have hs : Same K F (F.set h.next w.heap.size 0 sl) := F.set_same hnew.1
    have hcs := hmem hc
    have I1 := (I.kill n).add (n := h.next) hnew.1 hnew.2 (h' := (h.putO n none).addO (some ⟨cs, b.elem, false, some (s + 1)⟩)) (ob := some ⟨cs, b.elem, false, some (s + 1)⟩) (bk := w.heap.size) (bs := 0) (sl := sl) (fun m => rfl) (fun b' hb' => by cases hb'; exact hcs)
      (.inr ⟨_, post, rfl, rfl, rfl, rfl, hw, fun h => (by cases h), fun s' h => (by cases h; exact h1)⟩)
    obtain ⟨e1, e2, e3⟩ := F.set_at h.next w.heap.size 0 sl
    refine ⟨Nat.le_succ _, _, ?_, hs, (I1.kmono (fun x hx => ?_) (fun x hx => ?_)).vals' fun y hy => ?_⟩
    · simp [adr, e1, e2, e3]
    · rcases hx with hx | rfl
      · exact .inl hx
      · exact .inr ⟨Nat.le_refl _, Nat.lt_succ_self _⟩
    · rcases hx with hx | hx
      · exact I.klim x hx
      · have : x < h.next + 1 := hx.2
        have := hnew.2
        omega
    · rw [hy]
      intro F' hs'
      have := hs' h.next (.inr ⟨Nat.le_refl _, Nat.lt_succ_self _⟩)
      simp [adr, ← this.1, ← this.2.1, ← this.2.2]
end
end Go.Proofs.Ytjdbknnacaacaaa
namespace Go.Proofs.Ytjdbknnacaacaaa
open Go Go.RowKit
set_option linter.unusedSimpArgs false
set_option linter.unusedVariables false
def Emb.comp (F E : Emb) : Emb := ⟨fun n => F.blk (E.blk n), fun n => F.base (E.blk n) + E.base n, fun n => E.slack n + F.slack (E.blk n)⟩
theorem ren_comp (F E : Emb) : ∀ v : Value, ren F (ren E v) = ren (F.comp E) v
  | .pointer (some a) => by simp [adr, Emb.comp, Nat.add_assoc]
  | .pointer none => by simp
  | .slice (some a) n c => by simp [adr, Emb.comp, Nat.add_assoc]
  | .slice none n c => by simp
  | .iface t v => by simp [ren_comp F E v]
  | .agg cs => by
    simp only [ren_agg, Array.map_map]
    congr 1
    exact Array.map_congr_left fun x hx => ren_comp F E x
  | .tuple cs => by
    simp only [ren_tuple, Array.map_map]
    congr 1
    exact Array.map_congr_left fun x hx => ren_comp F E x
  | .func fn xs ys => by
    simp only [ren_func, Array.map_map]
    congr 1
    · exact Array.map_congr_left fun x hx => ren_comp F E x
    · exact Array.map_congr_left fun x hx => ren_comp F E x
  | .bool b => by simp
  | .int k n => by simp
  | .float k n => by simp [ren]
  | .complex k n m => by simp [ren]
  | .string s => by simp
  | .map r => by simp [ren]
  | .chan r => by simp [ren]
  | .nilFunc => by simp
  | .nilIface => by simp
termination_by v => SizeOf.sizeOf v
decreasing_by all_goals (simp_wf; first | omega | (have := Array.sizeOf_lt_of_mem hx; omega))
section
variable {P : Program} {σ : Type} {X : Face P σ}
theorem step_callx {b : Frame} {a : Act} {ops : Array Oper} {i : Nat} {rest : List Nat} {k : List Item} {cs : List Frame} {w w1 : World} {o : Oper} {f : FuncId} {args : Array Value} {R : Ending → World → Prop} {Q : Value → World → Prop} (ho : ops[i]? = some o) (hw : Region.wanted o (yielded ops a.tmps) = true)
    (hr : (execOp a.eval o).run P w = .ok (.enter f args) w1) (hc : Calls P f args w1 R) (hR : ∀ e w', R e w' → ∃ v, e = .returned v ∧ Q v w') :
    ∃ v w', Q v w' ∧ Steps P (lone (b.at a (.inRegion ops (i :: rest) :: k)) cs w) (lone (b.at (a.put o.dst v) (.inRegion ops rest :: k)) cs w') := by
  have hg := stepG_op (P := P) (b := b) (k := k) (cs := cs) (w := w) (rest := rest) ho hw
  obtain ⟨e, w'', fr, hq, hsteps, _, hleave⟩ := hc (b.at a (.inRegion ops (i :: rest) :: k) :: cs)
  obtain ⟨v, rfl, hq2⟩ := hR _ _ hq
  have hfin : (b.at a (.inRegion ops (i :: rest) :: k)).finish v = b.at (a.put o.dst v) (.inRegion ops rest :: k) := by
    rw [Frame.finish_at, ho]; rfl
  have henter : step P (lone (b.at a (.inRegion ops (i :: rest) :: k)) cs w) = .next (lone (Frame.enter P f args .normal) (b.at a (.inRegion ops (i :: rest) :: k) :: cs) w1) :=
    step_lone_go (by rw [hg]; simp [stepG.apply, hr, Frame.at])
  refine ⟨v, w'', hq2, .head henter (Steps.trans hsteps (.one ?_))⟩
  rw [← hfin]; exact step_leave_returned hleave
def OpWp (P : Program) (o : Oper) (ρ : Operand → Value) (w : World) (Q : Value → World → Prop) : Prop :=
  (∃ u w', ((execOp ρ o).run P w = .ok (.value u) w' ∨ ((execOp ρ o).run P w = .ok .skip w' ∧ u = undef)) ∧ Q u w') ∨
  (∃ f args w1, (execOp ρ o).run P w = .ok (.enter f args) w1 ∧ Calls P f args w1 fun en w' => ∃ u, en = .returned u ∧ Q u w')
theorem OpWp.wp {o : Oper} {a : Act} {w : World} {R : Act → World → Prop} {Q : Exit → Act → World → Prop} (h : OpWp P o a.eval w fun u w' => R (a.put o.dst u) w') : o.wp P a w R Q := by
  unfold Oper.wp
  rcases h with ⟨u, w', hr, hq⟩ | ⟨f, args, w1, hr, hq⟩
  · rcases hr with hr | ⟨hr, rfl⟩
    · rw [hr]; exact hq
    · rw [hr]; exact hq
  · rw [hr]
    exact hq.mono (by rintro en w' ⟨u, rfl, h'⟩; exact h')
theorem OpWp.mono {o : Oper} {ρ : Operand → Value} {w : World} {Q Q' : Value → World → Prop} (h : OpWp P o ρ w Q) (hq : ∀ u w', Q u w' → Q' u w') : OpWp P o ρ w Q' := by
  rcases h with ⟨u, w', hr, h'⟩ | ⟨f, args, w1, hr, h'⟩
  · exact .inl ⟨u, w', hr, hq _ _ h'⟩
  · exact .inr ⟨f, args, w1, hr, h'.mono (by rintro en w' ⟨u, rfl, h2⟩; exact ⟨u, rfl, hq _ _ h2⟩)⟩
theorem OpWp.congr {o : Oper} {ρ ρ' : Operand → Value} {w : World} {Q : Value → World → Prop} (h : OpWp P o ρ w Q) (he : execOp ρ' o = execOp ρ o) : OpWp P o ρ' w Q := by
  unfold OpWp at h ⊢
  rw [he]; exact h
theorem OpWp.steps {b : Frame} {a : Act} {ops : Array Oper} {i : Nat} {rest : List Nat} {k : List Item} {cs : List Frame} {w : World} {o : Oper} {Q : Value → World → Prop} (ho : ops[i]? = some o) (hw : Region.wanted o (yielded ops a.tmps) = true) (h : OpWp P o a.eval w Q) :
    ∃ v w', Q v w' ∧ Steps P (lone (b.at a (.inRegion ops (i :: rest) :: k)) cs w) (lone (b.at (a.put o.dst v) (.inRegion ops rest :: k)) cs w') := by
  rcases h with ⟨u, w', hr, h'⟩ | ⟨f, args, w1, hr, h'⟩
  · rcases hr with hr | ⟨hr, rfl⟩
    · exact ⟨u, w', h', .one (step_value ho hw hr)⟩
    · exact ⟨undef, w', h', .one (step_skipv ho hw hr)⟩
  · exact step_callx ho hw hr h' (fun en w' h => h)
def KAdd (K : Nat → Prop) (n m c c' : Nat) (x : Nat) : Prop := K x ∨ (n ≤ x ∧ x < m) ∨ (VB + c ≤ x ∧ x < VB + c')
def OpSem (X : Face P σ) (o : Oper) (e : Operand → Value) (h : AHeap) (S : σ) (v : Value) (h' : AHeap) (S' : σ) : Prop :=
  h.next ≤ h'.next ∧ X.cnt S ≤ X.cnt S' ∧ (∀ n b, h.next ≤ n → h'.get n = some b → (∀ m c, h.get m = some c → m < h.next) → b.ro = false) ∧ ∀ (K : Nat → Prop) (F : Emb) (w0 w : World) (M : Nat → Prop) (ρ : Operand → Value), (∀ x, h.next ≤ x → x < h'.next → ¬ K x ∧ x < VB) → (∀ x ∈ o.op.operands, ρ x = ren F (e x)) →
    AInv X F w0 M K (fun v => ∃ x ∈ o.op.operands, v = e x) h S w → OpWp P o ρ w fun u w' => ∃ F', u = ren F' v ∧ Same K F F' ∧ AInv X F' w0 M (KAdd K h.next h'.next (X.cnt S) (X.cnt S')) (fun x => x = v) h' S' w'
theorem kadd_same {K : Nat → Prop} {n c : Nat} {x : Nat} (h : KAdd K n n c c x) : K x := by
  rcases h with h | h | h
  · exact h
  · omega
  · omega
theorem newA_ro {e : Operand → Value} {h : AHeap} {n : Nat} {o : Op} {v : Value} {ob : Option Blk} (hv : newA P e h n o = some (v, ob)) : ∀ b, ob = some b → b.ro = false := by
  intro b hb
  subst hb
  unfold newA endA at hv
  repeat' split at hv
  all_goals first
    | (cases hv; done)
    | (cases hv; rfl)
    | (cases hf : fillA _ _ _ with
        | none => rw [hf] at hv; cases hv
        | some cs => rw [hf] at hv; cases hv; rfl)
theorem wrA_ro {e : Operand → Value} {h h' : AHeap} {o : Op} {v : Value} (hv : wrA P e h o = some (v, h')) (hl : ∀ m c, h.get m = some c → m < h.next) : ∀ n b, h.next ≤ n → h'.get n = some b → b.ro = false := by
  intro n b hn hb
  unfold wrA at hv
  repeat' split at hv
  all_goals first
    | (cases hv; done)
    | (cases hv; have := hl n b hb; omega)
    | (cases hv; rw [AHeap.addO_get] at hb; split at hb; (cases hb; rfl); rw [AHeap.putO_get] at hb; split at hb; cases hb; have := hl n b hb; omega)
    | (cases hv; rw [AHeap.put_get] at hb; split at hb; (rename_i he; have := hl _ _ ‹h.get _ = some _›; omega); have := hl n b hb; omega)
    | (rename_i a _; cases hs' : storeA P h _ a _ with
        | none => rw [hs'] at hv; cases hv
        | some h1 =>
          rw [hs'] at hv
          cases hv
          obtain ⟨b0, s, hb0, _, _, _, _, _, _, rfl⟩ := storeA_spec hs'
          rw [AHeap.put_get] at hb; split at hb
          · rename_i he; have := hl _ _ hb0; omega
          · have := hl n b hb; omega)
theorem op0_sem {o : Oper} {e : Operand → Value} {h h' : AHeap} {S S' : σ} {v : Value} (H : Op0 X o e h S v h' S') : OpSem X o e h S v h' S' := by
  rcases H with ⟨hv, rfl, rfl⟩ | ⟨ob, hv, rfl, rfl⟩ | ⟨hv, rfl⟩ | ⟨f, g, args, hca, hf, hg, hp, rfl⟩
  · refine ⟨Nat.le_refl _, Nat.le_refl _, fun n b hn hb hl => (by have := hl n b hb; omega), fun K F w0 w M ρ hn hρ I => .inl ⟨ren F v, w, .inl (valA_run I.holds hρ hv), F, rfl, Same.refl _ _, (I.vals' ?_).kmono (fun x hx => .inl hx) (fun x hx => I.klim x (kadd_same hx))⟩⟩
    rintro _ rfl F' hs
    have h1 := valA_run (P := P) I.holds hρ hv
    have h2 := valA_run (P := P) (ρ := ρ) (I.holds.same (fun n b hb => (I.hk n b hb).1) I.hst hs) (fun x hx => by rw [hρ x hx, I.vst _ ⟨x, hx, rfl⟩ F' hs]) hv
    rw [h1] at h2
    simpa using h2.symm
  · refine ⟨Nat.le_succ _, Nat.le_refl _, fun n b hn hb hl => ?_, fun K F w0 w M ρ hn hρ I => ?_⟩
    · rw [AHeap.addO_get] at hb
      split at hb
      · exact newA_ro hv b hb
      · have := hl n b hb; omega
    have hnew := hn h.next (Nat.le_refl _) (Nat.lt_succ_self _)
    obtain ⟨u, w', bk, bs, sl, hr, hu, hw⟩ := newA_run (P := P) (ρ := ρ) I.holds hρ hv
    have hcells : ∀ b, ob = some b → ∀ c ∈ b.cells, Stab K F c := by
      rintro b rfl c hc
      intro F' hs
      obtain ⟨u', w'', bk', bs', sl', hr', hu', hw'⟩ := newA_run (P := P) (ρ := ρ) (I.holds.same (fun n b hb => (I.hk n b hb).1) I.hst hs) (fun x hx => by rw [hρ x hx, I.vst _ ⟨x, hx, rfl⟩ F' hs]) hv
      rw [hr] at hr'
      simp only [Result.ok.injEq, Next.value.injEq] at hr'
      rcases hw with ⟨h0, _⟩ | ⟨b1, post, h0, _, _, _, hg, _⟩
      · cases h0
      · cases h0
        rcases hw' with ⟨h0, _⟩ | ⟨b1, post', h0, _, _, _, hg', _⟩
        · cases h0
        · cases h0
          rw [← hr'.2] at hg'
          have h3 := hg.heap.symm.trans hg'.heap
          have h4 : (b.cells.map (ren F)).toArray ++ post = (b.cells.map (ren F')).toArray ++ post' := by
            have := congrArg (fun A : Array Obj => A[w.heap.size]?) h3
            simpa using this
          obtain ⟨i, hi, rfl⟩ := List.mem_iff_getElem.1 hc
          have h5 := congrArg (fun A : Array Value => A[i]?) h4
          simp only [Array.getElem?_append, List.size_toArray, List.length_map, hi, if_true, List.getElem?_toArray, List.getElem?_map, List.getElem?_eq_getElem hi, Option.map_some, Option.some.injEq] at h5
          exact h5.symm
    have I' := I.add (n := h.next) hnew.1 hnew.2 (h' := h.addO ob) (ob := ob) (bk := bk) (bs := bs) (sl := sl) (fun m => rfl) hcells hw
    obtain ⟨e1, e2, e3⟩ := F.set_at h.next bk bs sl
    refine .inl ⟨u, w', .inl hr, F.set h.next bk bs sl, (hu _ e1 e2 e3).symm, F.set_same hnew.1, (I'.kmono (fun x hx => ?_) (fun x hx => ?_)).vals' ?_⟩
    · rcases hx with hx | rfl
      · exact .inl hx
      · exact .inr (.inl ⟨Nat.le_refl _, Nat.lt_succ_self _⟩)
    · rcases hx with hx | hx | hx
      · exact I.klim x hx
      · have : x < h.next + 1 := hx.2
        have := hnew.2
        omega
      · omega
    · rintro _ rfl F' hs
      have := hs h.next (.inr (.inl ⟨Nat.le_refl _, Nat.lt_succ_self _⟩))
      rw [hu _ e1 e2 e3]
      exact hu F' (by rw [← this.1, e1]) (by rw [← this.2.1, e2]) (by rw [← this.2.2, e3])
  · have hle : h.next ≤ h'.next := wrA_next hv
    refine ⟨hle, Nat.le_refl _, fun n b hn hb hl => wrA_ro hv hl n b hn hb, fun K F w0 w M ρ hn hρ I => ?_⟩
    obtain ⟨u, w', hr, hW⟩ := wrA_run (P := P) (ρ := ρ) I.holds hρ hv
    obtain ⟨_, F', hu, hs, I'⟩ := I.wrote' (fun x hx => I.vst _ ⟨x, hx, rfl⟩) hW hn
    refine .inl ⟨u, w', hr, F', hu, hs, I'.kmono (fun x hx => ?_) (fun x hx => ?_)⟩
    · rcases hx with hx | hx
      · exact .inl hx
      · exact .inr (.inl hx)
    · rcases hx with hx | hx | hx
      · exact I.klim x hx
      · have := (hn x hx.1 hx.2).2; omega
      · omega
  · obtain ⟨hcn, hhand⟩ := X.prim_hand f args S v S' hp
    refine ⟨Nat.le_refl _, hcn, fun n b hn hb hl => (by have := hl n b hb; omega), fun K F w0 w M ρ hn hρ I => ?_⟩
    unfold goB at hg
    rw [Bool.and_eq_true] at hg
    have hrun := callA_run (P := P) (ρ := ρ) (F := F) (w := w) hρ hca hf hg.1 (by simpa using hg.2)
    refine .inr ⟨f, _, w, hrun, (X.prim_ok f args S v S' F w hp I.rep).mono ?_⟩
    rintro en w' ⟨F', hs0, rfl, hrep, hkept, hfp⟩
    have hs : Same K F F' := hs0.mono (fun x hx => I.klim x hx)
    have I1 := I.same hs
    have he : ∀ n b, h'.get n = some b → F'.blk n = F.blk n := fun n b hb => (hs n (I.hk n b hb).1).1.symm
    have hK : ∀ x, K x → KAdd K h'.next h'.next (X.cnt S) (X.cnt S') x := fun x hx => .inl hx
    refine ⟨_, rfl, F', rfl, hs, I1.holds.kept (fun n b hb => by rw [he n b hb]; exact hkept.block _ (I.holds.blk_lt hb) (I.sep n b hb)), hrep, ?_, fun n b hb v hv => (I1.hst n b hb v hv).move (Same.refl _ _) hK, fun n b hb => ⟨.inl (I.hk n b hb).1, (I.hk n b hb).2⟩, fun n h1 h2 => ?_, fun x hx => ?_, I.kept.trans hkept (fun b hb hf => I.fown b hf hb), I1.own, fun b hb hx => ?_, fun n b hb hx => ?_⟩
    · rintro _ rfl
      exact Clo.stab (fun G G' hG => hhand G G' (hG.mono (fun n hn => by
        by_cases h : n < VB + X.cnt S
        · exact .inl (I.hand n hn.1 h)
        · exact .inr (.inr ⟨by omega, hn.2⟩)))) F'
    · by_cases h : n < VB + X.cnt S
      · exact .inl (I.hand n h1 h)
      · exact .inr (.inr ⟨by omega, h2⟩)
    · rcases hx with hx | hx | hx
      · have := I.klim x hx; omega
      · omega
      · omega
    · rcases hfp b hb with hb | hb
      · exact I.fown b hb hx
      · have := I.kept.size; omega
    · rw [he n b hb] at hx
      rcases hfp _ hx with hx | hx
      · exact I.sep n b hb hx
      · have := I.holds.blk_lt hb; omega
def Simul (X : Face P σ) (fn : Func) (A : Conf σ → Prop) (c : Conf σ) : Prop :=
  ∀ (b : Frame) (cs : List Frame) (F : Emb) (w0 w : World) (M : Nat → Prop) (m : Machine), P.funcs[b.fn]? = some fn → b.kind = .normal → Stands P F b cs c w m → InvC X F w0 M c w →
    ∃ c' F' w' m', A c' ∧ Steps P m m' ∧ Stands P F' b cs c' w' m' ∧ InvC X F' w0 M c' w' ∧ Same (Kn (heap c).next (X.cnt (st c))) F F' ∧ X.cnt (st c) ≤ X.cnt (st c') ∧ (heap c).next ≤ (heap c').next
theorem calls_of_simul {f : FuncId} {g : Func} {c : Code} {zs : Array Value} {hc h1 : AHeap} {S S' : σ} {v : Value} {F : Emb} {w : World} {M : Nat → Prop} (hf : P.funcs[f]? = some g) (hbody : g.body = some c)
    (hrun : Simul X g (fun x => x = .done v h1 S') (.run (enterL g c zs).1 (enterL g c zs).2 hc S)) (I : AInv X F w M (Kn hc.next (X.cnt S)) (fun u => u ∈ (enterL g c zs).2) hc S w) (hl : hc.next ≤ VB) :
    Calls P f (zs.map (ren F)) w fun e w' => ∃ F', e = .returned (ren F' v) ∧ AInv X F' w M (Kn h1.next (X.cnt S')) (fun u => u ∈ [v]) h1 S' w' ∧ Same (Kn hc.next (X.cnt S)) F F' ∧ X.cnt S ≤ X.cnt S' ∧ hc.next ≤ h1.next := by
  intro cs
  let b : Frame := { (default : Frame) with fn := f, kind := .normal }
  have henter : Frame.enter P f (zs.map (ren F)) .normal = b.at (actF F (enterL g c zs).2) (enterL g c zs).1 := by
    simp [Frame.enter, Frame.at, hf, hbody, b, actF, enterL, ren_undef]
  obtain ⟨c', F', w', m', hA, hst, hS, hI, hs, hcn, hnx⟩ := hrun b cs F w w M _ hf rfl rfl ⟨I, hl⟩
  subst hA
  obtain ⟨fr, rfl, hfn, hleave⟩ := hS
  exact ⟨.returned (ren F' v), w', fr, ⟨F', rfl, hI.1, hs, hcn, hnx⟩, by rw [henter]; exact hst, hfn, hleave⟩
theorem lent_inv {E F : Emb} {h hc : AHeap} {S : σ} {w0 w : World} {M K : Nat → Prop} {vs vs' : Value → Prop} (I : AInv X F w0 M K vs h S w) (L : Lends (X.cnt S) E h hc) (hv : ∀ v, vs' v → Clo (Kn hc.next (X.cnt S)) v) :
    AInv X (F.comp E) w (fun b => X.fp F S b ∨ ∃ n b0, hc.get n = some b0 ∧ b0.ro = false ∧ (F.comp E).blk n = b) (Kn hc.next (X.cnt S)) vs' hc S w := by
  have hsr : Same (fun n => VB ≤ n ∧ n < VB + X.cnt S) F (F.comp E) := fun n hn => by
    obtain ⟨e1, e2, e3⟩ := L.hand n hn.1
    simp [Emb.comp, e1, e2, e3]
  have hrs := X.rep_same F (F.comp E) S w hsr I.rep
  have hro : ∀ n b, hc.get n = some b → b.ro = false → ∃ b0, h.get (E.blk n) = some b0 ∧ b0.ro = false := fun n b hb hr => by
    obtain ⟨b0, h0, _, h2 | h2⟩ := L.row n b hb
    · exact ⟨b0, h0, h2.2.2.2.2 hr⟩
    · rw [h2.1] at hr; cases hr
  refine ⟨⟨?_, ?_⟩, hrs.1, fun v h => (hv v h).stab _, fun n b hb u hu => (L.clo n b hb u hu).stab _, fun n b hb => ⟨.inl (L.low n b hb), by have := L.low n b hb; have := L.lim; omega⟩, fun n h1 h2 => .inr ⟨h1, h2⟩, fun n hn => ?_, Kept.refl _ _, fun n b hb hr _ => .inr ⟨n, b, hb, hr, rfl⟩, fun b hb _ => .inl (hrs.2 b hb), ?_⟩
  · intro n b hb
    obtain ⟨b0, h0, he, hcase⟩ := L.row n b hb
    obtain ⟨pre, post, fr, r1, r2, r3, r4, r5⟩ := I.holds.row _ _ h0
    rcases hcase with ⟨hcs, hbs, hsl, hgr, hrw⟩ | ⟨hr, hgr, l, r, hcs, hl⟩
    · refine ⟨pre, post, fr, ?_, by simp only [Emb.comp, hbs, Nat.add_zero]; exact r2, fun h => r3 (hrw h), fun h => ?_, fun s h => ?_⟩
      · show w.heap[F.blk (E.blk n)]? = _
        rw [r1, he, hcs, List.map_map]
        congr 5
        exact List.map_congr_left fun u _ => ren_comp F E u
      · rcases hgr with hgr | hgr
        · simp only [Emb.comp, hsl, Nat.zero_add]; exact r4 (hgr ▸ h)
        · rw [hgr] at h; cases h
      · rcases hgr with hgr | hgr
        · simp only [Emb.comp, hsl, Nat.zero_add]; exact r5 s (hgr ▸ h)
        · rw [hgr] at h; cases h
    · refine ⟨pre ++ (l.map (ren F)).toArray, (r.map (ren F)).toArray ++ post, fr, ?_, ?_, fun h => (by rw [hr] at h; cases h), fun h => (by rw [hgr] at h; cases h), fun s h => (by rw [hgr] at h; cases h)⟩
      · show w.heap[F.blk (E.blk n)]? = _
        rw [r1, he, hcs]
        congr 2
        have : (b.cells.map (ren E)).map (ren F) = b.cells.map (ren (F.comp E)) := by
          rw [List.map_map]; exact List.map_congr_left fun u _ => ren_comp F E u
        rw [List.map_append, List.map_append, this]
        apply Array.ext'
        simp [List.append_assoc]
      · simp [Emb.comp, r2, hl]
  · intro n m b c hb hc' hne hr
    obtain ⟨b0, h0, hr0⟩ := hro n b hb hr
    obtain ⟨c0, h1, _⟩ := L.row m c hc'
    exact I.holds.apart _ _ b0 c0 h0 h1 (L.apart n m b c hb hc' hne hr) hr0
  · rcases hn with hn | hn
    · have := L.lim; omega
    · exact hn.2
  · intro n b hb hx
    obtain ⟨b0, h0, _⟩ := L.row n b hb
    exact I.sep _ _ h0 (hrs.2 _ hx)
theorem call_sem {o : Oper} {e : Operand → Value} {h h' : AHeap} {S S' : σ} {v : Value} {f : FuncId} {g : Func} {c : Code} {zs : Array Value} {E Q : Emb} {hc h1 : AHeap} {ex : List Nat} {v0 : Value}
    (C : CallOK X o e h S v h' S' f g c zs E Q hc h1 ex v0) (hcn : X.cnt S ≤ X.cnt S') (hrun : Simul X g (fun x => x = .done v0 h1 S') (.run (enterL g c zs).1 (enterL g c zs).2 hc S)) : OpSem X o e h S v h' S' := by
  obtain ⟨hca, hf, hg, hbody, L, hclo, B⟩ := C
  have hnx : h.next ≤ h'.next := by rw [B.next]; omega
  refine ⟨hnx, hcn, fun n b hn hb hl => ?_, fun K F w0 w M ρ hn hρ I => ?_⟩
  · have hm : n < h'.next := by
      rcases Nat.lt_or_ge n h'.next with hm | hm
      · exact hm
      · exfalso
        rcases B.old n (.inr hm) with ⟨h2, _⟩ | ⟨n', b0, h2, _, h4, _⟩
        · rw [h2] at hb; have := hl n b hb; omega
        · obtain ⟨b1, e1, _⟩ := L.row n' b0 h2
          rw [h4] at e1
          have := hl n b1 e1; omega
    rw [B.next] at hm
    obtain ⟨j, rfl⟩ := Nat.exists_eq_add_of_le hn
    have hj : ex[j]? = some ex[j] := List.getElem?_eq_getElem (by omega)
    rw [B.fresh j _ hj] at hb
    cases h6 : h1.get ex[j] with
    | none => rw [h6] at hb; cases hb
    | some b1 =>
      rw [h6] at hb
      cases hb
      exact B.own _ b1 h6 (.inr (List.mem_of_getElem? hj))
  unfold goB at hg
  rw [Bool.and_eq_true] at hg
  have hop := callA_run (P := P) (ρ := ρ) (F := F) (w := w) hρ hca hf hg.1 (by simpa using hg.2)
  have hzs : (zs.map (ren E)).map (ren F) = zs.map (ren (F.comp E)) := by
    rw [Array.map_map]; exact Array.map_congr_left fun u _ => ren_comp F E u
  have Ic := lent_inv I L (vs' := fun u => u ∈ (enterL g c zs).2) (fun u hu => by
    simp only [enterL, List.mem_append] at hu
    rcases hu with hu | hu
    · exact hclo u hu
    · rw [List.eq_of_mem_replicate hu]; exact Clo.plain (by simp [undef, plainB]))
  have hcalls := calls_of_simul hf hbody hrun Ic L.lim
  refine .inr ⟨f, _, w, hop, ?_⟩
  rw [hzs]
  refine hcalls.mono ?_
  rintro en w' ⟨F1, rfl, I1, hs1, _, hnx1⟩
  -- the embedding then
  let F2 : Emb := ⟨fun x => if h.next ≤ x ∧ x < h'.next then F1.blk (ex.getD (x - h.next) 0) else if VB ≤ x then F1.blk x else F.blk x,
    fun x => if h.next ≤ x ∧ x < h'.next then F1.base (ex.getD (x - h.next) 0) else if VB ≤ x then F1.base x else F.base x,
    fun x => if h.next ≤ x ∧ x < h'.next then F1.slack (ex.getD (x - h.next) 0) else if VB ≤ x then F1.slack x else F.slack x⟩
  have hhand : ∀ x, VB ≤ x → F2.blk x = F1.blk x ∧ F2.base x = F1.base x ∧ F2.slack x = F1.slack x := fun x hx => by
    have : ¬ (h.next ≤ x ∧ x < h'.next) := fun hc => by have := (hn x hc.1 hc.2).2; omega
    simp [F2, this, hx]
  have hold2 : ∀ x, x < VB → K x → F2.blk x = F.blk x ∧ F2.base x = F.base x ∧ F2.slack x = F.slack x := fun x hx hk => by
    have : ¬ (h.next ≤ x ∧ x < h'.next) := fun hc => (hn x hc.1 hc.2).1 hk
    have h2 : ¬ VB ≤ x := by omega
    simp [F2, this, h2]
  have hnew2 : ∀ j n, ex[j]? = some n → F2.blk (h.next + j) = F1.blk n ∧ F2.base (h.next + j) = F1.base n ∧ F2.slack (h.next + j) = F1.slack n := fun j n hj => by
    have hj' := (List.getElem?_eq_some_iff.1 hj).1
    have : h.next ≤ h.next + j ∧ h.next + j < h'.next := by rw [B.next]; omega
    simp [F2, this, List.getD, hj]
  have hs1h : ∀ x, VB ≤ x → x < VB + X.cnt S → F1.blk x = F.blk x ∧ F1.base x = F.base x ∧ F1.slack x = F.slack x := fun x h1 h2 => by
    obtain ⟨e1, e2, e3⟩ := hs1 x (.inr ⟨h1, h2⟩)
    obtain ⟨a1, a2, a3⟩ := L.hand x h1
    simp only [Emb.comp, a1, a2, a3, Nat.add_zero, Nat.zero_add] at e1 e2 e3
    exact ⟨e1.symm, e2.symm, e3.symm⟩
  have hs : Same K F F2 := fun x hx => by
    by_cases hlt : x < VB
    · obtain ⟨a1, a2, a3⟩ := hold2 x hlt hx
      exact ⟨a1.symm, a2.symm, a3.symm⟩
    · obtain ⟨a1, a2, a3⟩ := hhand x (by omega)
      obtain ⟨b1, b2, b3⟩ := hs1h x (by omega) (I.klim x hx)
      exact ⟨(a1.trans b1).symm, (a2.trans b2).symm, (a3.trans b3).symm⟩
  -- what is lent
  have hlentK : ∀ n b, hc.get n = some b → K (E.blk n) ∧ E.blk n < VB := fun n b hb => by
    obtain ⟨b0, h0, _⟩ := L.row n b hb
    exact I.hk _ _ h0
  have hKK : ∀ x, K x → KAdd K h.next h'.next (X.cnt S) (X.cnt S') x := fun x hx => .inl hx
  have hD : ∀ G : Emb, Same (KAdd K h.next h'.next (X.cnt S) (X.cnt S')) F2 G → Same (fun n => (∃ b, hc.get n = some b) ∨ n ∈ ex ∨ (VB ≤ n ∧ n < VB + X.cnt S')) F1 (G.comp Q) := by
    intro G hG n hn'
    rcases hn' with ⟨b, hb⟩ | hn' | hn'
    · obtain ⟨q1, q2, q3⟩ := B.lent n (L.low n b hb)
      obtain ⟨k1, k2⟩ := hlentK n b hb
      obtain ⟨a1, a2, a3⟩ := hold2 _ k2 k1
      obtain ⟨g1, g2, g3⟩ := hG _ (hKK _ k1)
      obtain ⟨e1, e2, e3⟩ := hs1 n (.inl (L.low n b hb))
      simp only [Emb.comp, q1, q2, q3] at *
      exact ⟨by rw [← g1, a1, e1], by rw [← g2, a2, e2], by rw [← g3, a3, e3]⟩
    · obtain ⟨j, hj⟩ := List.mem_iff_getElem?.1 hn'
      obtain ⟨_, _, q1, q2, q3⟩ := B.more j n hj
      obtain ⟨a1, a2, a3⟩ := hnew2 j n hj
      have hj' := (List.getElem?_eq_some_iff.1 hj).1
      obtain ⟨g1, g2, g3⟩ := hG (h.next + j) (.inr (.inl ⟨by omega, by rw [B.next]; omega⟩))
      simp only [Emb.comp, q1, q2, q3, Nat.add_zero, Nat.zero_add]
      exact ⟨by rw [← g1, a1], by rw [← g2, a2], by rw [← g3, a3]⟩
    · obtain ⟨q1, q2, q3⟩ := B.hand n hn'.1
      obtain ⟨a1, a2, a3⟩ := hhand n hn'.1
      have hk : KAdd K h.next h'.next (X.cnt S) (X.cnt S') n := by
        by_cases hlt : n < VB + X.cnt S
        · exact .inl (I.hand n hn'.1 hlt)
        · exact .inr (.inr ⟨by omega, hn'.2⟩)
      obtain ⟨g1, g2, g3⟩ := hG n hk
      simp only [Emb.comp, q1, q2, q3, Nat.add_zero, Nat.zero_add]
      exact ⟨by rw [← g1, a1], by rw [← g2, a2], by rw [← g3, a3]⟩
  have hval : ∀ (G : Emb), Same (KAdd K h.next h'.next (X.cnt S) (X.cnt S')) F2 G → ∀ u, Clo (fun n => (∃ b, hc.get n = some b) ∨ n ∈ ex ∨ (VB ≤ n ∧ n < VB + X.cnt S')) u → ren G (ren Q u) = ren F1 u := fun G hG u hu => by
    rw [ren_comp]; exact (hu F1 (G.comp Q) (hD G hG)).symm
  have hstab : ∀ u, Clo (fun n => (∃ b, hc.get n = some b) ∨ n ∈ ex ∨ (VB ≤ n ∧ n < VB + X.cnt S')) u → Stab (KAdd K h.next h'.next (X.cnt S) (X.cnt S')) F2 (ren Q u) := fun u hu G hG =>
    (hval G hG u hu).trans (hval F2 (Same.refl _ _) u hu).symm
  have I2 := I.same hs
  have hMc : ∀ b, b < w0.heap.size → (X.fp F S b ∨ ∃ n b0, hc.get n = some b0 ∧ b0.ro = false ∧ (F.comp E).blk n = b) → M b := fun b hb hm => by
    rcases hm with hm | ⟨n, b0, h0, hr, rfl⟩
    · exact I.fown b hm hb
    · obtain ⟨b1, e1, _, h2 | h2⟩ := L.row n b0 h0
      · exact I.own _ _ e1 (h2.2.2.2.2 hr) hb
      · rw [h2.1] at hr; cases hr
  have hrep2 := X.rep_same F1 F2 S' w' (fun n hn' => by obtain ⟨a1, a2, a3⟩ := hhand n hn'.1; exact ⟨a1.symm, a2.symm, a3.symm⟩) I1.rep
  -- where each row comes from
  have hsrc : ∀ m b, h'.get m = some b → ((m < h.next ∨ h'.next ≤ m) ∧ h.get m = some b ∧ ¬ (X.fp F S (F.blk m) ∨ ∃ n b0, hc.get n = some b0 ∧ b0.ro = false ∧ (F.comp E).blk n = F.blk m)) ∨
      ∃ n b1, h1.get n = some b1 ∧ ((∃ b0, hc.get n = some b0 ∧ b0.ro = false) ∨ n ∈ ex) ∧ b = { b1 with cells := b1.cells.map (ren Q) } ∧ F2.blk m = F1.blk n ∧ F2.base m = F1.base n ∧ F2.slack m = F1.slack n ∧ KAdd K h.next h'.next (X.cnt S) (X.cnt S') m ∧ m < VB ∧ ((E.blk n = m ∧ n < hc.next) ∨ ∃ j, ex[j]? = some n ∧ m = h.next + j) := by
    intro m b hb
    by_cases hlt : m < h.next ∨ h'.next ≤ m
    · rcases B.old m hlt with ⟨h2, h3⟩ | ⟨n, b0, h2, h3, h4, h5⟩
      · refine .inl ⟨hlt, by rw [← h2]; exact hb, ?_⟩
        rw [h2] at hb
        rintro (h4 | ⟨n, b0, h4, h5, h6⟩)
        · exact I.sep m b hb h4
        · obtain ⟨b1, e1, _, h7 | h7⟩ := L.row n b0 h4
          · exact I.holds.apart _ _ b1 b e1 hb (h3 n b0 h4 h5) (h7.2.2.2.2 h5) h6
          · rw [h7.1] at h5; cases h5
      · rw [h5] at hb
        cases h6 : h1.get n with
        | none => rw [h6] at hb; cases hb
        | some b1 =>
          rw [h6] at hb
          cases hb
          obtain ⟨k1, k2⟩ := hlentK n b0 h2
          obtain ⟨a1, a2, a3⟩ := hold2 _ k2 k1
          obtain ⟨e1, e2, e3⟩ := hs1 n (.inl (L.low n b0 h2))
          obtain ⟨b2, g1, _, g2 | g2⟩ := L.row n b0 h2
          · rw [← h4]
            refine .inr ⟨n, b1, h6, .inl ⟨b0, h2, h3⟩, rfl, ?_, ?_, ?_, hKK _ k1, k2, .inl ⟨rfl, L.low n b0 h2⟩⟩
            · rw [a1, ← e1]; rfl
            · rw [a2, ← e2]; simp [Emb.comp, g2.2.1]
            · rw [a3, ← e3]; simp [Emb.comp, g2.2.2.1]
          · rw [g2.1] at h3; cases h3
    · rw [not_or] at hlt
      have hm := Nat.lt_of_not_le hlt.2
      rw [B.next] at hm
      obtain ⟨j, rfl⟩ := Nat.exists_eq_add_of_le (Nat.le_of_not_lt hlt.1)
      have hj : ex[j]? = some ex[j] := List.getElem?_eq_getElem (by omega)
      have h2 := B.fresh j _ hj
      rw [h2] at hb
      cases h6 : h1.get ex[j] with
      | none => rw [h6] at hb; cases hb
      | some b1 =>
        rw [h6] at hb
        cases hb
        obtain ⟨a1, a2, a3⟩ := hnew2 j _ hj
        have hx := hn (h.next + j) (by omega) (by rw [B.next]; omega)
        exact .inr ⟨_, b1, h6, .inr (List.mem_of_getElem? hj), rfl, a1, a2, a3, .inr (.inl ⟨by omega, by rw [B.next]; omega⟩), hx.2, .inr ⟨j, hj, rfl⟩⟩
  have hlow : ∀ m b, h.get m = some b → F.blk m < w.heap.size := fun m b hb => I.holds.blk_lt hb
  refine ⟨_, rfl, F2, ?_, hs, ⟨?_, ?_⟩, hrep2.1, ?_, ?_, ?_, ?_, ?_, I.kept.trans I1.kept hMc, ?_, ?_, ?_⟩
  · rw [B.told]
    exact (hval F2 (Same.refl _ _) v0 B.clo).symm
  · intro m b hb
    rcases hsrc m b hb with ⟨hlt, hm, hno⟩ | ⟨n, b1, hn1, hor, rfl, e1, e2, e3, _⟩
    · obtain ⟨pre, post, fr, r1, r2⟩ := I2.holds.row m b hm
      refine ⟨pre, post, fr, ?_, r2⟩
      have hb2 : F2.blk m = F.blk m := (hs m (I.hk m b hm).1).1.symm
      rw [hb2] at r1 ⊢
      rw [I1.kept.block _ (hlow m b hm) hno]
      exact r1
    · obtain ⟨pre, post, fr, r1, r2, r3, r4, r5⟩ := I1.holds.row n b1 hn1
      refine ⟨pre, post, fr, ?_, by rw [e2]; exact r2, r3, fun h => by rw [e3]; exact r4 h, fun s h => by rw [e3]; exact r5 s h⟩
      rw [e1, r1, List.map_map]
      congr 5
      exact List.map_congr_left fun u hu => (hval F2 (Same.refl _ _) u (B.rows n b1 hn1 hor u hu)).symm
  · intro m k b d hb hd hmk hr
    rcases hsrc m b hb with ⟨hlt, hm, hno⟩ | ⟨n, b1, hn1, hor, rfl, e1, _, _, _, _, ho1⟩ <;> rcases hsrc k d hd with ⟨hlt', hk, hno'⟩ | ⟨n', b1', hn1', hor', rfl, e1', _, _, _, _, ho1'⟩
    · exact I2.holds.apart m k b d hm hk hmk hr
    · have hb2 : F2.blk m = F.blk m := (hs m (I.hk m b hm).1).1.symm
      rw [hb2, e1']
      intro he
      exact hno (by rw [he]; exact I1.own n' b1' hn1' (B.own n' b1' hn1' hor') (by rw [← he]; exact hlow m b hm))
    · have hb2 : F2.blk k = F.blk k := (hs k (I.hk k d hk).1).1.symm
      rw [hb2, e1]
      intro he
      exact hno' (by rw [← he]; exact I1.own n b1 hn1 (B.own n b1 hn1 hor) (by rw [he]; exact hlow k d hk))
    · rw [e1, e1']
      refine I1.holds.apart n n' b1 b1' hn1 hn1' (fun he => hmk ?_) hr
      subst he
      rcases ho1 with ⟨h2, h3⟩ | ⟨j, h1, h2⟩ <;> rcases ho1' with ⟨h2', h3'⟩ | ⟨j', h1', h2'⟩
      · rw [← h2, ← h2']
      · have := (B.more j' n h1').1; omega
      · have := (B.more j n h1).1; omega
      · have : j = j' := (List.getElem?_inj (List.getElem?_eq_some_iff.1 h1).1 B.nodup).1 (h1.trans h1'.symm)
        rw [h2, h2', this]
  · rintro _ rfl
    rw [B.told]
    exact hstab v0 B.clo
  · intro m b hb u hu
    rcases hsrc m b hb with ⟨hlt, hm, hno⟩ | ⟨n, b1, hn1, hor, rfl, _⟩
    · exact (I2.hst m b hm u hu).move (Same.refl _ _) hKK
    · obtain ⟨y, hy, rfl⟩ := List.mem_map.1 hu
      exact hstab y (B.rows n b1 hn1 hor y hy)
  · intro m b hb
    rcases hsrc m b hb with ⟨hlt, hm, hno⟩ | ⟨n, b1, hn1, hor, rfl, _, _, _, h4, h5, _⟩
    · exact ⟨hKK _ (I.hk m b hm).1, (I.hk m b hm).2⟩
    · exact ⟨h4, h5⟩
  · intro x h1 h2
    by_cases hlt : x < VB + X.cnt S
    · exact .inl (I.hand x h1 hlt)
    · exact .inr (.inr ⟨by omega, h2⟩)
  · intro x hx
    rcases hx with hx | hx | hx
    · have := I.klim x hx; omega
    · have := (hn x hx.1 hx.2).2; omega
    · omega
  · intro m b hb hr hx
    rcases hsrc m b hb with ⟨hlt, hm, hno⟩ | ⟨n, b1, hn1, hor, rfl, e1, _⟩
    · exact I2.own m b hm hr hx
    · rw [e1] at hx ⊢
      exact hMc _ hx (I1.own n b1 hn1 hr (Nat.lt_of_lt_of_le hx I.kept.size))
  · intro b hb hx
    exact hMc _ hx (I1.fown b (hrep2.2 b hb) (Nat.lt_of_lt_of_le hx I.kept.size))
  · intro m b hb hx
    have hx := hrep2.2 _ hx
    rcases hsrc m b hb with ⟨hlt, hm, hno⟩ | ⟨n, b1, hn1, hor, rfl, e1, _⟩
    · have hb2 : F2.blk m = F.blk m := (hs m (I.hk m b hm).1).1.symm
      rw [hb2] at hx
      exact hno (I1.fown _ hx (hlow m b hm))
    · rw [e1] at hx
      exact I1.sep n b1 hn1 hx
def OpSemW (X : Face P σ) (o : Oper) (e : Operand → Value) (h : AHeap) (S : σ) (v : Value) (h' : AHeap) (S' : σ) : Prop :=
  h.next ≤ h'.next ∧ X.cnt S ≤ X.cnt S' ∧ ∀ (F : Emb) (w0 w : World) (M : Nat → Prop) (ρ : Operand → Value), h.next ≤ VB → (∀ x ∈ o.op.operands, ρ x = ren F (e x)) →
    AInv X F w0 M (Kn h.next (X.cnt S)) (fun v => ∃ x ∈ o.op.operands, v = e x) h S w → OpWp P o ρ w fun u w' => ∃ F', u = ren F' v ∧ Same (Kn h.next (X.cnt S)) F F' ∧ AInv X F' w0 M (KAdd (Kn h.next (X.cnt S)) h.next h'.next (X.cnt S) (X.cnt S')) (fun x => x = v) h' S' w'
theorem OpSem.w {o : Oper} {e : Operand → Value} {h h' : AHeap} {S S' : σ} {v : Value} (H : OpSem X o e h S v h' S') (hl : h'.next = h.next ∨ h'.next ≤ VB) : OpSemW X o e h S v h' S' :=
  ⟨H.1, H.2.1, fun F w0 w M ρ hv hρ I => H.2.2.2 _ F w0 w M ρ (fun x h1 h2 => ⟨fun hk => by rcases hk with hk | hk; omega; omega, by omega⟩) hρ I⟩
theorem kadd_kn {n m c c' : Nat} (h1 : n ≤ m) (h2 : c ≤ c') : KAdd (Kn n c) n m c c' = Kn m c' := by
  funext x
  apply propext
  unfold KAdd Kn
  omega
theorem Simul.step {fn : Func} {A : Conf σ → Prop} {c c1 : Conf σ} (hk : Simul X fn A c1)
    (h : ∀ (b : Frame) (cs : List Frame) (F : Emb) (w0 w : World) (M : Nat → Prop) (m : Machine), P.funcs[b.fn]? = some fn → b.kind = .normal → Stands P F b cs c w m → InvC X F w0 M c w →
      ∃ F' w' m', Steps P m m' ∧ Stands P F' b cs c1 w' m' ∧ InvC X F' w0 M c1 w' ∧ Same (Kn (heap c).next (X.cnt (st c))) F F' ∧ X.cnt (st c) ≤ X.cnt (st c1) ∧ (heap c).next ≤ (heap c1).next) : Simul X fn A c := by
  intro b cs F w0 w M m hb hkd hS hI
  obtain ⟨F1, w1, m1, s1, S1, I1, e1, n1, l1⟩ := h b cs F w0 w M m hb hkd hS hI
  obtain ⟨c', F', w', m', hA, s2, S2, I2, e2, n2, l2⟩ := hk b cs F1 w0 w1 M m1 hb hkd S1 I1
  exact ⟨c', F', w', m', hA, s1.trans s2, S2, I2, e1.trans (e2.mono (kn_le l1 n1)), Nat.le_trans n1 n2, Nat.le_trans l1 l2⟩
end
end Go.Proofs.Ytjdbknnacaacaaa
