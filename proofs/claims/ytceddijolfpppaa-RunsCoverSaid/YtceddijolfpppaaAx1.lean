/-
  The abstract machine, part 1: values under a renaming of blocks, a heap of named rows, what one operation does there.
  No condition: definitions and small laws.
-/
import Derived.Test.YtceddijolfpppaaRows
import Derived.Laws.Entries
import Derived.Laws.EntriesVeiled
import Derived.Orders
import Derived.Below
namespace Go.Proofs.Ytceddijolfpppaa
open Go
set_option linter.unusedSimpArgs false
set_option linter.unusedVariables false

/-- Where a name lies: its block, from which cell on; how much further its capacity goes. -/
structure Emb where
  blk : Nat → Nat
  base : Nat → Nat
  slack : Nat → Nat

def adr (F : Emb) (a : Addr) : Addr := ⟨F.blk a.block, F.base a.block + a.off, a.spot⟩

def ren (F : Emb) : Value → Value
  | .pointer (some a) => .pointer (some (adr F a))
  | .slice (some a) n c => .slice (some (adr F a)) n (c + F.slack a.block)
  | .iface t v => .iface t (ren F v)
  | .agg cs => .agg (cs.attach.map fun x => ren F x.1)
  | .tuple cs => .tuple (cs.attach.map fun x => ren F x.1)
  | .func fn xs ys => .func fn (xs.attach.map fun x => ren F x.1) (ys.attach.map fun x => ren F x.1)
  | v => v
termination_by v => SizeOf.sizeOf v
decreasing_by all_goals (simp_wf; first | omega | (have := Array.sizeOf_lt_of_mem x.2; omega))

section
variable (F : Emb)
@[simp] theorem ren_bool (b : Bool) : ren F (.bool b) = .bool b := by rw [ren]; all_goals simp
@[simp] theorem ren_int (k : IntKind) (n : Int) : ren F (.int k n) = .int k n := by rw [ren]; all_goals simp
@[simp] theorem ren_string (s : ByteArray) : ren F (.string s) = .string s := by rw [ren]; all_goals simp
@[simp] theorem ren_pnone : ren F (.pointer none) = .pointer none := by rw [ren]; all_goals simp
@[simp] theorem ren_psome (a : Addr) : ren F (.pointer (some a)) = .pointer (some (adr F a)) := by rw [ren]
@[simp] theorem ren_snone (n c : Nat) : ren F (.slice none n c) = .slice none n c := by rw [ren]; all_goals simp
@[simp] theorem ren_ssome (a : Addr) (n c : Nat) : ren F (.slice (some a) n c) = .slice (some (adr F a)) n (c + F.slack a.block) := by rw [ren]
@[simp] theorem ren_iface (t : TypeId) (v : Value) : ren F (.iface t v) = .iface t (ren F v) := by rw [ren]
@[simp] theorem ren_nilIface : ren F .nilIface = .nilIface := by rw [ren]; all_goals simp
@[simp] theorem ren_nilFunc : ren F .nilFunc = .nilFunc := by rw [ren]; all_goals simp
@[simp] theorem ren_agg (cs : Array Value) : ren F (.agg cs) = .agg (cs.map (ren F)) := by rw [ren]; simp
@[simp] theorem ren_tuple (cs : Array Value) : ren F (.tuple cs) = .tuple (cs.map (ren F)) := by rw [ren]; simp
@[simp] theorem ren_func (fn : Fn) (xs ys : Array Value) : ren F (.func fn xs ys) = .func fn (xs.map (ren F)) (ys.map (ren F)) := by rw [ren]; simp
theorem ren_undef : ren F undef = undef := by simp [undef]
theorem adr_add (a : Addr) (k : Nat) : adr F (a.add k) = (adr F a).add k := by
  unfold Addr.add
  split
  · rfl
  · simp [adr, Nat.add_assoc]
end

/-- A number, a truth, nothing: what no renaming turns. -/
def plainB : Value → Bool
  | .bool _ | .int _ _ | .string _ | .pointer none | .slice none _ _ | .nilIface | .nilFunc => true
  | .agg cs => cs.all fun | .bool _ | .int _ _ | .string _ | .pointer none | .slice none _ _ | .nilIface | .nilFunc => true | _ => false
  | .tuple cs => cs.all fun | .bool _ | .int _ _ | .string _ | .pointer none | .slice none _ _ | .nilIface | .nilFunc => true | .agg ds => (ds.all fun | .bool _ | .int _ _ | .string _ | .pointer none | .slice none _ _ | .nilIface | .nilFunc => true | _ => false) | _ => false
  | _ => false

theorem plain_cells {cs : Array Value} (F : Emb) (h : (cs.all fun | .bool _ | .int _ _ | .string _ | .pointer none | .slice none _ _ | .nilIface | .nilFunc => true | _ => false) = true) : cs.map (ren F) = cs := by
  apply Array.ext
  · simp
  · intro i h1 h2
    simp only [Array.getElem_map]
    have := (Array.all_eq_true.1 h) i h2
    revert this
    generalize cs[i] = v
    intro hv
    split at hv <;> simp_all

theorem plain_parts {cs : Array Value} (F : Emb) (h : (cs.all fun | .bool _ | .int _ _ | .string _ | .pointer none | .slice none _ _ | .nilIface | .nilFunc => true | .agg ds => (ds.all fun | .bool _ | .int _ _ | .string _ | .pointer none | .slice none _ _ | .nilIface | .nilFunc => true | _ => false) | _ => false) = true) : cs.map (ren F) = cs := by
  apply Array.ext
  · simp
  · intro i h1 h2
    simp only [Array.getElem_map]
    have := (Array.all_eq_true.1 h) i h2
    revert this
    generalize cs[i] = v
    intro hv
    split at hv
    case h_8 ds => rw [ren_agg, plain_cells F hv]
    all_goals simp_all

theorem ren_plain {v : Value} (F : Emb) (h : plainB v = true) : ren F v = v := by
  unfold plainB at h
  split at h <;> first | (cases h; done) | (simp; done) | (rw [ren_agg, plain_cells F h]; done) | (rw [ren_tuple, plain_parts F h])

/-- A row of cells. 'ro': nobody writes it. 'grow': none: nothing is known of its slack; some 0: it has none; some s: there are s cells for each of it. -/
structure Blk where
  cells : List Value
  elem : TypeId
  ro : Bool := false
  grow : Option Nat := some 0

structure AHeap where
  get : Nat → Option Blk
  next : Nat

def AHeap.none : AHeap := ⟨fun _ => Option.none, 0⟩
def AHeap.add (h : AHeap) (b : Blk) : AHeap := ⟨fun n => if n = h.next then some b else h.get n, h.next + 1⟩
def AHeap.addO (h : AHeap) (b : Option Blk) : AHeap := ⟨fun n => if n = h.next then b else h.get n, h.next + 1⟩
def AHeap.put (h : AHeap) (n : Nat) (b : Blk) : AHeap := ⟨fun m => if m = n then some b else h.get m, h.next⟩
def AHeap.putO (h : AHeap) (n : Nat) (b : Option Blk) : AHeap := ⟨fun m => if m = n then b else h.get m, h.next⟩

theorem AHeap.addO_get (h : AHeap) (b : Option Blk) (n : Nat) : (h.addO b).get n = if n = h.next then b else h.get n := rfl
theorem AHeap.putO_get (h : AHeap) (m : Nat) (b : Option Blk) (n : Nat) : (h.putO m b).get n = if n = m then b else h.get n := rfl
theorem AHeap.add_get (h : AHeap) (b : Blk) (n : Nat) : (h.add b).get n = if n = h.next then some b else h.get n := rfl
theorem AHeap.put_get (h : AHeap) (m : Nat) (b : Blk) (n : Nat) : (h.put m b).get n = if n = m then some b else h.get n := rfl
theorem AHeap.add_next (h : AHeap) (b : Blk) : (h.add b).next = h.next + 1 := rfl
theorem AHeap.put_next (h : AHeap) (m : Nat) (b : Blk) : (h.put m b).next = h.next := rfl

/-! ### types, as they are asked -/
def tySize (P : Program) (t : TypeId) : Option Nat := (P.info? t).map (·.size)
def tyZero (P : Program) (t : TypeId) : Option Value := (P.info? t).bind (·.zero)
def tyAgg (P : Program) (t : TypeId) : Option Bool := (P.underlying t).map fun | .struct _ | .array _ _ => true | _ => false
/-- A field: its place, its type. -/
def tyField (P : Program) (t : TypeId) (i : Nat) : Option (Nat × TypeId) := match P.underlying t with
  | some (.struct fs) => (fs[i]?).map fun f => (f.offset, f.type)
  | _ => none
def tySlice (P : Program) (t : TypeId) : Option TypeId := match P.underlying t with | some (.slice e) => some e | _ => none
def tyArray (P : Program) (t : TypeId) : Option (Nat × TypeId) := match P.underlying t with | some (.array n e) => some (n, e) | _ => none

def tyBytes (P : Program) (t : TypeId) : Option Nat := (P.info? t).map (·.bytes)
/-- The places of the parts of a struct or an array. -/
def placesL (P : Program) : List Field → Option (List (Nat × Nat))
  | [] => some []
  | f :: fs => match tySize P f.type, placesL P fs with
    | some s, some l => some ((f.offset, s) :: l)
    | _, _ => none
def tyPlace (P : Program) (t : TypeId) : Option (Nat → Option (Nat × Nat)) := match P.underlying t with
  | some (.struct fs) => (placesL P fs.toList).map fun l i => l[i]?
  | some (.array _ e) => (tySize P e).map fun s i => some (i * s, s)
  | _ => none

/-- Part of a struct or an array. -/
def partA (P : Program) (t : TypeId) (cs : Array Value) (off : Nat) : Option Value := match tyAgg P t, tySize P t with
  | some true, some s => some (.agg (cs.extract off (off + s)))
  | some false, _ => cs[off]?
  | _, _ => none

/-- A variable is read, written. -/
def loadA (P : Program) (h : AHeap) (t : TypeId) (a : Addr) : Option Value := match h.get a.block, tyAgg P t, tySize P t with
  | some b, some true, some s => if a.spot = none ∧ a.off = 0 ∧ b.cells.length = s then some (.agg b.cells.toArray) else if a.spot = none ∧ a.off + s ≤ b.cells.length then some (.agg ((b.cells.drop a.off).take s).toArray) else none
  | some b, some false, some _ => if a.spot = none then b.cells[a.off]? else none
  | _, _, _ => none

def cellB : Value → Bool
  | .agg _ | .tuple _ => false
  | _ => true

def spliceA (l : List Value) (off : Nat) (vs : List Value) : List Value := l.take off ++ vs ++ l.drop (off + vs.length)

def storeA (P : Program) (h : AHeap) (t : TypeId) (a : Addr) (v : Value) : Option AHeap := match h.get a.block, tySize P t with
  | some b, some s =>
    if a.spot = none ∧ b.ro = false then
      (match v with
      | .agg cs => if cs.size = s ∧ a.off + s ≤ b.cells.length ∧ cs.toList.all cellB = true then some (h.put a.block { b with cells := spliceA b.cells a.off cs.toList }) else none
      | .tuple _ => none
      | v => if s = 1 ∧ a.off < b.cells.length then some (h.put a.block { b with cells := b.cells.set a.off v }) else none)
    else none
  | _, _ => none

def intA (op : BinOp) (k : IntKind) (x y : Int) : Option Value := match op with
  | .add => some (.int k (k.wrap (x + y)))
  | .sub => some (.int k (k.wrap (x - y)))
  | .mul => some (.int k (k.wrap (x * y)))
  | .quo => if y = 0 then none else some (.int k (k.wrap (x.tdiv y)))
  | .rem => if y = 0 then none else some (.int k (x.tmod y))
  | .and => some (.int k (k.wrap (BitVec.ofInt k.bits x &&& BitVec.ofInt k.bits y).toNat))
  | .or => some (.int k (k.wrap (BitVec.ofInt k.bits x ||| BitVec.ofInt k.bits y).toNat))
  | .xor => some (.int k (k.wrap (BitVec.ofInt k.bits x ^^^ BitVec.ofInt k.bits y).toNat))
  | .andNot => some (.int k (k.wrap (BitVec.ofInt k.bits x &&& ~~~ BitVec.ofInt k.bits y).toNat))
  | .eql => some (.bool (x == y))
  | .neq => some (.bool (x != y))
  | .lss => some (.bool (decide (x < y)))
  | .leq => some (.bool (decide (x ≤ y)))
  | .gtr => some (.bool (decide (x > y)))
  | .geq => some (.bool (decide (x ≥ y)))
  | _ => none

def shiftA (op : BinOp) (k : IntKind) (x y : Int) : Option Value := match op with
  | .shl => if y < 0 then none else some (.int k (k.wrap (x * 2 ^ min y.toNat k.bits)))
  | .shr => if y < 0 then none else some (.int k (x.fdiv (2 ^ min y.toNat k.bits)))
  | _ => none

/-- Is that nothing? (of what may be held against nil) -/
def nilA : Value → Option Bool
  | .pointer a => some a.isNone
  | .slice a _ _ => some a.isNone
  | .nilIface | .nilFunc => some true
  | .iface _ _ | .func _ _ _ => some false
  | _ => none

def binA (op : BinOp) (x y : Value) : Option Value := match x, y with
  | .int k a, .int k' b => (match op with
    | .shl | .shr => shiftA op k a b
    | _ => if k = k' then intA op k a b else none)
  | _, _ => none

def unA (op : UnOp) (x : Value) : Option Value := match op, x with
  | .neg, .int k n => some (.int k (k.wrap (0 - n)))
  | .xor, .int k n => some (.int k (k.wrap (BitVec.ofInt k.bits (if k.signed then -1 else k.max) ^^^ BitVec.ofInt k.bits n).toNat))
  | .not, .bool b => some (.bool !b)
  | _, _ => none

def evA (tmps : List Value) : Operand → Value
  | .tmp t => tmps.getD t undef
  | .const v => v
  | .global _ => undef
  | .func f => .func (.func f) #[] #[]

/-- An operand that no renaming turns by itself. -/
def operB : Operand → Bool
  | .tmp _ | .func _ => true
  | .const v => plainB v
  | .global _ => false

/-! ### operations that yield a value, and leave the heap alone -/

/-- The function that a method of that name is, of a pointer's type: its receiver the pointer itself. -/
def methA (P : Program) (t : TypeId) (name : String) : Option FuncId := match P.info? t, P.underlying t with
  | some i, some (.pointer _) => (match i.methods.find? (·.name == name) with
    | some m => if m.path.isEmpty then (match m.func with | some (f, true) => some f | _ => none) else none
    | none => none)
  | _, _ => none

def eqNilA (P : Program) (t : TypeId) (y : Operand) (a b : Value) : Option Bool := match P.underlying t, a, b with
  | some (.slice _), .slice a _ _, .slice none _ _ => some a.isNone
  | some (.pointer _), .pointer a, .pointer none => some a.isNone
  | some (.interface _), .iface _ _, .nilIface => some false
  | some (.interface _), .nilIface, .nilIface => (match y with | .const _ => some true | _ => none)
  | some (.func _ _ _), .func _ _ _, .nilFunc => some false
  | some (.func _ _ _), .nilFunc, .nilFunc => some true
  | _, _, _ => none

/-- Structs whose fields are numbers, truths and texts: held against one another. -/
def eqFieldsA (P : Program) (xs ys : Array Value) : List Field → Option Bool
  | [] => some true
  | f :: fs => if f.name ≠ "_" ∧ tyAgg P f.type = some false then (match xs[f.offset]?, ys[f.offset]?, P.underlying f.type, eqFieldsA P xs ys fs with
    | some (.int k a), some (.int k' b), some (.int _), some r => if k = k' then some (a == b && r) else none
    | some (.bool a), some (.bool b), some .bool, some r => some (a == b && r)
    | some (.string a), some (.string b), some .string, some r => some (a == b && r)
    | _, _, _, _ => none) else none
def tyEqOK (P : Program) (t : TypeId) : Bool := !P.stoodInHeld t && !P.eqGuardType P.depth t
def tyFieldsL (P : Program) (t : TypeId) : Option (List Field) := match P.underlying t with | some (.struct fs) => some fs.toList | _ => none
def tyBool (P : Program) (t : TypeId) : Bool := match P.underlying t with | some .bool => true | _ => false
def tyText (P : Program) (t : TypeId) : Bool := match P.underlying t with | some .string => true | _ => false
def eqFlatA (P : Program) (t : TypeId) (a b : Value) : Option Bool := match a, b with
  | .agg xs, .agg ys => (match tyFieldsL P t with
    | some fs => if tyEqOK P t = true then eqFieldsA P xs ys fs else none
    | none => none)
  | .bool a, .bool b => if tyBool P t = true then some (a == b) else none
  | .string a, .string b => if tyText P t = true then some (a == b) else none
  | _, _ => none

def binOpA (P : Program) (op : BinOp) (t : TypeId) (y : Operand) (a b : Value) : Option Value := match binA op a b with
  | some v => some v
  | none => (match eqNilA P t y a b with
    | some r => (match op with
      | .eql => some (.bool r)
      | .neq => some (.bool !r)
      | _ => none)
    | none => (match op, eqFlatA P t a b with
      | .eql, some r => some (.bool r)
      | .neq, some r => some (.bool !r)
      | _, _ => none))

def fillA (place : Nat → Option (Nat × Nat)) (cells : List Value) : List (Nat × Value) → Option (List Value)
  | [] => some cells
  | (i, v) :: rest => match place i with
    | none => none
    | some (off, size) => if v.cells.size ≠ size ∨ off + v.cells.size > cells.length then none else fillA place (spliceA cells off v.cells.toList) rest

def nilCheckA (P : Program) : Value → Option Value
  | .pointer (some a) => some (.pointer (some a))
  | .func (.func f) xs ys => some (.func (.func f) xs ys)
  | .func (.method name) xs ys => (match (xs[0]? : Option Value) with
    | some (.iface t (.pointer _)) => (match methA P t name with | some _ => some (.func (.method name) xs ys) | none => none)
    | _ => none)
  | .iface t v => some (.iface t v)
  | _ => none

def fieldAddrA (P : Program) (t : TypeId) (x : Value) (i : Nat) : Option Value := match x, tyField P t i with
  | .pointer (some a), some (off, ft) => (match tySize P ft with
    | some (_ + 1) => if a.spot = none then some (.pointer (some ⟨a.block, a.off + off, none⟩)) else none
    | _ => none)
  | _, _ => none

def indexAddrA (P : Program) (t : TypeId) (x i : Value) : Option Value := match x, i with
  | .slice (some a) len _, .int _ n => (match tySlice P t with
    | some el => (match tySize P el with
      | some s => if a.spot = none ∧ 0 ≤ n ∧ n < len then some (.pointer (some ⟨a.block, a.off + n.toNat * s, none⟩)) else none
      | none => none)
    | none => none)
  | .pointer (some a), .int _ n => (match tyArray P t with
    | some (len, el) => (match tySize P el with
      | some s => if a.spot = none ∧ 0 ≤ n ∧ n < len then some (.pointer (some ⟨a.block, a.off + n.toNat * s, none⟩)) else none
      | none => none)
    | none => none)
  | _, _ => none

/-- The kind into which a conversion between these types leads. -/
def tyConv (P : Program) (src dst : TypeId) : Option IntKind := match P.underlying src, P.underlying dst with
  | some _, some (.int k) => some k
  | _, _ => none
def convertA (P : Program) (src dst : TypeId) (x : Value) : Option Value := match x, tyConv P src dst with
  | .int _ n, some k => some (.int k (k.wrap n))
  | _, _ => none

def fieldA (P : Program) (t : TypeId) (x : Value) (i : Nat) : Option Value := match x, tyField P t i with
  | .agg cs, some (off, ft) => partA P ft cs off
  | _, _ => none

def indexA (P : Program) (t : TypeId) (x i : Value) : Option Value := match x, i, tyArray P t with
  | .agg cs, .int _ n, some (len, el) => (match tySize P el with
    | some s => if 0 ≤ n ∧ n < len then partA P el cs (n.toNat * s) else none
    | none => none)
  | .string s, .int _ n, none => (match P.underlying t with
    | some .string => if 0 ≤ n then (s[n.toNat]?).map (fun b => .int .u8 b.toNat) else none
    | _ => none)
  | _, _, _ => none

def lenA (P : Program) (t : TypeId) (x : Value) : Option Value := match x, tySlice P t with
  | .slice _ n _, some _ => some (.int .i64 n)
  | _, _ => none

def minA : List Value → Value → Option Value
  | [], v => some v
  | .int _ y :: l, .int k x => minA l (.int k (if y < x then y else x))
  | _, _ => none
def maxA : List Value → Value → Option Value
  | [], v => some v
  | .int _ y :: l, .int k x => maxA l (.int k (if y > x then y else x))
  | _, _ => none

def builtA (P : Program) (e : Operand → Value) (c : Call) : Option Value := match c.callee with
  | .builtin .len => (match c.args.toList, c.argTypes.toList with | [x], [t] => lenA P t (e x) | _, _ => none)
  | .builtin .min => (match c.args.toList with | x :: l => minA (l.map e) (e x) | _ => none)
  | .builtin .max => (match c.args.toList with | x :: l => maxA (l.map e) (e x) | _ => none)
  | _ => none

def arrayAtA (P : Program) (t : TypeId) (x : Value) : Option Value := match x, tyArray P t with
  | .slice (some a) len _, some (n, _) => if len < n then none else some (.pointer (some a))
  | _, _ => none

/-- The bounds of a slice expression: what is given, what stands else. -/
def boundA : Option Value → Nat → Option Nat
  | none, d => some d
  | some (.int _ n), _ => if 0 ≤ n then some n.toNat else none
  | _, _ => none
/-- A slice of a slice or of an array, where its place is known. -/
def sliceA (P : Program) (h : AHeap) (t : TypeId) (x : Value) (lo hi mx : Option Value) : Option Value := match mx, tySlice P t, tyArray P t, x with
  | none, some el, _, .slice (some a) len cap => (match boundA lo 0, boundA hi len, tySize P el with
    | some l, some r, some s => if l ≤ r ∧ r ≤ cap ∧ a.spot = none then
        (if l < cap ∨ l = 0 then (if l = 0 then some (.slice (some a) r cap) else some (.slice (some ⟨a.block, a.off + l * s, none⟩) (r - l) (cap - l)))
         else (match h.get a.block with | some b => if b.grow = some 0 then some (.slice (some a) 0 0) else none | none => none)) else none
    | _, _, _ => none)
  | none, some el, _, .slice none 0 0 => (match boundA lo 0, boundA hi 0, tySize P el with
    | some 0, some 0, some _ => some (.slice none 0 0)
    | _, _, _ => none)
  | none, none, some (n, el), .pointer (some a) => (match boundA lo 0, boundA hi n, tySize P el, h.get a.block with
    | some l, some r, some s, some b => if l ≤ r ∧ r ≤ n ∧ a.spot = none ∧ b.grow = some 0 then
        (if n = l then some (.slice (some a) 0 0) else some (.slice (some ⟨a.block, a.off + l * s, none⟩) (r - l) (n - l))) else none
    | _, _, _, _ => none)
  | _, _, _, _ => none

def buildA (P : Program) (t : TypeId) (parts : List (Nat × Value)) : Option Value := match tyZero P t, tyPlace P t with
  | some z, some pl => if plainB z then (fillA pl z.cells.toList parts).map fun cs => .agg cs.toArray else none
  | _, _ => none


def valA (P : Program) (e : Operand → Value) (h : AHeap) : Op → Option Value
  | .move x | .assign x => some (e x)
  | .pick c a b => (match e c with | .bool t => some (if t then e a else e b) | _ => none)
  | .extract t i => (match e t with | .tuple vs => vs[i]? | _ => none)
  | .binOp op t x y _ => binOpA P op t y (e x) (e y)
  | .unOp op _ x => unA op (e x)
  | .convert s d x => convertA P s d (e x)
  | .field t x i => fieldA P t (e x) i
  | .index t x i => indexA P t (e x) (e i)
  | .makeFunc fn xs ys => some (.func fn (xs.map e) (ys.map e))
  | .makeInterface t x => (match P.underlying t with | some (.interface _) => none | some _ => some (.iface t (e x)) | none => none)
  | .nilCheck x => nilCheckA P (e x)
  | .load t x => (match e x with | .pointer (some a) => loadA P h t a | _ => none)
  | .fieldAddr t x i => fieldAddrA P t (e x) i
  | .indexAddr t x i => indexAddrA P t (e x) (e i)
  | .call c => builtA P e c
  | .build t ps => buildA P t (ps.toList.map fun p => (p.1, e p.2))
  | .slice t x lo hi mx => sliceA P h t (e x) (lo.map e) (hi.map e) (mx.map e)
  | .sliceToArrayPointer t x => arrayAtA P t (e x)
  | _ => none

/-- A call: which function, with which arguments. -/
def callA (P : Program) (e : Operand → Value) : Op → Option (FuncId × Array Value)
  | .call { callee := .value f, args, .. } => (match e f with
    | .func (.func g) xs ys => some (g, xs ++ args.map e ++ ys)
    | _ => none)
  | .call { callee := .invoke r name, args, .. } => (match e r with
    | .iface t (.pointer p) => (match methA P t name with | some f => some (f, #[.pointer p] ++ args.map e) | none => none)
    | _ => none)
  | _ => none

def zerosL (z : List Value) : Nat → List Value
  | 0 => []
  | n + 1 => z ++ zerosL z n

/-- The cells that a slice shows. -/
def cellsA (h : AHeap) (s : Nat) : Value → Option (List Value)
  | .slice none 0 0 => some []
  | .slice (some a) n _ => if n = 0 then some [] else if a.spot = none then (match h.get a.block with
    | some b => if a.off + n * s ≤ b.cells.length then some ((b.cells.drop a.off).take (n * s)) else none
    | none => none) else none
  | _ => none
/-- An append that makes a further row, or may: its cells, the elements' type, how many elements; true: the old row stays as it is; false: the old one may have turned. -/
def appendA (P : Program) (h : AHeap) (t : TypeId) (x y : Value) : Option (List Value × TypeId × Nat × Bool) := match tySlice P t with
  | some el => (match tySize P el, tyBytes P el, tyZero P el, cellsA h ((tySize P el).getD 0) x, cellsA h ((tySize P el).getD 0) y, x, y with
    | some (s + 1), some bs, some z, some olds, some news, .slice a sl sc, .slice _ n _ =>
      if plainB z = true ∧ z.cells.size = s + 1 ∧ bs ≤ 1048576 ∧ sc < sl + n ∧ sl + n ≤ 16777216 then (match a with
        | none => some (olds ++ news, el, sl + n, true)
        | some a => (match h.get a.block with
          | some b => if b.grow = some 0 then some (olds ++ news, el, sl + n, true)
            else if b.ro = false ∧ b.grow = some (s + 1) ∧ b.elem = el ∧ a.spot = none ∧ a.off + sc * (s + 1) = b.cells.length ∧ sl ≤ sc ∧ news.all cellB = true then some (olds ++ news, el, sl + n, false) else none
          | none => none))
      else none
    | _, _, _, _, _, _, _ => none)
  | none => none
/-- The end of a slice of which nothing is known behind it: a name without a row. -/
def endA (P : Program) (h : AHeap) (t : TypeId) (x : Value) (lo hi : Option Value) (n : Nat) : Option (Value × Option Blk) := match tySlice P t, x with
  | some el, .slice (some a) len cap => (match boundA lo 0, boundA hi len, tySize P el, h.get a.block with
    | some l, some r, some _, b => if l = r ∧ r = cap ∧ 0 < l ∧ a.spot = none ∧ (b.bind (·.grow)) ≠ some 0 then some (.slice (some ⟨n, 0, none⟩) 0 0, none) else none
    | _, _, _, _ => none)
  | _, _ => none

/-- A new name: what is told of it, what it holds. -/
def newA (P : Program) (e : Operand → Value) (h : AHeap) (n : Nat) : Op → Option (Value × Option Blk)
  | .alloc t => (match tyZero P t with | some z => if plainB z then some (.pointer (some ⟨n, 0, none⟩), some ⟨z.cells.toList, t, false, some 0⟩) else none | none => none)
  | .box t x => some (.pointer (some ⟨n, 0, none⟩), some ⟨(e x).cells.toList, t, false, some 0⟩)
  | .buildSlice t len ps => (match tySlice P t with
    | some el => (match tySize P el, tyZero P el with
      | some s, some z => if plainB z = true ∧ z.cells.size = s ∧ len * s ≤ 16777216 then
          (fillA (fun i => some (i * s, s)) (zerosL z.cells.toList len) (ps.toList.map fun p => (p.1, e p.2))).map fun cs => (.slice (some ⟨n, 0, none⟩) len len, some ⟨cs, el, false, some 0⟩)
        else none
      | _, _ => none)
    | none => none)
  | .makeSlice t l c => (match tySlice P t, e l, e c with
    | some el, .int _ l, .int _ c => (match tySize P el, tyZero P el, tyBytes P el with
      | some s, some z, some bs => if plainB z = true ∧ z.cells.size = s ∧ bs ≤ 1048576 ∧ 0 ≤ l ∧ l ≤ c ∧ c ≤ 16777216 then some (.slice (some ⟨n, 0, none⟩) l.toNat c.toNat, some ⟨zerosL z.cells.toList c.toNat, el, false, some 0⟩) else none
      | _, _, _ => none)
    | _, _, _ => none)
  | .call { callee := .builtin .append, args, argTypes } => (match args.toList, argTypes.toList with
    | [s, x], [t, t'] => if t = t' then (match appendA P h t (e s) (e x) with
      | some (news, el, need, true) => some (.slice (some ⟨n, 0, none⟩) need need, some ⟨news, el, false, tySize P el⟩)
      | _ => none) else none
    | _, _ => none)
  | .slice t x lo hi none => endA P h t (e x) (lo.map e) (hi.map e) n
  | _ => none

/-- What writes a row: what is told, the heap then. -/
def wrA (P : Program) (e : Operand → Value) (h : AHeap) : Op → Option (Value × AHeap)
  | .store t x y => (match e x with | .pointer (some a) => (storeA P h t a (e y)).map fun h' => (undef, h') | _ => none)
  | .call { callee := .builtin .append, args, argTypes } => (match args.toList, argTypes.toList with
    | [x, y], [t, t'] => if t = t' then (match e x, tySlice P t, e y with
      | .slice none 0 0, some el, .slice _ 0 _ => (match tySize P el with | some _ => some (.slice none 0 0, h) | none => none)
      | .slice (some a) sl sc, some el, .slice b n c => (match tySize P el with
        | some s => if sl + n ≤ sc then (match n, cellsA h s (.slice b n c), h.get a.block with
            | 0, _, _ => some (.slice (some a) sl sc, h)
            | _, some news, some bk => if bk.ro = false ∧ a.spot = none ∧ a.off + sl * s + news.length ≤ bk.cells.length ∧ news.length = n * s ∧ news.all cellB = true then
                some (.slice (some a) (sl + n) sc, h.put a.block { bk with cells := spliceA bk.cells (a.off + sl * s) news }) else none
            | _, _, _ => none)
          else (match appendA P h t (e x) (e y) with
            | some (cs, el, need, false) => some (.slice (some ⟨h.next, 0, none⟩) need need, (h.putO a.block none).addO (some ⟨cs, el, false, tySize P el⟩))
            | _ => none)
        | none => none)
      | _, _, _ => none) else none
    | _, _ => none)
  | _ => none

end Go.Proofs.Ytceddijolfpppaa
