/-
  The abstract machine, part 13: rules for the evaluation of its operations; calls whose frames are written out.
  No condition: laws.
-/
import Derived.Test.YtceddijolfpppaaAx12
import Derived.IntWalk
namespace Go.Proofs.Ytceddijolfpppaa
open Go Go.RowKit
set_option linter.unusedSimpArgs false
set_option linter.unusedVariables false

section
variable {P : Program} {e : Operand → Value} {h : AHeap} {t : TypeId} {x y : Operand} {k : IntKind} {a b : Int}

theorem ev_tmp (l : List Value) (t : Nat) : evA l (.tmp t) = l.getD t undef := rfl
theorem ev_const (l : List Value) (v : Value) : evA l (.const v) = v := rfl
theorem ev_func (l : List Value) (f : FuncId) : evA l (.func f) = .func (.func f) #[] #[] := rfl
theorem put_some (d : Nat) (v : Value) (l : List Value) : putL (some d) v l = l.set d v := rfl
theorem put_none (v : Value) (l : List Value) : putL none v l = l := rfl

theorem v_move : valA P e h (.move x) = some (e x) := rfl
theorem v_assign : valA P e h (.assign x) = some (e x) := rfl
theorem v_bin {op : BinOp} {u : TypeId} : valA P e h (.binOp op t x y u) = binOpA P op t y (e x) (e y) := rfl
theorem v_un {op : UnOp} : valA P e h (.unOp op t x) = unA op (e x) := rfl
theorem v_convert {u : TypeId} : valA P e h (.convert t u x) = convertA P t u (e x) := rfl
theorem v_field {i : Nat} : valA P e h (.field t x i) = fieldA P t (e x) i := rfl
theorem v_index : valA P e h (.index t x y) = indexA P t (e x) (e y) := rfl
theorem v_makeFunc {fn : Fn} {xs ys : Array Operand} : valA P e h (.makeFunc fn xs ys) = some (.func fn (xs.map e) (ys.map e)) := rfl
theorem v_nilCheck : valA P e h (.nilCheck x) = nilCheckA P (e x) := rfl
theorem v_fieldAddr {i : Nat} : valA P e h (.fieldAddr t x i) = fieldAddrA P t (e x) i := rfl
theorem v_indexAddr : valA P e h (.indexAddr t x y) = indexAddrA P t (e x) (e y) := rfl
def loadV (P : Program) (h : AHeap) (t : TypeId) : Value → Option Value
  | .pointer (some a) => loadA P h t a
  | _ => none
theorem v_load : valA P e h (.load t x) = loadV P h t (e x) := by
  show (match e x with | .pointer (some a) => loadA P h t a | _ => none) = _
  unfold loadV
  rfl
theorem load_ptr {a : Addr} : loadV P h t (.pointer (some a)) = loadA P h t a := rfl
def pickV (c a b : Value) : Option Value := match c with
  | .bool t => some (if t then a else b)
  | _ => none
theorem v_pick {z : Operand} : valA P e h (.pick x y z) = pickV (e x) (e y) (e z) := rfl
theorem pick_true {v u : Value} : pickV (.bool true) v u = some v := rfl
theorem pick_false {v u : Value} : pickV (.bool false) v u = some u := rfl
def extractV (v : Value) (i : Nat) : Option Value := match v with
  | .tuple vs => vs[i]?
  | _ => none
theorem v_extract {i : Nat} : valA P e h (.extract x i) = extractV (e x) i := rfl
theorem extract_tuple {vs : Array Value} {i : Nat} : extractV (.tuple vs) i = vs[i]? := rfl

theorem b_add : binOpA P .add t y (.int k a) (.int k b) = some (.int k (k.wrap (a + b))) := by simp [binOpA, binA, intA]
theorem b_sub : binOpA P .sub t y (.int k a) (.int k b) = some (.int k (k.wrap (a - b))) := by simp [binOpA, binA, intA]
theorem b_mul : binOpA P .mul t y (.int k a) (.int k b) = some (.int k (k.wrap (a * b))) := by simp [binOpA, binA, intA]
theorem b_quo (hb : b ≠ 0) : binOpA P .quo t y (.int k a) (.int k b) = some (.int k (k.wrap (a.tdiv b))) := by simp [binOpA, binA, intA, hb]
theorem b_rem (hb : b ≠ 0) : binOpA P .rem t y (.int k a) (.int k b) = some (.int k (a.tmod b)) := by simp [binOpA, binA, intA, hb]
theorem b_eql : binOpA P .eql t y (.int k a) (.int k b) = some (.bool (a == b)) := by simp [binOpA, binA, intA]
theorem b_neq : binOpA P .neq t y (.int k a) (.int k b) = some (.bool (a != b)) := by simp [binOpA, binA, intA]
theorem b_lss : binOpA P .lss t y (.int k a) (.int k b) = some (.bool (decide (a < b))) := by simp [binOpA, binA, intA]
theorem b_leq : binOpA P .leq t y (.int k a) (.int k b) = some (.bool (decide (a ≤ b))) := by simp [binOpA, binA, intA]
theorem b_gtr : binOpA P .gtr t y (.int k a) (.int k b) = some (.bool (decide (b < a))) := by simp [binOpA, binA, intA]
theorem b_geq : binOpA P .geq t y (.int k a) (.int k b) = some (.bool (decide (b ≤ a))) := by simp [binOpA, binA, intA]
/-- Bits of two numbers. -/
def andZ (k : IntKind) (a b : Int) : Int := k.wrap (BitVec.ofInt k.bits a &&& BitVec.ofInt k.bits b).toNat
def orZ (k : IntKind) (a b : Int) : Int := k.wrap (BitVec.ofInt k.bits a ||| BitVec.ofInt k.bits b).toNat
def xorZ (k : IntKind) (a b : Int) : Int := k.wrap (BitVec.ofInt k.bits a ^^^ BitVec.ofInt k.bits b).toNat
def andNotZ (k : IntKind) (a b : Int) : Int := k.wrap (BitVec.ofInt k.bits a &&& ~~~ BitVec.ofInt k.bits b).toNat
theorem b_and : binOpA P .and t y (.int k a) (.int k b) = some (.int k (andZ k a b)) := by simp [binOpA, binA, intA, andZ]
theorem b_xor : binOpA P .xor t y (.int k a) (.int k b) = some (.int k (xorZ k a b)) := by simp [binOpA, binA, intA, xorZ]
theorem b_andNot : binOpA P .andNot t y (.int k a) (.int k b) = some (.int k (andNotZ k a b)) := by simp [binOpA, binA, intA, andNotZ]
theorem b_or : binOpA P .or t y (.int k a) (.int k b) = some (.int k (orZ k a b)) := by simp [binOpA, binA, intA, orZ]
theorem b_shl {k' : IntKind} (hb : 0 ≤ b) : binOpA P .shl t y (.int k a) (.int k' b) = some (.int k (k.wrap (a * 2 ^ min b.toNat k.bits))) := by
  have : ¬ b < 0 := by omega
  simp [binOpA, binA, shiftA, this]
theorem b_shr {k' : IntKind} (hb : 0 ≤ b) : binOpA P .shr t y (.int k a) (.int k' b) = some (.int k (a.fdiv (2 ^ min b.toNat k.bits))) := by
  have : ¬ b < 0 := by omega
  simp [binOpA, binA, shiftA, this]
theorem b_not {c : Bool} : unA .not (.bool c) = some (.bool !c) := rfl
theorem b_neg : unA .neg (.int k a) = some (.int k (k.wrap (0 - a))) := rfl

theorem cast0 : ((0 : Nat) : Int) = 0 := rfl
theorem cast1 : ((1 : Nat) : Int) = 1 := rfl
/-- A variable is read: its row, is it an aggregate, its size, where. -/
def loadR (b : Option Blk) (g : Option Bool) (s : Option Nat) (a : Addr) : Option Value := match b, g, s with
  | some b, some true, some s => if a.spot = none ∧ a.off = 0 ∧ b.cells.length = s then some (.agg b.cells.toArray) else if a.spot = none ∧ a.off + s ≤ b.cells.length then some (.agg ((b.cells.drop a.off).take s).toArray) else none
  | some b, some false, some _ => if a.spot = none then b.cells[a.off]? else none
  | _, _, _ => none
theorem loadA_eq {a : Addr} : loadA P h t a = loadR (h.get a.block) (tyAgg P t) (tySize P t) a := rfl
theorem loadR_cell {b : Blk} {s n o : Nat} : loadR (some b) (some false) (some s) ⟨n, o, none⟩ = b.cells[o]? := by simp [loadR]
theorem loadR_all {b : Blk} {s n : Nat} (hl : b.cells.length = s) : loadR (some b) (some true) (some s) ⟨n, 0, none⟩ = some (.agg b.cells.toArray) := by simp [loadR, hl]
theorem loadR_sub {b : Blk} {s n o : Nat} (hl : o + s ≤ b.cells.length) : loadR (some b) (some true) (some s) ⟨n, o, none⟩ = some (.agg ((b.cells.drop o).take s).toArray) := by
  unfold loadR
  simp only [true_and, hl, if_true]
  split
  · rename_i hc
    obtain ⟨rfl, rfl⟩ := hc
    simp
  · rfl
/-! #### against nil, truths -/
def tyPtr (P : Program) (t : TypeId) : Bool := match P.underlying t with | some (.pointer _) => true | _ => false
def tyIfc (P : Program) (t : TypeId) : Bool := match P.underlying t with | some (.interface _) => true | _ => false
def tySli (P : Program) (t : TypeId) : Bool := match P.underlying t with | some (.slice _) => true | _ => false
theorem b_eqp {a : Option Addr} : binOpA P .eql t y (.pointer a) (.pointer none) = cond (tyPtr P t) (some (.bool a.isNone)) none := by
  simp only [binOpA, binA, eqNilA, eqFlatA, tyPtr]
  cases P.underlying t with
  | none => rfl
  | some u => cases u <;> rfl
theorem b_nep {a : Option Addr} : binOpA P .neq t y (.pointer a) (.pointer none) = cond (tyPtr P t) (some (.bool !a.isNone)) none := by
  simp only [binOpA, binA, eqNilA, eqFlatA, tyPtr]
  cases P.underlying t with
  | none => rfl
  | some u => cases u <;> rfl
theorem b_eqh {k : Nat} : binOpA P .eql t y (hndV k) (.pointer none) = cond (tyPtr P t) (some (.bool false)) none := b_eqp
theorem b_neh {k : Nat} : binOpA P .neq t y (hndV k) (.pointer none) = cond (tyPtr P t) (some (.bool true)) none := b_nep
theorem b_eqs {a : Option Addr} {n c n' c' : Nat} : binOpA P .eql t y (.slice a n c) (.slice none n' c') = cond (tySli P t) (some (.bool a.isNone)) none := by
  simp only [binOpA, binA, eqNilA, eqFlatA, tySli]
  cases P.underlying t with
  | none => rfl
  | some u => cases u <;> rfl
theorem b_nes {a : Option Addr} {n c n' c' : Nat} : binOpA P .neq t y (.slice a n c) (.slice none n' c') = cond (tySli P t) (some (.bool !a.isNone)) none := by
  simp only [binOpA, binA, eqNilA, eqFlatA, tySli]
  cases P.underlying t with
  | none => rfl
  | some u => cases u <;> rfl
theorem b_eqi {u : TypeId} {v : Value} : binOpA P .eql t y (.iface u v) .nilIface = cond (tyIfc P t) (some (.bool false)) none := by
  simp only [binOpA, binA, eqNilA, eqFlatA, tyIfc]
  cases P.underlying t with
  | none => rfl
  | some u => cases u <;> rfl
theorem b_nei {u : TypeId} {v : Value} : binOpA P .neq t y (.iface u v) .nilIface = cond (tyIfc P t) (some (.bool true)) none := by
  simp only [binOpA, binA, eqNilA, eqFlatA, tyIfc]
  cases P.underlying t with
  | none => rfl
  | some u => cases u <;> rfl
theorem b_eqr {k : Nat} : binOpA P .eql t y (prtV k) .nilIface = cond (tyIfc P t) (some (.bool false)) none := b_eqi
theorem b_ner {k : Nat} : binOpA P .neq t y (prtV k) .nilIface = cond (tyIfc P t) (some (.bool true)) none := b_nei
theorem b_eqn {c : Value} : binOpA P .eql t (.const c) .nilIface .nilIface = cond (tyIfc P t) (some (.bool true)) none := by
  simp only [binOpA, binA, eqNilA, eqFlatA, tyIfc]
  cases P.underlying t with
  | none => rfl
  | some u => cases u <;> rfl
theorem b_nen {c : Value} : binOpA P .neq t (.const c) .nilIface .nilIface = cond (tyIfc P t) (some (.bool false)) none := by
  simp only [binOpA, binA, eqNilA, eqFlatA, tyIfc]
  cases P.underlying t with
  | none => rfl
  | some u => cases u <;> rfl
theorem b_eqb {a b : Bool} : binOpA P .eql t y (.bool a) (.bool b) = cond (tyBool P t) (some (.bool (a == b))) none := by
  simp only [binOpA, binA, eqNilA, eqFlatA]
  cases hu : P.underlying t with
  | none => simp [tyBool, hu]
  | some u => cases u <;> simp [tyBool, hu]
theorem b_neb {a b : Bool} : binOpA P .neq t y (.bool a) (.bool b) = cond (tyBool P t) (some (.bool !(a == b))) none := by
  simp only [binOpA, binA, eqNilA, eqFlatA]
  cases hu : P.underlying t with
  | none => simp [tyBool, hu]
  | some u => cases u <;> simp [tyBool, hu]

def tyMk (P : Program) (t : TypeId) : Bool := match P.underlying t with | some (.interface _) => false | some _ => true | none => false
theorem v_iface : valA P e h (.makeInterface t x) = cond (tyMk P t) (some (.iface t (e x))) none := by
  simp only [valA, tyMk]
  cases P.underlying t with
  | none => rfl
  | some u => cases u <;> rfl
theorem iface_prt {k : Nat} : Value.iface 33 (hndV k) = prtV k := rfl
/-! #### lengths, the least, the greatest, what is built -/
theorem v_len {ats : Array TypeId} {z : Operand} : valA P e h (.call { callee := .builtin .len, args := #[z], argTypes := ats }) = (match ats.toList with | [t] => lenA P t (e z) | _ => none) := by
  show (match [z], ats.toList with | [x], [t] => lenA P t (e x) | _, _ => none) = _
  cases ats.toList with
  | nil => rfl
  | cons a l => cases l <;> rfl
def min2 : Value → Value → Option Value
  | .int k x, .int _ y => some (.int k (if y < x then y else x))
  | _, _ => none
def max2 : Value → Value → Option Value
  | .int k x, .int _ y => some (.int k (if y > x then y else x))
  | _, _ => none
theorem v_min {ats : Array TypeId} {z u : Operand} {k k' : IntKind} {a b : Int} (h1 : e z = .int k a) (h2 : e u = .int k' b) : valA P e h (.call { callee := .builtin .min, args := #[z, u], argTypes := ats }) = some (.int k (if b < a then b else a)) := by
  show minA ([u].map e) (e z) = _
  rw [List.map_cons, h1, h2]
  rfl
theorem v_max {ats : Array TypeId} {z u : Operand} {k k' : IntKind} {a b : Int} (h1 : e z = .int k a) (h2 : e u = .int k' b) : valA P e h (.call { callee := .builtin .max, args := #[z, u], argTypes := ats }) = some (.int k (if b > a then b else a)) := by
  show maxA ([u].map e) (e z) = _
  rw [List.map_cons, h1, h2]
  rfl
theorem v_build {ps : Array (Nat × Operand)} : valA P e h (.build t ps) = buildA P t (ps.toList.map fun p => (p.1, e p.2)) := rfl
theorem v_slice {lo hi mx : Option Operand} : valA P e h (.slice t x lo hi mx) = sliceA P h t (e x) (lo.map e) (hi.map e) (mx.map e) := rfl
/-- One part is filled in. -/
def fill1 (o : Option (Nat × Nat)) (v : Value) (cells : List Value) (K : List Value → Option (List Value)) : Option (List Value) := match o with
  | none => none
  | some (off, size) => if v.cells.size ≠ size ∨ off + v.cells.size > cells.length then none else K (spliceA cells off v.cells.toList)
theorem fill_cons {pl : Nat → Option (Nat × Nat)} {cells : List Value} {i : Nat} {v : Value} {l : List (Nat × Value)} : fillA pl cells ((i, v) :: l) = fill1 (pl i) v cells fun c => fillA pl c l := by
  rw [fillA]
  unfold fill1
  rfl
theorem fill_nil {pl : Nat → Option (Nat × Nat)} {cells : List Value} : fillA pl cells [] = some cells := rfl
theorem fill1_one {off : Nat} {v : Value} {cells : List Value} {K : List Value → Option (List Value)} (hv : v.cells = #[v]) (hl : off < cells.length) : fill1 (some (off, 1)) v cells K = K (cells.set off v) := by
  have : ¬ ((#[v] : Array Value).size ≠ 1 ∨ off + (#[v] : Array Value).size > cells.length) := by simp; omega
  unfold fill1
  simp only [hv]
  rw [if_neg this]
  congr 1
  unfold spliceA
  rw [List.set_eq_take_append_cons_drop, if_pos hl]
  simp
theorem fill1_int {off : Nat} {n : Int} {cells : List Value} {K : List Value → Option (List Value)} (hl : off < cells.length) : fill1 (some (off, 1)) (.int k n) cells K = K (cells.set off (.int k n)) := fill1_one rfl hl
theorem fill1_bool {off : Nat} {c : Bool} {cells : List Value} {K : List Value → Option (List Value)} (hl : off < cells.length) : fill1 (some (off, 1)) (.bool c) cells K = K (cells.set off (.bool c)) := fill1_one rfl hl
theorem fill1_ptr {off : Nat} {c : Option Addr} {cells : List Value} {K : List Value → Option (List Value)} (hl : off < cells.length) : fill1 (some (off, 1)) (.pointer c) cells K = K (cells.set off (.pointer c)) := fill1_one rfl hl
theorem fill1_slice {off n c : Nat} {d : Option Addr} {cells : List Value} {K : List Value → Option (List Value)} (hl : off < cells.length) : fill1 (some (off, 1)) (.slice d n c) cells K = K (cells.set off (.slice d n c)) := fill1_one rfl hl
theorem fill1_func {off : Nat} {fn : Fn} {xs ys : Array Value} {cells : List Value} {K : List Value → Option (List Value)} (hl : off < cells.length) : fill1 (some (off, 1)) (.func fn xs ys) cells K = K (cells.set off (.func fn xs ys)) := fill1_one rfl hl
theorem fill1_iface {off : Nat} {u : TypeId} {v : Value} {cells : List Value} {K : List Value → Option (List Value)} (hl : off < cells.length) : fill1 (some (off, 1)) (.iface u v) cells K = K (cells.set off (.iface u v)) := fill1_one rfl hl
theorem fill1_hnd {off m : Nat} {cells : List Value} {K : List Value → Option (List Value)} (hl : off < cells.length) : fill1 (some (off, 1)) (hndV m) cells K = K (cells.set off (hndV m)) := fill1_one rfl hl
theorem fill1_prt {off m : Nat} {cells : List Value} {K : List Value → Option (List Value)} (hl : off < cells.length) : fill1 (some (off, 1)) (prtV m) cells K = K (cells.set off (prtV m)) := fill1_one rfl hl
theorem fill1_agg {off s : Nat} {cs : Array Value} {cells : List Value} {K : List Value → Option (List Value)} (hs : cs.size = s) (hl : off + s ≤ cells.length) : fill1 (some (off, s)) (.agg cs) cells K = K (spliceA cells off cs.toList) := by
  have hc : (Value.agg cs).cells = cs := rfl
  unfold fill1
  simp only [hc]
  rw [if_neg (by omega)]
/-- A slice that is written out. -/
def bsliceV (P : Program) (n : Nat) (len : Nat) (parts : List (Nat × Value)) : Option TypeId → Option (Value × Option Blk)
  | some el => (match tySize P el, tyZero P el with
    | some s, some z => cond (plainB z && decide (z.cells.size = s ∧ len * s ≤ 16777216))
        ((fillA (fun i => some (i * s, s)) (zerosL z.cells.toList len) parts).map fun cs => (.slice (some ⟨n, 0, none⟩) len len, some ⟨cs, el, false, some 0⟩)) none
    | _, _ => none)
  | none => none
theorem n_bslice {n len : Nat} {ps : Array (Nat × Operand)} : newA P e h n (.buildSlice t len ps) = bsliceV P n len (ps.toList.map fun p => (p.1, e p.2)) (tySlice P t) := by
  simp only [newA, bsliceV]
  rcases tySlice P t with _ | el
  · rfl
  · simp only
    rcases tySize P el with _ | s
    · rfl
    · rcases tyZero P el with _ | z
      · rfl
      · simp only
        by_cases hz : plainB z = true
        · by_cases hc : z.cells.size = s ∧ len * s ≤ 16777216
          · rw [if_pos ⟨hz, hc⟩, hz, decide_eq_true hc]; rfl
          · rw [if_neg (fun h => hc h.2), hz, decide_eq_false hc]; rfl
        · rw [if_neg (fun h => hz h.1), show plainB z = false by simpa using hz]; rfl

theorem c_static {f : FuncId} {args : Array Operand} {ats : Array TypeId} : callA P e (.call { callee := .value (.func f), args := args, argTypes := ats }) = (match e (.func f) with | .func (.func g) xs ys => some (g, xs ++ args.map e ++ ys) | _ => none) := rfl
/-- The function that is called, with which arguments. -/
def callV (f : Value) (args : Array Value) : Option (FuncId × Array Value) := match f with
  | .func (.func g) xs ys => some (g, xs ++ args ++ ys)
  | _ => none
theorem c_value {f : Operand} {args : Array Operand} {ats : Array TypeId} : callA P e (.call { callee := .value f, args := args, argTypes := ats }) = callV (e f) (args.map e) := by
  unfold callA callV
  rfl
theorem call_func {g : FuncId} {xs ys args : Array Value} : callV (.func (.func g) xs ys) args = some (g, xs ++ args ++ ys) := rfl
def invokeV (P : Program) (r : Value) (name : String) (args : Array Value) : Option (FuncId × Array Value) := match r with
  | .iface t (.pointer p) => (match methA P t name with | some f => some (f, #[.pointer p] ++ args) | none => none)
  | _ => none
theorem c_invoke {r : Operand} {name : String} {args : Array Operand} {ats : Array TypeId} : callA P e (.call { callee := .invoke r name, args := args, argTypes := ats }) = invokeV P (e r) name (args.map e) := by
  unfold callA invokeV
  rfl
theorem i_prt {k : Nat} {name : String} {args : Array Value} : invokeV P (prtV k) name args = (match methA P 33 name with | some f => some (f, #[hndV k] ++ args) | none => none) := rfl
theorem n_prt {k : Nat} {name : String} : nilCheckA P (.func (.method name) #[prtV k] #[]) = (match methA P 33 name with | some _ => some (.func (.method name) #[prtV k] #[]) | none => none) := rfl
theorem n_ptr {a : Addr} : nilCheckA P (.pointer (some a)) = some (.pointer (some a)) := rfl

theorem low_get {n0 n : Nat} (hn : n < n0) : (lowH n0 h).get n = h.get n := by
  unfold lowH
  simp [hn]

theorem wrap_i64 {n : Int} (h1 : -9223372036854775808 ≤ n) (h2 : n ≤ 9223372036854775807) : IntKind.i64.wrap n = n := IntWalk.i64_in n ⟨h1, h2⟩
end

/-- Is that a function with a body? -/
def fnOK (P : Program) (f : FuncId) : Bool := match P.funcs[f]? with
  | some g => goB g
  | none => false
theorem fnOK_spec {P : Program} {f : FuncId} (h : fnOK P f = true) : ∃ g, P.funcs[f]? = some g ∧ goB g = true := by
  unfold fnOK at h
  split at h
  · rename_i g hg; exact ⟨g, hg, h⟩
  · cases h

theorem prt_clo (n c k : Nat) (h : k < c) : Clo (Kn n c) (prtV k) := by
  intro F F' hs
  have := hs (VB + k) (.inr ⟨by omega, by omega⟩)
  simp [prtV, hndV, adr, this.1, this.2.1]
theorem hnd_clo (n c k : Nat) (h : k < c) : Clo (Kn n c) (hndV k) := by
  intro F F' hs
  have := hs (VB + k) (.inr ⟨by omega, by omega⟩)
  simp [hndV, adr, this.1, this.2.1]
theorem clo0 {K : Nat → Prop} : ∀ u ∈ (#[] : Array Value).toList, Clo K u := fun u hu => by cases hu
theorem clo1 {K : Nat → Prop} {a : Value} (ha : Clo K a) : ∀ u ∈ #[a].toList, Clo K u := fun u hu => by
  simp only [List.mem_cons, List.not_mem_nil, or_false] at hu; subst hu; exact ha
theorem clo2 {K : Nat → Prop} {a b : Value} (ha : Clo K a) (hb : Clo K b) : ∀ u ∈ #[a, b].toList, Clo K u := fun u hu => by
  simp only [List.mem_cons, List.not_mem_nil, or_false] at hu; rcases hu with rfl | rfl; exact ha; exact hb
theorem clo3 {K : Nat → Prop} {a b c : Value} (ha : Clo K a) (hb : Clo K b) (hc : Clo K c) : ∀ u ∈ #[a, b, c].toList, Clo K u := fun u hu => by
  simp only [List.mem_cons, List.not_mem_nil, or_false] at hu; rcases hu with rfl | rfl | rfl; exact ha; exact hb; exact hc
theorem clo4 {K : Nat → Prop} {a b c d : Value} (ha : Clo K a) (hb : Clo K b) (hc : Clo K c) (hd : Clo K d) : ∀ u ∈ #[a, b, c, d].toList, Clo K u := fun u hu => by
  simp only [List.mem_cons, List.not_mem_nil, or_false] at hu; rcases hu with rfl | rfl | rfl | rfl; exact ha; exact hb; exact hc; exact hd
theorem clo5 {K : Nat → Prop} {a b c d e : Value} (ha : Clo K a) (hb : Clo K b) (hc : Clo K c) (hd : Clo K d) (he : Clo K e) : ∀ u ∈ #[a, b, c, d, e].toList, Clo K u := fun u hu => by
  simp only [List.mem_cons, List.not_mem_nil, or_false] at hu; rcases hu with rfl | rfl | rfl | rfl | rfl; exact ha; exact hb; exact hc; exact hd; exact he
theorem hand2 {c : Nat} {a b : Value} (ha : Hand c a) (hb : Hand c b) : Hand c (.tuple #[a, b]) := fun F F' hs => by
  simp only [ren_tuple, List.map_toArray, List.map_cons, List.map_nil, ha F F' hs, hb F F' hs]
theorem hhand {c k : Nat} (h : k < c) : Hand c (hndV k) := hnd_hand c k h
theorem ghand {c N T : Nat} : Hand c (.agg (geoC N T)) := Hand.plain (by simp [plainB, geoC])
theorem iclo {K : Nat → Prop} {k : IntKind} {n : Int} : Clo K (.int k n) := Clo.plain rfl
theorem gclo {K : Nat → Prop} {N T : Nat} : Clo K (.agg (geoC N T)) := Clo.plain (by simp [plainB, geoC])
theorem geo_plain (N T : Nat) : plainB (.agg (geoC N T)) = true := by simp [plainB, geoC]
theorem geo_len (N T : Nat) : (geoC N T).toList.length = 22 := by simp [geoC]
theorem geo_size (N T : Nat) : (geoC N T).size = 22 := by simp [geoC]
theorem geo_all (N T : Nat) : (geoC N T).toList.all cellB = true := by simp [geoC, cellB]
theorem geo_arr (N T : Nat) : (geoC N T).toList.toArray = geoC N T := by simp
theorem splice_all {l vs : List Value} (h : l.length = vs.length) : spliceA l 0 vs = vs := by simp [spliceA, h]
theorem splice_geo {l : List Value} {N T : Nat} (h : l.length = 22) : spliceA l 0 (geoC N T).toList = (geoC N T).toList := splice_all (by rw [h, geo_len])
theorem splice_succ {a : Value} {l vs : List Value} {n : Nat} : spliceA (a :: l) (n + 1) vs = a :: spliceA l n vs := by
  unfold spliceA
  rw [show n + 1 + vs.length = (n + vs.length) + 1 by omega]
  rfl
theorem splice_cons {a v : Value} {l vs : List Value} : spliceA (a :: l) 0 (v :: vs) = v :: spliceA l 0 vs := by
  unfold spliceA
  rw [show 0 + (v :: vs).length = (0 + vs.length) + 1 by simp]
  rfl
theorem splice_nil {l : List Value} : spliceA l 0 [] = l := by simp [spliceA]
theorem cellB_int (k : IntKind) (n : Int) : cellB (.int k n) = true := rfl
theorem cellB_bool (b : Bool) : cellB (.bool b) = true := rfl
theorem cellB_ptr (a : Option Addr) : cellB (.pointer a) = true := rfl
theorem cellB_slice (a : Option Addr) (n c : Nat) : cellB (.slice a n c) = true := rfl
theorem cellB_iface (t : TypeId) (v : Value) : cellB (.iface t v) = true := rfl
theorem cellB_func (fn : Fn) (xs ys : Array Value) : cellB (.func fn xs ys) = true := rfl
theorem cellB_hnd (k : Nat) : cellB (hndV k) = true := rfl
theorem cellB_prt (k : Nat) : cellB (prtV k) = true := rfl
theorem cellB_ni : cellB .nilIface = true := rfl
theorem cellB_nf : cellB .nilFunc = true := rfl
theorem cells_agg (cs : Array Value) : (Value.agg cs).cells = cs := rfl
theorem cells_int (k : IntKind) (n : Int) : (Value.int k n).cells = #[.int k n] := rfl
theorem cells_bool (b : Bool) : (Value.bool b).cells = #[.bool b] := rfl
theorem cells_ptr (a : Option Addr) : (Value.pointer a).cells = #[.pointer a] := rfl
theorem cells_slice (a : Option Addr) (n c : Nat) : (Value.slice a n c).cells = #[.slice a n c] := rfl
theorem cells_iface (t : TypeId) (v : Value) : (Value.iface t v).cells = #[.iface t v] := rfl
theorem cells_func (fn : Fn) (xs ys : Array Value) : (Value.func fn xs ys).cells = #[.func fn xs ys] := rfl
theorem cells_prt (k : Nat) : (prtV k).cells = #[prtV k] := rfl
theorem cells_hnd (k : Nat) : (hndV k).cells = #[hndV k] := rfl

section
variable {P : Program} {σ : Type} {X : Face P σ} {fn : Func} {A : Conf σ → Prop} {ops : Array Oper} {k : List Item} {i : Nat} {tmps : List Value} {h : AHeap} {S : σ} {o : Oper} {n0 : Nat} {W : List Nat} {hf : AHeap} {Kf : List Value → AHeap → σ → Prop} {born : List (Nat × Nat)}

/-- Control alone; no test, no loop. -/
def ctl2 : List Item → Option (List Item)
  | .code .skip :: k | .code (.label _) :: k | .inBlock _ :: k => some k
  | .code (.seq a b) :: k => some (.code a :: .code b :: k)
  | .code (.block id b) :: k => some (.code b :: .inBlock id :: k)
  | .code (.exit id) :: k => exitTo id k
  | .code (.goto l) :: k => gotoIn l k
  | .inRegion _ [] :: k => some k
  | .code (.scope b) :: k => some (.code b :: .inScope b :: k)
  | .inScope _ :: k => some k
  | _ => none
theorem ctl_of {l l' : List Item} (hc : ctl2 l = some l') : ctl tmps l = some l' := by
  unfold ctl2 at hc
  split at hc <;> first | (cases hc; rfl) | exact hc | cases hc
theorem Goes.ctl2 {todo todo' : List Item} (hc : Go.Proofs.Ytceddijolfpppaa.ctl2 todo = some todo') (hk : Goes X fn A (.run todo' tmps h S)) : Goes X fn A (.run todo tmps h S) := .ctl (ctl_of hc) hk
theorem Goes.yes {c : Operand} {x y : Code} (hc : evA tmps c = .bool true) (hk : Goes X fn A (.run (.code x :: k) tmps h S)) : Goes X fn A (.run (.code (.cond c x y) :: k) tmps h S) :=
  .cond hc (fun _ => hk) (fun h => by cases h)
theorem Goes.no {c : Operand} {x y : Code} (hc : evA tmps c = .bool false) (hk : Goes X fn A (.run (.code y :: k) tmps h S)) : Goes X fn A (.run (.code (.cond c x y) :: k) tmps h S) :=
  .cond hc (fun h => by cases h) (fun _ => hk)
theorem Goes.yes' {c : Operand} {x y : Code} {b : Bool} (hb : b = true) (hc : evA tmps c = .bool b) (hk : Goes X fn A (.run (.code x :: k) tmps h S)) : Goes X fn A (.run (.code (.cond c x y) :: k) tmps h S) :=
  .yes (hc.trans (by rw [hb])) hk
theorem Goes.no' {c : Operand} {x y : Code} {b : Bool} (hb : b = false) (hc : evA tmps c = .bool b) (hk : Goes X fn A (.run (.code y :: k) tmps h S)) : Goes X fn A (.run (.code (.cond c x y) :: k) tmps h S) :=
  .no (hc.trans (by rw [hb])) hk
theorem Goes.loop {b : Code} (hk : Goes X fn A (.run (.code b :: .inLoop b :: k) tmps h S)) : Goes X fn A (.run (.code (.loop b) :: k) tmps h S) := .ctl rfl hk
theorem Goes.inLoop {b : Code} (hk : Goes X fn A (.run (.code b :: .inLoop b :: k) tmps h S)) : Goes X fn A (.run (.inLoop b :: k) tmps h S) := .ctl rfl hk
theorem At.prim2 (ho : ops.toList[i]? = some o) (hw : Region.wanted o (yieldedL ops tmps) = true) (hb : opOK o.op = true)
    (hk : ∀ K : List Value → σ → Prop, (∀ t S', At X fn A ops k (i + 1) t h S' → K t S') → CallK (fun f args => fnOK P f = true ∧ ∃ v S', X.prim f args S v S' ∧ K (putL o.dst v tmps) S') (callA P (evA tmps) o.op)) : At X fn A ops k i tmps h S := by
  have := hk _ fun _ _ h => h
  cases hv : callA P (evA tmps) o.op with
  | none => rw [hv] at this; exact this.elim
  | some x =>
    obtain ⟨f, args⟩ := x
    rw [hv] at this
    obtain ⟨hf, hr⟩ := this
    obtain ⟨g, h1, h2⟩ := fnOK_spec hf
    exact At.prim (g := g) (at_list ho) hw (opOK_all hb) (by rw [hv]; exact ⟨h1, h2, hr⟩)
theorem At.call2 (ho : ops.toList[i]? = some o) (hw : Region.wanted o (yieldedL ops tmps) = true) (hb : opOK o.op = true)
    (hk : ∀ K : List Value → σ → Prop, (∀ t S', At X fn A ops k (i + 1) t h S' → K t S') → CallK (fun f args => ∃ v S', Does X f args [] S v S' ∧ K (putL o.dst v tmps) S') (callA P (evA tmps) o.op)) : At X fn A ops k i tmps h S :=
  At.call (at_list ho) hw (opOK_all hb) (hk _ fun _ _ h => h)
theorem RG.prim2 (hl : h.Low) (ho : ops.toList[i]? = some o) (hw : Region.wanted o (yieldedL ops tmps) = true) (hb : opOK o.op = true) (hq : wrB W i o = false)
    (hk : ∀ K : List Value → σ → Prop, (∀ t S', RGF X W ops n0 hf Kf (i + 1) t h S' born → K t S') → CallK (fun f args => fnOK P f = true ∧ ∃ v S', X.prim f args S v S' ∧ K (putL o.dst v tmps) S') (callA P (evA tmps) o.op)) (hnf : farB W i = false := by rfl) : RGF X W ops n0 hf Kf i tmps h S born := by
  have := hk _ fun _ _ h => h
  cases hv : callA P (evA tmps) o.op with
  | none => rw [hv] at this; exact this.elim
  | some x =>
    obtain ⟨f, args⟩ := x
    rw [hv] at this
    obtain ⟨hf, hr⟩ := this
    obtain ⟨g, h1, h2⟩ := fnOK_spec hf
    exact RG.prim (g := g) hl (at_list ho) hw (opOK_all hb) hq (by rw [hv]; exact ⟨h1, h2, hr⟩) hnf
theorem RG.call2 (hl : h.Low) (ho : ops.toList[i]? = some o) (hw : Region.wanted o (yieldedL ops tmps) = true) (hb : opOK o.op = true) (hq : wrB W i o = false)
    (hk : ∀ K : List Value → σ → Prop, (∀ t S', RGF X W ops n0 hf Kf (i + 1) t h S' born → K t S') → CallK (fun f args => ∃ v S', Does X f args [] S v S' ∧ K (putL o.dst v tmps) S') (callA P (evA tmps) o.op)) (hnf : farB W i = false := by rfl) : RGF X W ops n0 hf Kf i tmps h S born :=
  RG.call hl (at_list ho) hw (opOK_all hb) hq (hk _ fun _ _ h => h) hnf
end

attribute [go_sem] OpK NewK StoreK CallK ev_tmp ev_const ev_func put_some put_none v_move v_assign v_bin v_un v_convert v_field v_index v_makeFunc v_nilCheck v_fieldAddr v_indexAddr v_load load_ptr v_pick pick_true pick_false v_extract extract_tuple
  b_add b_sub b_mul b_quo b_rem b_eql b_neq b_lss b_leq b_gtr b_geq b_and b_or b_shl b_shr b_not b_neg c_value call_func c_invoke i_prt n_prt n_ptr low_get wrap_i64 heapL_addO heapL_putO heapL_put Option.join_some heapL_get heapL_next geo_len geo_size geo_all splice_geo cells_agg cells_int cells_bool cells_ptr cells_slice cells_iface cells_func cells_prt cells_hnd
  List.getElem?_cons_zero List.getElem?_cons_succ Array.toArray_toList if_true if_false List.getElem?_toArray List.length_cons List.length_nil List.map_toArray List.map_cons List.map_nil List.append_toArray List.cons_append List.nil_append true_and List.getD_cons_zero List.getD_cons_succ List.set_cons_zero List.set_cons_succ newA convertA fieldAddrA indexAddrA fieldA indexA partA lenA storeOp storeA loadA_eq loadR_cell loadR_sub Int.toNat_natCast
attribute [go_sem high] loadR_all

attribute [go_sem] b_xor b_andNot v_iface iface_prt fill1_agg eq_self and_false false_and List.drop_succ_cons List.drop_zero List.take_succ_cons List.take_zero splice_succ splice_cons splice_nil cellB_int cellB_bool cellB_ptr cellB_slice cellB_iface cellB_func cellB_hnd cellB_prt cellB_ni cellB_nf List.size_toArray List.all_cons List.all_nil Bool.and_true cast0 cast1 Int.cast_ofNat_Int decide_true decide_false b_eqp b_nep b_eqh b_neh b_eqs b_nes b_eqi b_nei b_eqr b_ner b_eqn b_nen b_eqb b_neb cond_true cond_false Option.isNone_some Option.isNone_none Bool.not_true Bool.not_false v_len v_build v_slice buildA fill_cons fill_nil fill1_int fill1_bool fill1_ptr fill1_slice fill1_func fill1_iface fill1_hnd fill1_prt bsliceV n_bslice zerosL Option.map_some
attribute [go_sem] and_true Nat.le_refl Nat.zero_add
attribute [go_sem_proc] Nat.reduceLT Nat.reduceGT Nat.reduceEqDiff Int.reduceNatCast Int.reduceEq Int.reduceNe Nat.reduceDiv Nat.reduceMod Int.reduceTDiv Int.reduceTMod Nat.reduceAdd Nat.reduceLeDiff Nat.reduceMul Nat.reduceSub Int.reduceLE Int.reduceLT Int.reduceToNat Int.reduceAdd Int.reduceSub Int.reduceMul Int.reduceBEq Int.reduceBNe Int.reduceNeg

end Go.Proofs.Ytceddijolfpppaa
