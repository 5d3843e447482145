/-
  The abstract machine, part 13: rules for the evaluation of its operations; calls whose frames are written out.
  No condition: laws.
-/
import Derived.Test.YtceddijolfpppaaUPort
import Derived.IntWalk
namespace Go.Proofs.Ytceddijolfpppaa
open Go Go.RowKit
set_option linter.unusedSimpArgs false
set_option linter.unusedVariables false
section
variable {P : Program} {e : Operand → Value} {h : AHeap} {t : TypeId} {x y : Operand} {k : IntKind} {a b : Int}
theorem ev_tmp (l : List Value) (t : Nat) : evA l (.tmp t) = l.getD t undef := rfl
theorem ev_const (l : List Value) (v : Value) : evA l (.const v) = v := rfl
theorem ev_func (l : List Value) (f : FuncId) : evA l (.func f) = .func (.func f) #[] #[] := rfl
theorem put_some (d : Nat) (v : Value) (l : List Value) : putL (some d) v l = l.set d v := rfl
theorem put_none (v : Value) (l : List Value) : putL none v l = l := rfl
theorem v_move : valA P e h (.move x) = some (e x) := rfl
theorem v_assign : valA P e h (.assign x) = some (e x) := rfl
theorem v_bin {op : BinOp} {u : TypeId} : valA P e h (.binOp op t x y u) = binOpA P op t y (e x) (e y) := rfl
theorem v_un {op : UnOp} : valA P e h (.unOp op t x) = unA op (e x) := rfl
theorem v_convert {u : TypeId} : valA P e h (.convert t u x) = convertA P t u (e x) := rfl
theorem v_field {i : Nat} : valA P e h (.field t x i) = fieldA P t (e x) i := rfl
theorem v_index : valA P e h (.index t x y) = indexA P t (e x) (e y) := rfl
theorem v_makeFunc {fn : Fn} {xs ys : Array Operand} : valA P e h (.makeFunc fn xs ys) = some (.func fn (xs.map e) (ys.map e)) := rfl
theorem v_nilCheck : valA P e h (.nilCheck x) = nilCheckA P (e x) := rfl
theorem v_fieldAddr {i : Nat} : valA P e h (.fieldAddr t x i) = fieldAddrA P t (e x) i := rfl
theorem v_indexAddr : valA P e h (.indexAddr t x y) = indexAddrA P t (e x) (e y) := rfl
def loadV (P : Program) (h : AHeap) (t : TypeId) : Value → Option Value
  | .pointer (some a) => loadA P h t a
  | _ => none
theorem v_load : valA P e h (.load t x) = loadV P h t (e x) := by
  show (match e x with | .pointer (some a) => loadA P h t a | _ => none) = _
  unfold loadV
  rfl
theorem load_ptr {a : Addr} : loadV P h t (.pointer (some a)) = loadA P h t a := rfl
def pickV (c a b : Value) : Option Value := match c with
  | .bool t => some (if t then a else b)
  | _ => none
theorem v_pick {z : Operand} : valA P e h (.pick x y z) = pickV (e x) (e y) (e z) := rfl
theorem pick_true {v u : Value} : pickV (.bool true) v u = some v := rfl
theorem pick_false {v u : Value} : pickV (.bool false) v u = some u := rfl
def extractV (v : Value) (i : Nat) : Option Value := match v with
  | .tuple vs => vs[i]?
  | _ => none
theorem v_extract {i : Nat} : valA P e h (.extract x i) = extractV (e x) i := rfl
theorem extract_tuple {vs : Array Value} {i : Nat} : extractV (.tuple vs) i = vs[i]? := rfl
theorem b_add : binOpA P .add t y (.int k a) (.int k b) = some (.int k (k.wrap (a + b))) := by simp [binOpA, binA, intA]
theorem b_sub : binOpA P .sub t y (.int k a) (.int k b) = some (.int k (k.wrap (a - b))) := by simp [binOpA, binA, intA]
theorem b_mul : binOpA P .mul t y (.int k a) (.int k b) = some (.int k (k.wrap (a * b))) := by simp [binOpA, binA, intA]
theorem b_rem (hb : b ≠ 0) : binOpA P .rem t y (.int k a) (.int k b) = some (.int k (a.tmod b)) := by simp [binOpA, binA, intA, hb]
theorem b_eql : binOpA P .eql t y (.int k a) (.int k b) = some (.bool (a == b)) := by simp [binOpA, binA, intA]
theorem b_neq : binOpA P .neq t y (.int k a) (.int k b) = some (.bool (a != b)) := by simp [binOpA, binA, intA]
theorem b_lss : binOpA P .lss t y (.int k a) (.int k b) = some (.bool (decide (a < b))) := by simp [binOpA, binA, intA]
theorem b_leq : binOpA P .leq t y (.int k a) (.int k b) = some (.bool (decide (a ≤ b))) := by simp [binOpA, binA, intA]
theorem b_gtr : binOpA P .gtr t y (.int k a) (.int k b) = some (.bool (decide (b < a))) := by simp [binOpA, binA, intA]
theorem b_geq : binOpA P .geq t y (.int k a) (.int k b) = some (.bool (decide (b ≤ a))) := by simp [binOpA, binA, intA]
def andZ (k : IntKind) (a b : Int) : Int := k.wrap (BitVec.ofInt k.bits a &&& BitVec.ofInt k.bits b).toNat
def orZ (k : IntKind) (a b : Int) : Int := k.wrap (BitVec.ofInt k.bits a ||| BitVec.ofInt k.bits b).toNat
theorem b_and : binOpA P .and t y (.int k a) (.int k b) = some (.int k (andZ k a b)) := by simp [binOpA, binA, intA, andZ]
theorem b_or : binOpA P .or t y (.int k a) (.int k b) = some (.int k (orZ k a b)) := by simp [binOpA, binA, intA, orZ]
theorem b_shl {k' : IntKind} (hb : 0 ≤ b) : binOpA P .shl t y (.int k a) (.int k' b) = some (.int k (k.wrap (a * 2 ^ min b.toNat k.bits))) := by
  have : ¬ b < 0 := by omega
  simp [binOpA, binA, shiftA, this]
theorem b_shr {k' : IntKind} (hb : 0 ≤ b) : binOpA P .shr t y (.int k a) (.int k' b) = some (.int k (a.fdiv (2 ^ min b.toNat k.bits))) := by
  have : ¬ b < 0 := by omega
  simp [binOpA, binA, shiftA, this]
theorem b_not {c : Bool} : unA .not (.bool c) = some (.bool !c) := rfl
theorem b_neg : unA .neg (.int k a) = some (.int k (k.wrap (0 - a))) := rfl
theorem cast0 : ((0 : Nat) : Int) = 0 := rfl
theorem cast1 : ((1 : Nat) : Int) = 1 := rfl
def loadR (b : Option Blk) (g : Option Bool) (s : Option Nat) (a : Addr) : Option Value := match b, g, s with
  | some b, some true, some s => if a.spot = none ∧ a.off = 0 ∧ b.cells.length = s then some (.agg b.cells.toArray) else if a.spot = none ∧ a.off + s ≤ b.cells.length then some (.agg ((b.cells.drop a.off).take s).toArray) else none
  | some b, some false, some _ => if a.spot = none then b.cells[a.off]? else none
  | _, _, _ => none
theorem loadA_eq {a : Addr} : loadA P h t a = loadR (h.get a.block) (tyAgg P t) (tySize P t) a := rfl
theorem loadR_cell {b : Blk} {s n o : Nat} : loadR (some b) (some false) (some s) ⟨n, o, none⟩ = b.cells[o]? := by simp [loadR]
theorem loadR_all {b : Blk} {s n : Nat} (hl : b.cells.length = s) : loadR (some b) (some true) (some s) ⟨n, 0, none⟩ = some (.agg b.cells.toArray) := by simp [loadR, hl]
def tyPtr (P : Program) (t : TypeId) : Bool := match P.underlying t with | some (.pointer _) => true | _ => false
def tyIfc (P : Program) (t : TypeId) : Bool := match P.underlying t with | some (.interface _) => true | _ => false
def tySli (P : Program) (t : TypeId) : Bool := match P.underlying t with | some (.slice _) => true | _ => false
theorem b_eqp {a : Option Addr} : binOpA P .eql t y (.pointer a) (.pointer none) = cond (tyPtr P t) (some (.bool a.isNone)) none := by
  simp only [binOpA, binA, eqNilA, eqFlatA, tyPtr]
  cases P.underlying t with
  | none => rfl
  | some u => cases u <;> rfl
theorem b_eqh {k : Nat} : binOpA P .eql t y (hndV k) (.pointer none) = cond (tyPtr P t) (some (.bool false)) none := b_eqp
theorem b_eqi {u : TypeId} {v : Value} : binOpA P .eql t y (.iface u v) .nilIface = cond (tyIfc P t) (some (.bool false)) none := by
  simp only [binOpA, binA, eqNilA, eqFlatA, tyIfc]
  cases P.underlying t with
  | none => rfl
  | some u => cases u <;> rfl
theorem b_nei {u : TypeId} {v : Value} : binOpA P .neq t y (.iface u v) .nilIface = cond (tyIfc P t) (some (.bool true)) none := by
  simp only [binOpA, binA, eqNilA, eqFlatA, tyIfc]
  cases P.underlying t with
  | none => rfl
  | some u => cases u <;> rfl
theorem b_eqr {k : Nat} : binOpA P .eql t y (prtV k) .nilIface = cond (tyIfc P t) (some (.bool false)) none := b_eqi
theorem b_ner {k : Nat} : binOpA P .neq t y (prtV k) .nilIface = cond (tyIfc P t) (some (.bool true)) none := b_nei
def tyMk (P : Program) (t : TypeId) : Bool := match P.underlying t with | some (.interface _) => false | some _ => true | none => false
theorem v_iface : valA P e h (.makeInterface t x) = cond (tyMk P t) (some (.iface t (e x))) none := by
  simp only [valA, tyMk]
  cases P.underlying t with
  | none => rfl
  | some u => cases u <;> rfl
theorem iface_prt {k : Nat} : Value.iface 33 (hndV k) = prtV k := rfl
theorem v_len {ats : Array TypeId} {z : Operand} : valA P e h (.call { callee := .builtin .len, args := #[z], argTypes := ats }) = (match ats.toList with | [t] => lenA P t (e z) | _ => none) := by
  show (match [z], ats.toList with | [x], [t] => lenA P t (e x) | _, _ => none) = _
  cases ats.toList with
  | nil => rfl
  | cons a l => cases l <;> rfl
def min2 : Value → Value → Option Value
  | .int k x, .int _ y => some (.int k (if y < x then y else x))
  | _, _ => none
def max2 : Value → Value → Option Value
  | .int k x, .int _ y => some (.int k (if y > x then y else x))
  | _, _ => none
theorem v_build {ps : Array (Nat × Operand)} : valA P e h (.build t ps) = buildA P t (ps.toList.map fun p => (p.1, e p.2)) := rfl
theorem v_slice {lo hi mx : Option Operand} : valA P e h (.slice t x lo hi mx) = sliceA P h t (e x) (lo.map e) (hi.map e) (mx.map e) := rfl
def fill1 (o : Option (Nat × Nat)) (v : Value) (cells : List Value) (K : List Value → Option (List Value)) : Option (List Value) := match o with
  | none => none
  | some (off, size) => if v.cells.size ≠ size ∨ off + v.cells.size > cells.length then none else K (spliceA cells off v.cells.toList)
theorem fill_cons {pl : Nat → Option (Nat × Nat)} {cells : List Value} {i : Nat} {v : Value} {l : List (Nat × Value)} : fillA pl cells ((i, v) :: l) = fill1 (pl i) v cells fun c => fillA pl c l := by
  rw [fillA]
  unfold fill1
  rfl
theorem fill_nil {pl : Nat → Option (Nat × Nat)} {cells : List Value} : fillA pl cells [] = some cells := rfl
theorem fill1_one {off : Nat} {v : Value} {cells : List Value} {K : List Value → Option (List Value)} (hv : v.cells = #[v]) (hl : off < cells.length) : fill1 (some (off, 1)) v cells K = K (cells.set off v) := by
  have : ¬ ((#[v] : Array Value).size ≠ 1 ∨ off + (#[v] : Array Value).size > cells.length) := by simp; omega
  unfold fill1
  simp only [hv]
  rw [if_neg this]
  congr 1
  unfold spliceA
  rw [List.set_eq_take_append_cons_drop, if_pos hl]
  simp
theorem fill1_int {off : Nat} {n : Int} {cells : List Value} {K : List Value → Option (List Value)} (hl : off < cells.length) : fill1 (some (off, 1)) (.int k n) cells K = K (cells.set off (.int k n)) := fill1_one rfl hl
theorem fill1_bool {off : Nat} {c : Bool} {cells : List Value} {K : List Value → Option (List Value)} (hl : off < cells.length) : fill1 (some (off, 1)) (.bool c) cells K = K (cells.set off (.bool c)) := fill1_one rfl hl
theorem fill1_slice {off n c : Nat} {d : Option Addr} {cells : List Value} {K : List Value → Option (List Value)} (hl : off < cells.length) : fill1 (some (off, 1)) (.slice d n c) cells K = K (cells.set off (.slice d n c)) := fill1_one rfl hl
theorem c_static {f : FuncId} {args : Array Operand} {ats : Array TypeId} : callA P e (.call { callee := .value (.func f), args := args, argTypes := ats }) = (match e (.func f) with | .func (.func g) xs ys => some (g, xs ++ args.map e ++ ys) | .func (.method name) xs _ => (match xs.toList with | [.iface t (.pointer p)] => (match methA P t name with | some g => some (g, #[.pointer p] ++ args.map e) | none => none) | _ => none) | _ => none) := rfl
def callV (P : Program) (f : Value) (args : Array Value) : Option (FuncId × Array Value) := match f with
  | .func (.func g) xs ys => some (g, xs ++ args ++ ys)
  | .func (.method name) xs _ => (match xs.toList with
    | [.iface t (.pointer p)] => (match methA P t name with | some g => some (g, #[.pointer p] ++ args) | none => none)
    | _ => none)
  | _ => none
theorem c_value {f : Operand} {args : Array Operand} {ats : Array TypeId} : callA P e (.call { callee := .value f, args := args, argTypes := ats }) = callV P (e f) (args.map e) := by
  unfold callA callV
  rfl
theorem call_func {g : FuncId} {xs ys args : Array Value} : callV P (.func (.func g) xs ys) args = some (g, xs ++ args ++ ys) := rfl
theorem call_meth {name : String} {k : Nat} {ys args : Array Value} : callV P (.func (.method name) #[prtV k] ys) args = (match methA P 33 name with | some f => some (f, #[hndV k] ++ args) | none => none) := rfl
def invokeV (P : Program) (r : Value) (name : String) (args : Array Value) : Option (FuncId × Array Value) := match r with
  | .iface t (.pointer p) => (match methA P t name with | some f => some (f, #[.pointer p] ++ args) | none => none)
  | _ => none
theorem c_invoke {r : Operand} {name : String} {args : Array Operand} {ats : Array TypeId} : callA P e (.call { callee := .invoke r name, args := args, argTypes := ats }) = invokeV P (e r) name (args.map e) := by
  unfold callA invokeV
  rfl
theorem i_prt {k : Nat} {name : String} {args : Array Value} : invokeV P (prtV k) name args = (match methA P 33 name with | some f => some (f, #[hndV k] ++ args) | none => none) := rfl
theorem n_prt {k : Nat} {name : String} : nilCheckA P (.func (.method name) #[prtV k] #[]) = (match methA P 33 name with | some _ => some (.func (.method name) #[prtV k] #[]) | none => none) := rfl
theorem n_ptr {a : Addr} : nilCheckA P (.pointer (some a)) = some (.pointer (some a)) := rfl
theorem low_get {n0 n : Nat} (hn : n < n0) : (lowH n0 h).get n = h.get n := by
  unfold lowH
  simp [hn]
theorem wrap_i64 {n : Int} (h1 : -9223372036854775808 ≤ n) (h2 : n ≤ 9223372036854775807) : IntKind.i64.wrap n = n := IntWalk.i64_in n ⟨h1, h2⟩
end
def fnOK (P : Program) (f : FuncId) : Bool := match P.funcs[f]? with
  | some g => goB g
  | none => false
theorem fnOK_spec {P : Program} {f : FuncId} (h : fnOK P f = true) : ∃ g, P.funcs[f]? = some g ∧ goB g = true := by
  unfold fnOK at h
  split at h
  · rename_i g hg; exact ⟨g, hg, h⟩
  · cases h
theorem prt_clo (n c k : Nat) (h : k < c) : Clo (Kn n c) (prtV k) := by
  intro F F' hs
  have := hs (VB + k) (.inr ⟨by omega, by omega⟩)
  simp [prtV, hndV, adr, this.1, this.2.1]
theorem hnd_clo (n c k : Nat) (h : k < c) : Clo (Kn n c) (hndV k) := by
  intro F F' hs
  have := hs (VB + k) (.inr ⟨by omega, by omega⟩)
  simp [hndV, adr, this.1, this.2.1]
theorem clo0 {K : Nat → Prop} : ∀ u ∈ (#[] : Array Value).toList, Clo K u := fun u hu => by cases hu
theorem clo1 {K : Nat → Prop} {a : Value} (ha : Clo K a) : ∀ u ∈ #[a].toList, Clo K u := fun u hu => by
  simp only [List.mem_cons, List.not_mem_nil, or_false] at hu; subst hu; exact ha
theorem clo2 {K : Nat → Prop} {a b : Value} (ha : Clo K a) (hb : Clo K b) : ∀ u ∈ #[a, b].toList, Clo K u := fun u hu => by
  simp only [List.mem_cons, List.not_mem_nil, or_false] at hu; rcases hu with rfl | rfl; exact ha; exact hb
theorem clo3 {K : Nat → Prop} {a b c : Value} (ha : Clo K a) (hb : Clo K b) (hc : Clo K c) : ∀ u ∈ #[a, b, c].toList, Clo K u := fun u hu => by
  simp only [List.mem_cons, List.not_mem_nil, or_false] at hu; rcases hu with rfl | rfl | rfl; exact ha; exact hb; exact hc
theorem clo4 {K : Nat → Prop} {a b c d : Value} (ha : Clo K a) (hb : Clo K b) (hc : Clo K c) (hd : Clo K d) : ∀ u ∈ #[a, b, c, d].toList, Clo K u := fun u hu => by
  simp only [List.mem_cons, List.not_mem_nil, or_false] at hu; rcases hu with rfl | rfl | rfl | rfl; exact ha; exact hb; exact hc; exact hd
theorem hhand {c k : Nat} (h : k < c) : Hand c (hndV k) := hnd_hand c k h
theorem iclo {K : Nat → Prop} {k : IntKind} {n : Int} : Clo K (.int k n) := Clo.plain rfl
theorem gclo {K : Nat → Prop} {N T : Nat} : Clo K (.agg (geoC N T)) := Clo.plain (by simp [plainB, geoC])
theorem geo_plain (N T : Nat) : plainB (.agg (geoC N T)) = true := by simp [plainB, geoC]
theorem geo_len (N T : Nat) : (geoC N T).toList.length = 22 := by simp [geoC]
theorem geo_size (N T : Nat) : (geoC N T).size = 22 := by simp [geoC]
theorem geo_all (N T : Nat) : (geoC N T).toList.all cellB = true := by simp [geoC, cellB]
theorem splice_all {l vs : List Value} (h : l.length = vs.length) : spliceA l 0 vs = vs := by simp [spliceA, h]
theorem splice_geo {l : List Value} {N T : Nat} (h : l.length = 22) : spliceA l 0 (geoC N T).toList = (geoC N T).toList := splice_all (by rw [h, geo_len])
theorem splice_cons {a v : Value} {l vs : List Value} : spliceA (a :: l) 0 (v :: vs) = v :: spliceA l 0 vs := by
  unfold spliceA
  rw [show 0 + (v :: vs).length = (0 + vs.length) + 1 by simp]
  rfl
theorem splice_nil {l : List Value} : spliceA l 0 [] = l := by simp [spliceA]
theorem cellB_int (k : IntKind) (n : Int) : cellB (.int k n) = true := rfl
theorem cellB_bool (b : Bool) : cellB (.bool b) = true := rfl
theorem cellB_ptr (a : Option Addr) : cellB (.pointer a) = true := rfl
theorem cellB_slice (a : Option Addr) (n c : Nat) : cellB (.slice a n c) = true := rfl
theorem cellB_iface (t : TypeId) (v : Value) : cellB (.iface t v) = true := rfl
theorem cellB_func (fn : Fn) (xs ys : Array Value) : cellB (.func fn xs ys) = true := rfl
theorem cellB_hnd (k : Nat) : cellB (hndV k) = true := rfl
theorem cellB_prt (k : Nat) : cellB (prtV k) = true := rfl
theorem cellB_ni : cellB .nilIface = true := rfl
theorem cellB_nf : cellB .nilFunc = true := rfl
theorem cells_agg (cs : Array Value) : (Value.agg cs).cells = cs := rfl
theorem cells_int (k : IntKind) (n : Int) : (Value.int k n).cells = #[.int k n] := rfl
theorem cells_bool (b : Bool) : (Value.bool b).cells = #[.bool b] := rfl
theorem cells_ptr (a : Option Addr) : (Value.pointer a).cells = #[.pointer a] := rfl
theorem cells_slice (a : Option Addr) (n c : Nat) : (Value.slice a n c).cells = #[.slice a n c] := rfl
theorem cells_iface (t : TypeId) (v : Value) : (Value.iface t v).cells = #[.iface t v] := rfl
theorem cells_func (fn : Fn) (xs ys : Array Value) : (Value.func fn xs ys).cells = #[.func fn xs ys] := rfl
theorem cells_prt (k : Nat) : (prtV k).cells = #[prtV k] := rfl
theorem cells_hnd (k : Nat) : (hndV k).cells = #[hndV k] := rfl
section
variable {P : Program} {σ : Type} {X : Face P σ} {fn : Func} {A : Conf σ → Prop} {ops : Array Oper} {k : List Item} {i : Nat} {tmps : List Value} {h : AHeap} {S : σ} {o : Oper} {n0 : Nat} {W : List Nat} {hf : AHeap} {Kf : List Value → AHeap → σ → Prop} {born : List (Nat × Nat)}
def ctl2 : List Item → Option (List Item)
  | .code .skip :: k | .code (.label _) :: k | .inBlock _ :: k => some k
  | .code (.seq a b) :: k => some (.code a :: .code b :: k)
  | .code (.block id b) :: k => some (.code b :: .inBlock id :: k)
  | .code (.exit id) :: k => exitTo id k
  | .code (.goto l) :: k => gotoIn l k
  | .inRegion _ [] :: k => some k
  | .code (.scope b) :: k => some (.code b :: .inScope b :: k)
  | .inScope _ :: k => some k
  | _ => none
theorem ctl_of {l l' : List Item} (hc : ctl2 l = some l') : ctl tmps l = some l' := by
  unfold ctl2 at hc
  split at hc <;> first | (cases hc; rfl) | exact hc | cases hc
theorem Goes.ctl2 {todo todo' : List Item} (hc : Go.Proofs.Ytceddijolfpppaa.ctl2 todo = some todo') (hk : Goes X fn A (.run todo' tmps h S)) : Goes X fn A (.run todo tmps h S) := .ctl (ctl_of hc) hk
theorem Goes.yes {c : Operand} {x y : Code} (hc : evA tmps c = .bool true) (hk : Goes X fn A (.run (.code x :: k) tmps h S)) : Goes X fn A (.run (.code (.cond c x y) :: k) tmps h S) :=
  .cond hc (fun _ => hk) (fun h => by cases h)
theorem Goes.no {c : Operand} {x y : Code} (hc : evA tmps c = .bool false) (hk : Goes X fn A (.run (.code y :: k) tmps h S)) : Goes X fn A (.run (.code (.cond c x y) :: k) tmps h S) :=
  .cond hc (fun h => by cases h) (fun _ => hk)
theorem Goes.loop {b : Code} (hk : Goes X fn A (.run (.code b :: .inLoop b :: k) tmps h S)) : Goes X fn A (.run (.code (.loop b) :: k) tmps h S) := .ctl rfl hk
theorem Goes.inLoop {b : Code} (hk : Goes X fn A (.run (.code b :: .inLoop b :: k) tmps h S)) : Goes X fn A (.run (.inLoop b :: k) tmps h S) := .ctl rfl hk
theorem At.prim2 (ho : ops.toList[i]? = some o) (hw : Region.wanted o (yieldedL ops tmps) = true) (hb : opOK o.op = true)
    (hk : ∀ K : List Value → σ → Prop, (∀ t S', At X fn A ops k (i + 1) t h S' → K t S') → CallK (fun f args => fnOK P f = true ∧ ∃ v S', X.prim f args S v S' ∧ K (putL o.dst v tmps) S') (callA P (evA tmps) o.op)) : At X fn A ops k i tmps h S := by
  have := hk _ fun _ _ h => h
  cases hv : callA P (evA tmps) o.op with
  | none => rw [hv] at this; exact this.elim
  | some x =>
    obtain ⟨f, args⟩ := x
    rw [hv] at this
    obtain ⟨hf, hr⟩ := this
    obtain ⟨g, h1, h2⟩ := fnOK_spec hf
    exact At.prim (g := g) (at_list ho) hw (opOK_all hb) (by rw [hv]; exact ⟨h1, h2, hr⟩)
theorem At.call2 (ho : ops.toList[i]? = some o) (hw : Region.wanted o (yieldedL ops tmps) = true) (hb : opOK o.op = true)
    (hk : ∀ K : List Value → σ → Prop, (∀ t S', At X fn A ops k (i + 1) t h S' → K t S') → CallK (fun f args => ∃ v S', Does X f args [] S v S' ∧ K (putL o.dst v tmps) S') (callA P (evA tmps) o.op)) : At X fn A ops k i tmps h S :=
  At.call (at_list ho) hw (opOK_all hb) (hk _ fun _ _ h => h)
theorem RG.prim2 (hl : h.Low) (ho : ops.toList[i]? = some o) (hw : Region.wanted o (yieldedL ops tmps) = true) (hb : opOK o.op = true) (hq : wrB W i o = false)
    (hk : ∀ K : List Value → σ → Prop, (∀ t S', RGF X W ops n0 hf Kf (i + 1) t h S' born → K t S') → CallK (fun f args => fnOK P f = true ∧ ∃ v S', X.prim f args S v S' ∧ K (putL o.dst v tmps) S') (callA P (evA tmps) o.op)) (hnf : farB W i = false := by rfl) : RGF X W ops n0 hf Kf i tmps h S born := by
  have := hk _ fun _ _ h => h
  cases hv : callA P (evA tmps) o.op with
  | none => rw [hv] at this; exact this.elim
  | some x =>
    obtain ⟨f, args⟩ := x
    rw [hv] at this
    obtain ⟨hf, hr⟩ := this
    obtain ⟨g, h1, h2⟩ := fnOK_spec hf
    exact RG.prim (g := g) hl (at_list ho) hw (opOK_all hb) hq (by rw [hv]; exact ⟨h1, h2, hr⟩) hnf
theorem RG.call2 (hl : h.Low) (ho : ops.toList[i]? = some o) (hw : Region.wanted o (yieldedL ops tmps) = true) (hb : opOK o.op = true) (hq : wrB W i o = false)
    (hk : ∀ K : List Value → σ → Prop, (∀ t S', RGF X W ops n0 hf Kf (i + 1) t h S' born → K t S') → CallK (fun f args => ∃ v S', Does X f args [] S v S' ∧ K (putL o.dst v tmps) S') (callA P (evA tmps) o.op)) (hnf : farB W i = false := by rfl) : RGF X W ops n0 hf Kf i tmps h S born :=
  RG.call hl (at_list ho) hw (opOK_all hb) hq (hk _ fun _ _ h => h) hnf
end
attribute [go_sem] OpK NewK StoreK CallK ev_tmp ev_const ev_func put_some put_none v_move v_assign v_bin v_un v_convert v_field v_index v_makeFunc v_nilCheck v_fieldAddr v_indexAddr v_load load_ptr v_pick pick_true pick_false v_extract extract_tuple b_add b_sub b_mul b_rem b_eql b_neq b_lss b_leq b_gtr b_geq b_and b_or b_shl b_shr b_not b_neg c_value call_func call_meth c_invoke i_prt n_prt n_ptr low_get wrap_i64 heapL_addO heapL_putO heapL_put Option.join_some heapL_get heapL_next geo_len geo_size geo_all splice_geo cells_agg cells_int cells_bool cells_ptr cells_slice cells_iface cells_func cells_prt cells_hnd List.getElem?_cons_zero List.getElem?_cons_succ Array.toArray_toList if_true if_false List.getElem?_toArray List.length_cons List.length_nil List.map_toArray List.map_cons List.map_nil List.append_toArray List.cons_append List.nil_append true_and List.getD_cons_zero List.getD_cons_succ List.set_cons_zero List.set_cons_succ newA convertA fieldAddrA indexAddrA fieldA indexA partA lenA storeOp storeA loadA_eq loadR_cell Int.toNat_natCast
attribute [go_sem high] loadR_all
attribute [go_sem] v_iface iface_prt eq_self and_false false_and List.drop_succ_cons List.drop_zero List.take_succ_cons List.take_zero splice_cons splice_nil cellB_int cellB_bool cellB_ptr cellB_slice cellB_iface cellB_func cellB_hnd cellB_prt cellB_ni cellB_nf List.size_toArray List.all_cons List.all_nil Bool.and_true cast0 cast1 Int.cast_ofNat_Int decide_true decide_false b_eqp b_eqh b_eqi b_nei b_eqr b_ner cond_true cond_false Option.isNone_some Option.isNone_none Bool.not_true Bool.not_false v_len v_build v_slice buildA fill_cons fill_nil fill1_int fill1_bool fill1_slice zerosL Option.map_some
attribute [go_sem] and_true Nat.le_refl Nat.zero_add
attribute [go_sem_proc] Nat.reduceLT Nat.reduceGT Nat.reduceEqDiff Int.reduceNatCast Int.reduceEq Int.reduceNe Nat.reduceDiv Nat.reduceMod Int.reduceTDiv Int.reduceTMod Nat.reduceAdd Nat.reduceLeDiff Nat.reduceMul Nat.reduceSub Int.reduceLE Int.reduceLT Int.reduceToNat Int.reduceAdd Int.reduceSub Int.reduceMul Int.reduceBEq Int.reduceBNe Int.reduceNeg
end Go.Proofs.Ytceddijolfpppaa
namespace Go.Proofs.Ytceddijolfpppaa
open Go Go.RowKit
set_option linter.unusedSimpArgs false
set_option linter.unusedVariables false
theorem Try.eql7 (y : Operand) (a0 b0 : Int) (a1 b1 : Int) (a2 b2 : Bool) (a3 b3 : Int) : binOpA Try.prog .eql 7 y (.agg #[.int .i64 a0, .int .i64 a1, .bool a2, .int .u8 a3]) (.agg #[.int .i64 b0, .int .i64 b1, .bool b2, .int .u8 b3]) = some (.bool (a0 == b0 && (a1 == b1 && (a2 == b2 && (a3 == b3 && true))))) := by kernel_rfl
theorem Try.neq7 (y : Operand) (a0 b0 : Int) (a1 b1 : Int) (a2 b2 : Bool) (a3 b3 : Int) : binOpA Try.prog .neq 7 y (.agg #[.int .i64 a0, .int .i64 a1, .bool a2, .int .u8 a3]) (.agg #[.int .i64 b0, .int .i64 b1, .bool b2, .int .u8 b3]) = some (.bool !(a0 == b0 && (a1 == b1 && (a2 == b2 && (a3 == b3 && true))))) := by kernel_rfl
theorem Try.eql8 (y : Operand) (a0 b0 : Int) (a1 b1 : Int) (a2 b2 : Bool) (a3 b3 : Int) : binOpA Try.prog .eql 8 y (.agg #[.int .i64 a0, .int .i64 a1, .bool a2, .int .u8 a3]) (.agg #[.int .i64 b0, .int .i64 b1, .bool b2, .int .u8 b3]) = some (.bool (a0 == b0 && (a1 == b1 && (a2 == b2 && (a3 == b3 && true))))) := by kernel_rfl
theorem Try.neq8 (y : Operand) (a0 b0 : Int) (a1 b1 : Int) (a2 b2 : Bool) (a3 b3 : Int) : binOpA Try.prog .neq 8 y (.agg #[.int .i64 a0, .int .i64 a1, .bool a2, .int .u8 a3]) (.agg #[.int .i64 b0, .int .i64 b1, .bool b2, .int .u8 b3]) = some (.bool !(a0 == b0 && (a1 == b1 && (a2 == b2 && (a3 == b3 && true))))) := by kernel_rfl
theorem Try.eql37 (y : Operand) (a0 b0 : Int) (a1 b1 : Int) (a2 b2 : Int) (a3 b3 : Int) : binOpA Try.prog .eql 37 y (.agg #[.int .i64 a0, .int .i64 a1, .int .i64 a2, .int .u32 a3]) (.agg #[.int .i64 b0, .int .i64 b1, .int .i64 b2, .int .u32 b3]) = some (.bool (a0 == b0 && (a1 == b1 && (a2 == b2 && (a3 == b3 && true))))) := by kernel_rfl
theorem Try.neq37 (y : Operand) (a0 b0 : Int) (a1 b1 : Int) (a2 b2 : Int) (a3 b3 : Int) : binOpA Try.prog .neq 37 y (.agg #[.int .i64 a0, .int .i64 a1, .int .i64 a2, .int .u32 a3]) (.agg #[.int .i64 b0, .int .i64 b1, .int .i64 b2, .int .u32 b3]) = some (.bool !(a0 == b0 && (a1 == b1 && (a2 == b2 && (a3 == b3 && true))))) := by kernel_rfl
theorem Try.eql38 (y : Operand) (a0 b0 : Int) (a1 b1 : Int) (a2 b2 : Int) (a3 b3 : Int) : binOpA Try.prog .eql 38 y (.agg #[.int .i64 a0, .int .i64 a1, .int .i64 a2, .int .u32 a3]) (.agg #[.int .i64 b0, .int .i64 b1, .int .i64 b2, .int .u32 b3]) = some (.bool (a0 == b0 && (a1 == b1 && (a2 == b2 && (a3 == b3 && true))))) := by kernel_rfl
theorem Try.neq38 (y : Operand) (a0 b0 : Int) (a1 b1 : Int) (a2 b2 : Int) (a3 b3 : Int) : binOpA Try.prog .neq 38 y (.agg #[.int .i64 a0, .int .i64 a1, .int .i64 a2, .int .u32 a3]) (.agg #[.int .i64 b0, .int .i64 b1, .int .i64 b2, .int .u32 b3]) = some (.bool !(a0 == b0 && (a1 == b1 && (a2 == b2 && (a3 == b3 && true))))) := by kernel_rfl
theorem Try.eql57 (y : Operand) (a0 b0 : Int) (a1 b1 : Int) (a2 b2 : Int) : binOpA Try.prog .eql 57 y (.agg #[.int .u8 a0, .int .i16 a1, .int .i16 a2]) (.agg #[.int .u8 b0, .int .i16 b1, .int .i16 b2]) = some (.bool (a0 == b0 && (a1 == b1 && (a2 == b2 && true)))) := by kernel_rfl
theorem Try.neq57 (y : Operand) (a0 b0 : Int) (a1 b1 : Int) (a2 b2 : Int) : binOpA Try.prog .neq 57 y (.agg #[.int .u8 a0, .int .i16 a1, .int .i16 a2]) (.agg #[.int .u8 b0, .int .i16 b1, .int .i16 b2]) = some (.bool !(a0 == b0 && (a1 == b1 && (a2 == b2 && true)))) := by kernel_rfl
theorem Try.eql58 (y : Operand) (a0 b0 : Int) (a1 b1 : Int) (a2 b2 : Int) : binOpA Try.prog .eql 58 y (.agg #[.int .u8 a0, .int .i16 a1, .int .i16 a2]) (.agg #[.int .u8 b0, .int .i16 b1, .int .i16 b2]) = some (.bool (a0 == b0 && (a1 == b1 && (a2 == b2 && true)))) := by kernel_rfl
theorem Try.neq58 (y : Operand) (a0 b0 : Int) (a1 b1 : Int) (a2 b2 : Int) : binOpA Try.prog .neq 58 y (.agg #[.int .u8 a0, .int .i16 a1, .int .i16 a2]) (.agg #[.int .u8 b0, .int .i16 b1, .int .i16 b2]) = some (.bool !(a0 == b0 && (a1 == b1 && (a2 == b2 && true)))) := by kernel_rfl
theorem Try.eql62 (y : Operand) (a0 b0 : Int) (a1 b1 : Int) : binOpA Try.prog .eql 62 y (.agg #[.int .i64 a0, .int .i64 a1]) (.agg #[.int .i64 b0, .int .i64 b1]) = some (.bool (a0 == b0 && (a1 == b1 && true))) := by kernel_rfl
theorem Try.neq62 (y : Operand) (a0 b0 : Int) (a1 b1 : Int) : binOpA Try.prog .neq 62 y (.agg #[.int .i64 a0, .int .i64 a1]) (.agg #[.int .i64 b0, .int .i64 b1]) = some (.bool !(a0 == b0 && (a1 == b1 && true))) := by kernel_rfl
theorem Try.eql63 (y : Operand) (a0 b0 : Int) (a1 b1 : Int) : binOpA Try.prog .eql 63 y (.agg #[.int .i64 a0, .int .i64 a1]) (.agg #[.int .i64 b0, .int .i64 b1]) = some (.bool (a0 == b0 && (a1 == b1 && true))) := by kernel_rfl
theorem Try.neq63 (y : Operand) (a0 b0 : Int) (a1 b1 : Int) : binOpA Try.prog .neq 63 y (.agg #[.int .i64 a0, .int .i64 a1]) (.agg #[.int .i64 b0, .int .i64 b1]) = some (.bool !(a0 == b0 && (a1 == b1 && true))) := by kernel_rfl
theorem Try.eql75 (y : Operand) (a0 b0 : Int) (a1 b1 : Int) (a2 b2 : Int) (a3 b3 : Int) : binOpA Try.prog .eql 75 y (.agg #[.int .u8 a0, .int .u8 a1, .int .i64 a2, .int .i64 a3]) (.agg #[.int .u8 b0, .int .u8 b1, .int .i64 b2, .int .i64 b3]) = some (.bool (a0 == b0 && (a1 == b1 && (a2 == b2 && (a3 == b3 && true))))) := by kernel_rfl
theorem Try.neq75 (y : Operand) (a0 b0 : Int) (a1 b1 : Int) (a2 b2 : Int) (a3 b3 : Int) : binOpA Try.prog .neq 75 y (.agg #[.int .u8 a0, .int .u8 a1, .int .i64 a2, .int .i64 a3]) (.agg #[.int .u8 b0, .int .u8 b1, .int .i64 b2, .int .i64 b3]) = some (.bool !(a0 == b0 && (a1 == b1 && (a2 == b2 && (a3 == b3 && true))))) := by kernel_rfl
theorem Try.eql76 (y : Operand) (a0 b0 : Int) (a1 b1 : Int) (a2 b2 : Int) (a3 b3 : Int) : binOpA Try.prog .eql 76 y (.agg #[.int .u8 a0, .int .u8 a1, .int .i64 a2, .int .i64 a3]) (.agg #[.int .u8 b0, .int .u8 b1, .int .i64 b2, .int .i64 b3]) = some (.bool (a0 == b0 && (a1 == b1 && (a2 == b2 && (a3 == b3 && true))))) := by kernel_rfl
theorem Try.neq76 (y : Operand) (a0 b0 : Int) (a1 b1 : Int) (a2 b2 : Int) (a3 b3 : Int) : binOpA Try.prog .neq 76 y (.agg #[.int .u8 a0, .int .u8 a1, .int .i64 a2, .int .i64 a3]) (.agg #[.int .u8 b0, .int .u8 b1, .int .i64 b2, .int .i64 b3]) = some (.bool !(a0 == b0 && (a1 == b1 && (a2 == b2 && (a3 == b3 && true))))) := by kernel_rfl
theorem Try.eql77 (y : Operand) (a0 b0 : Int) (a1 b1 : Bool) (a2 b2 : Int) : binOpA Try.prog .eql 77 y (.agg #[.int .i64 a0, .bool a1, .int .u32 a2]) (.agg #[.int .i64 b0, .bool b1, .int .u32 b2]) = some (.bool (a0 == b0 && (a1 == b1 && (a2 == b2 && true)))) := by kernel_rfl
theorem Try.neq77 (y : Operand) (a0 b0 : Int) (a1 b1 : Bool) (a2 b2 : Int) : binOpA Try.prog .neq 77 y (.agg #[.int .i64 a0, .bool a1, .int .u32 a2]) (.agg #[.int .i64 b0, .bool b1, .int .u32 b2]) = some (.bool !(a0 == b0 && (a1 == b1 && (a2 == b2 && true)))) := by kernel_rfl
theorem Try.eql78 (y : Operand) (a0 b0 : Int) (a1 b1 : Bool) (a2 b2 : Int) : binOpA Try.prog .eql 78 y (.agg #[.int .i64 a0, .bool a1, .int .u32 a2]) (.agg #[.int .i64 b0, .bool b1, .int .u32 b2]) = some (.bool (a0 == b0 && (a1 == b1 && (a2 == b2 && true)))) := by kernel_rfl
theorem Try.neq78 (y : Operand) (a0 b0 : Int) (a1 b1 : Bool) (a2 b2 : Int) : binOpA Try.prog .neq 78 y (.agg #[.int .i64 a0, .bool a1, .int .u32 a2]) (.agg #[.int .i64 b0, .bool b1, .int .u32 b2]) = some (.bool !(a0 == b0 && (a1 == b1 && (a2 == b2 && true)))) := by kernel_rfl
theorem Try.eql93 (y : Operand) (a0 b0 : Int) (a1 b1 : Int) (a2 b2 : Int) (a3 b3 : Int) : binOpA Try.prog .eql 93 y (.agg #[.int .i64 a0, .int .i64 a1, .int .i64 a2, .int .i64 a3]) (.agg #[.int .i64 b0, .int .i64 b1, .int .i64 b2, .int .i64 b3]) = some (.bool (a0 == b0 && (a1 == b1 && (a2 == b2 && (a3 == b3 && true))))) := by kernel_rfl
theorem Try.neq93 (y : Operand) (a0 b0 : Int) (a1 b1 : Int) (a2 b2 : Int) (a3 b3 : Int) : binOpA Try.prog .neq 93 y (.agg #[.int .i64 a0, .int .i64 a1, .int .i64 a2, .int .i64 a3]) (.agg #[.int .i64 b0, .int .i64 b1, .int .i64 b2, .int .i64 b3]) = some (.bool !(a0 == b0 && (a1 == b1 && (a2 == b2 && (a3 == b3 && true))))) := by kernel_rfl
theorem Try.eql94 (y : Operand) (a0 b0 : Int) (a1 b1 : Int) (a2 b2 : Int) (a3 b3 : Int) : binOpA Try.prog .eql 94 y (.agg #[.int .i64 a0, .int .i64 a1, .int .i64 a2, .int .i64 a3]) (.agg #[.int .i64 b0, .int .i64 b1, .int .i64 b2, .int .i64 b3]) = some (.bool (a0 == b0 && (a1 == b1 && (a2 == b2 && (a3 == b3 && true))))) := by kernel_rfl
theorem Try.neq94 (y : Operand) (a0 b0 : Int) (a1 b1 : Int) (a2 b2 : Int) (a3 b3 : Int) : binOpA Try.prog .neq 94 y (.agg #[.int .i64 a0, .int .i64 a1, .int .i64 a2, .int .i64 a3]) (.agg #[.int .i64 b0, .int .i64 b1, .int .i64 b2, .int .i64 b3]) = some (.bool !(a0 == b0 && (a1 == b1 && (a2 == b2 && (a3 == b3 && true))))) := by kernel_rfl
theorem Try.eql105 (y : Operand) (a0 b0 : Int) (a1 b1 : Int) (a2 b2 : Int) : binOpA Try.prog .eql 105 y (.agg #[.int .i64 a0, .int .i64 a1, .int .i64 a2]) (.agg #[.int .i64 b0, .int .i64 b1, .int .i64 b2]) = some (.bool (a0 == b0 && (a1 == b1 && (a2 == b2 && true)))) := by kernel_rfl
theorem Try.neq105 (y : Operand) (a0 b0 : Int) (a1 b1 : Int) (a2 b2 : Int) : binOpA Try.prog .neq 105 y (.agg #[.int .i64 a0, .int .i64 a1, .int .i64 a2]) (.agg #[.int .i64 b0, .int .i64 b1, .int .i64 b2]) = some (.bool !(a0 == b0 && (a1 == b1 && (a2 == b2 && true)))) := by kernel_rfl
theorem Try.eql106 (y : Operand) (a0 b0 : Int) (a1 b1 : Int) (a2 b2 : Int) : binOpA Try.prog .eql 106 y (.agg #[.int .i64 a0, .int .i64 a1, .int .i64 a2]) (.agg #[.int .i64 b0, .int .i64 b1, .int .i64 b2]) = some (.bool (a0 == b0 && (a1 == b1 && (a2 == b2 && true)))) := by kernel_rfl
theorem Try.neq106 (y : Operand) (a0 b0 : Int) (a1 b1 : Int) (a2 b2 : Int) : binOpA Try.prog .neq 106 y (.agg #[.int .i64 a0, .int .i64 a1, .int .i64 a2]) (.agg #[.int .i64 b0, .int .i64 b1, .int .i64 b2]) = some (.bool !(a0 == b0 && (a1 == b1 && (a2 == b2 && true)))) := by kernel_rfl
theorem Try.eql109 (y : Operand) (a0 b0 : Int) (a1 b1 : Int) (a2 b2 : Int) (a3 b3 : Int) (a4 b4 : Int) : binOpA Try.prog .eql 109 y (.agg #[.int .u64 a0, .int .u64 a1, .int .u64 a2, .int .u64 a3, .int .u64 a4]) (.agg #[.int .u64 b0, .int .u64 b1, .int .u64 b2, .int .u64 b3, .int .u64 b4]) = some (.bool (a0 == b0 && (a1 == b1 && (a2 == b2 && (a3 == b3 && (a4 == b4 && true)))))) := by kernel_rfl
theorem Try.neq109 (y : Operand) (a0 b0 : Int) (a1 b1 : Int) (a2 b2 : Int) (a3 b3 : Int) (a4 b4 : Int) : binOpA Try.prog .neq 109 y (.agg #[.int .u64 a0, .int .u64 a1, .int .u64 a2, .int .u64 a3, .int .u64 a4]) (.agg #[.int .u64 b0, .int .u64 b1, .int .u64 b2, .int .u64 b3, .int .u64 b4]) = some (.bool !(a0 == b0 && (a1 == b1 && (a2 == b2 && (a3 == b3 && (a4 == b4 && true)))))) := by kernel_rfl
theorem Try.eql110 (y : Operand) (a0 b0 : Int) (a1 b1 : Int) (a2 b2 : Int) (a3 b3 : Int) (a4 b4 : Int) : binOpA Try.prog .eql 110 y (.agg #[.int .u64 a0, .int .u64 a1, .int .u64 a2, .int .u64 a3, .int .u64 a4]) (.agg #[.int .u64 b0, .int .u64 b1, .int .u64 b2, .int .u64 b3, .int .u64 b4]) = some (.bool (a0 == b0 && (a1 == b1 && (a2 == b2 && (a3 == b3 && (a4 == b4 && true)))))) := by kernel_rfl
theorem Try.neq110 (y : Operand) (a0 b0 : Int) (a1 b1 : Int) (a2 b2 : Int) (a3 b3 : Int) (a4 b4 : Int) : binOpA Try.prog .neq 110 y (.agg #[.int .u64 a0, .int .u64 a1, .int .u64 a2, .int .u64 a3, .int .u64 a4]) (.agg #[.int .u64 b0, .int .u64 b1, .int .u64 b2, .int .u64 b3, .int .u64 b4]) = some (.bool !(a0 == b0 && (a1 == b1 && (a2 == b2 && (a3 == b3 && (a4 == b4 && true)))))) := by kernel_rfl
theorem Try.eql124 (y : Operand) (a0 b0 : Int) (a1 b1 : Int) (a2 b2 : Int) (a3 b3 : Int) : binOpA Try.prog .eql 124 y (.agg #[.int .u8 a0, .int .i64 a1, .int .u64 a2, .int .u64 a3]) (.agg #[.int .u8 b0, .int .i64 b1, .int .u64 b2, .int .u64 b3]) = some (.bool (a0 == b0 && (a1 == b1 && (a2 == b2 && (a3 == b3 && true))))) := by kernel_rfl
theorem Try.neq124 (y : Operand) (a0 b0 : Int) (a1 b1 : Int) (a2 b2 : Int) (a3 b3 : Int) : binOpA Try.prog .neq 124 y (.agg #[.int .u8 a0, .int .i64 a1, .int .u64 a2, .int .u64 a3]) (.agg #[.int .u8 b0, .int .i64 b1, .int .u64 b2, .int .u64 b3]) = some (.bool !(a0 == b0 && (a1 == b1 && (a2 == b2 && (a3 == b3 && true))))) := by kernel_rfl
theorem Try.eql125 (y : Operand) (a0 b0 : Int) (a1 b1 : Int) (a2 b2 : Int) (a3 b3 : Int) : binOpA Try.prog .eql 125 y (.agg #[.int .u8 a0, .int .i64 a1, .int .u64 a2, .int .u64 a3]) (.agg #[.int .u8 b0, .int .i64 b1, .int .u64 b2, .int .u64 b3]) = some (.bool (a0 == b0 && (a1 == b1 && (a2 == b2 && (a3 == b3 && true))))) := by kernel_rfl
theorem Try.neq125 (y : Operand) (a0 b0 : Int) (a1 b1 : Int) (a2 b2 : Int) (a3 b3 : Int) : binOpA Try.prog .neq 125 y (.agg #[.int .u8 a0, .int .i64 a1, .int .u64 a2, .int .u64 a3]) (.agg #[.int .u8 b0, .int .i64 b1, .int .u64 b2, .int .u64 b3]) = some (.bool !(a0 == b0 && (a1 == b1 && (a2 == b2 && (a3 == b3 && true))))) := by kernel_rfl
theorem Try.eql153 (y : Operand) (a0 b0 : Int) (a1 b1 : Int) (a2 b2 : Int) : binOpA Try.prog .eql 153 y (.agg #[.int .i64 a0, .int .i64 a1, .int .i64 a2]) (.agg #[.int .i64 b0, .int .i64 b1, .int .i64 b2]) = some (.bool (a0 == b0 && (a1 == b1 && (a2 == b2 && true)))) := by kernel_rfl
theorem Try.neq153 (y : Operand) (a0 b0 : Int) (a1 b1 : Int) (a2 b2 : Int) : binOpA Try.prog .neq 153 y (.agg #[.int .i64 a0, .int .i64 a1, .int .i64 a2]) (.agg #[.int .i64 b0, .int .i64 b1, .int .i64 b2]) = some (.bool !(a0 == b0 && (a1 == b1 && (a2 == b2 && true)))) := by kernel_rfl
theorem Try.eql154 (y : Operand) (a0 b0 : Int) (a1 b1 : Int) (a2 b2 : Int) : binOpA Try.prog .eql 154 y (.agg #[.int .i64 a0, .int .i64 a1, .int .i64 a2]) (.agg #[.int .i64 b0, .int .i64 b1, .int .i64 b2]) = some (.bool (a0 == b0 && (a1 == b1 && (a2 == b2 && true)))) := by kernel_rfl
theorem Try.neq154 (y : Operand) (a0 b0 : Int) (a1 b1 : Int) (a2 b2 : Int) : binOpA Try.prog .neq 154 y (.agg #[.int .i64 a0, .int .i64 a1, .int .i64 a2]) (.agg #[.int .i64 b0, .int .i64 b1, .int .i64 b2]) = some (.bool !(a0 == b0 && (a1 == b1 && (a2 == b2 && true)))) := by kernel_rfl
theorem Try.eql196 (y : Operand) (a0 b0 : Int) (a1 b1 : Int) (a2 b2 : Int) : binOpA Try.prog .eql 196 y (.agg #[.int .i64 a0, .int .i64 a1, .int .i64 a2]) (.agg #[.int .i64 b0, .int .i64 b1, .int .i64 b2]) = some (.bool (a0 == b0 && (a1 == b1 && (a2 == b2 && true)))) := by kernel_rfl
theorem Try.neq196 (y : Operand) (a0 b0 : Int) (a1 b1 : Int) (a2 b2 : Int) : binOpA Try.prog .neq 196 y (.agg #[.int .i64 a0, .int .i64 a1, .int .i64 a2]) (.agg #[.int .i64 b0, .int .i64 b1, .int .i64 b2]) = some (.bool !(a0 == b0 && (a1 == b1 && (a2 == b2 && true)))) := by kernel_rfl
theorem Try.eql197 (y : Operand) (a0 b0 : Int) (a1 b1 : Int) (a2 b2 : Int) : binOpA Try.prog .eql 197 y (.agg #[.int .i64 a0, .int .i64 a1, .int .i64 a2]) (.agg #[.int .i64 b0, .int .i64 b1, .int .i64 b2]) = some (.bool (a0 == b0 && (a1 == b1 && (a2 == b2 && true)))) := by kernel_rfl
theorem Try.neq197 (y : Operand) (a0 b0 : Int) (a1 b1 : Int) (a2 b2 : Int) : binOpA Try.prog .neq 197 y (.agg #[.int .i64 a0, .int .i64 a1, .int .i64 a2]) (.agg #[.int .i64 b0, .int .i64 b1, .int .i64 b2]) = some (.bool !(a0 == b0 && (a1 == b1 && (a2 == b2 && true)))) := by kernel_rfl
theorem Try.eql200 (y : Operand) (a0 b0 : Int) (a1 b1 : Bool) (a2 b2 : Int) (a3 b3 : Int) : binOpA Try.prog .eql 200 y (.agg #[.int .u8 a0, .bool a1, .int .i64 a2, .int .u32 a3]) (.agg #[.int .u8 b0, .bool b1, .int .i64 b2, .int .u32 b3]) = some (.bool (a0 == b0 && (a1 == b1 && (a2 == b2 && (a3 == b3 && true))))) := by kernel_rfl
theorem Try.neq200 (y : Operand) (a0 b0 : Int) (a1 b1 : Bool) (a2 b2 : Int) (a3 b3 : Int) : binOpA Try.prog .neq 200 y (.agg #[.int .u8 a0, .bool a1, .int .i64 a2, .int .u32 a3]) (.agg #[.int .u8 b0, .bool b1, .int .i64 b2, .int .u32 b3]) = some (.bool !(a0 == b0 && (a1 == b1 && (a2 == b2 && (a3 == b3 && true))))) := by kernel_rfl
theorem Try.eql201 (y : Operand) (a0 b0 : Int) (a1 b1 : Bool) (a2 b2 : Int) (a3 b3 : Int) : binOpA Try.prog .eql 201 y (.agg #[.int .u8 a0, .bool a1, .int .i64 a2, .int .u32 a3]) (.agg #[.int .u8 b0, .bool b1, .int .i64 b2, .int .u32 b3]) = some (.bool (a0 == b0 && (a1 == b1 && (a2 == b2 && (a3 == b3 && true))))) := by kernel_rfl
theorem Try.neq201 (y : Operand) (a0 b0 : Int) (a1 b1 : Bool) (a2 b2 : Int) (a3 b3 : Int) : binOpA Try.prog .neq 201 y (.agg #[.int .u8 a0, .bool a1, .int .i64 a2, .int .u32 a3]) (.agg #[.int .u8 b0, .bool b1, .int .i64 b2, .int .u32 b3]) = some (.bool !(a0 == b0 && (a1 == b1 && (a2 == b2 && (a3 == b3 && true))))) := by kernel_rfl
theorem Try.ty0 :
  tyAgg Try.prog 2 = some false ∧
  tySize Try.prog 2 = some 1 ∧
  tyMk Try.prog 2 = true ∧
  tyBytes Try.prog 2 = some 8 ∧
  tyZero Try.prog 2 = some (.int .i64 0) ∧
  plainB (.int .i64 0) = true ∧
  tyAgg Try.prog 3 = some false ∧
  tySize Try.prog 3 = some 1 ∧
  tyMk Try.prog 3 = true ∧
  tyBytes Try.prog 3 = some 8 ∧
  tyZero Try.prog 3 = some (.int .i64 0) ∧
  tyAgg Try.prog 4 = some false ∧
  tySize Try.prog 4 = some 1 ∧
  tyMk Try.prog 4 = true ∧
  tyBool Try.prog 4 = true ∧
  tyBytes Try.prog 4 = some 1 ∧
  tyZero Try.prog 4 = some (.bool false) ∧
  plainB (.bool false) = true ∧
  tyAgg Try.prog 5 = some false ∧
  tySize Try.prog 5 = some 1 ∧
  tyMk Try.prog 5 = true ∧
  tyBytes Try.prog 5 = some 1 ∧
  tyZero Try.prog 5 = some (.int .u8 0) ∧
  plainB (.int .u8 0) = true := by (repeat' apply And.intro) <;> kernel_rfl
theorem Try.ty5 :
  tySize Try.prog 19 = some 1 ∧
  tyField Try.prog 19 0 = some (0, 17) ∧
  (tyPlace Try.prog 19 = some fun i => ([(0, 1)] : List (Nat × Nat))[i]?) ∧
  tyMk Try.prog 19 = true ∧
  tyBytes Try.prog 19 = some 8 ∧
  tyZero Try.prog 19 = some (.agg #[.pointer none]) ∧
  tyAgg Try.prog 20 = some false ∧
  tySize Try.prog 20 = some 1 ∧
  tyIfc Try.prog 20 = true ∧
  tyBytes Try.prog 20 = some 16 ∧
  tyZero Try.prog 20 = some (.nilIface) ∧
  plainB (.nilIface) = true ∧
  tyAgg Try.prog 21 = some false ∧
  tySize Try.prog 21 = some 1 ∧
  tyMk Try.prog 21 = true ∧
  tyBytes Try.prog 21 = some 4 ∧
  tyZero Try.prog 21 = some (.int .i32 0) ∧
  plainB (.int .i32 0) = true ∧
  tyAgg Try.prog 22 = some false ∧
  tySize Try.prog 22 = some 1 ∧
  tySli Try.prog 22 = true ∧
  tyBytes Try.prog 22 = some 24 ∧
  tySlice Try.prog 22 = some 5 ∧
  tyZero Try.prog 22 = some (.slice none 0 0) := by (repeat' apply And.intro) <;> kernel_rfl
theorem Try.ty6 :
  plainB (.slice none 0 0) = true ∧
  tyAgg Try.prog 24 = some true ∧
  tySize Try.prog 24 = some 20 ∧
  (tyPlace Try.prog 24 = some fun i => some (i * 1, 1)) ∧
  tyBytes Try.prog 24 = some 160 ∧
  tyArray Try.prog 24 = some (20, 3) ∧
  tyZero Try.prog 24 = some (.agg #[.int .i64 0, .int .i64 0, .int .i64 0, .int .i64 0, .int .i64 0, .int .i64 0, .int .i64 0, .int .i64 0, .int .i64 0, .int .i64 0, .int .i64 0, .int .i64 0, .int .i64 0, .int .i64 0, .int .i64 0, .int .i64 0, .int .i64 0, .int .i64 0, .int .i64 0, .int .i64 0]) ∧
  plainB (.agg #[.int .i64 0, .int .i64 0, .int .i64 0, .int .i64 0, .int .i64 0, .int .i64 0, .int .i64 0, .int .i64 0, .int .i64 0, .int .i64 0, .int .i64 0, .int .i64 0, .int .i64 0, .int .i64 0, .int .i64 0, .int .i64 0, .int .i64 0, .int .i64 0, .int .i64 0, .int .i64 0]) = true ∧
  tyAgg Try.prog 25 = some true ∧
  tySize Try.prog 25 = some 22 ∧
  tyField Try.prog 25 0 = some (0, 3) ∧
  tyField Try.prog 25 1 = some (1, 3) ∧
  tyField Try.prog 25 2 = some (2, 24) ∧
  (tyPlace Try.prog 25 = some fun i => ([(0, 1), (1, 1), (2, 20)] : List (Nat × Nat))[i]?) ∧
  tyMk Try.prog 25 = true ∧
  tyBytes Try.prog 25 = some 176 ∧
  tyZero Try.prog 25 = some (.agg #[.int .i64 0, .int .i64 0, .int .i64 0, .int .i64 0, .int .i64 0, .int .i64 0, .int .i64 0, .int .i64 0, .int .i64 0, .int .i64 0, .int .i64 0, .int .i64 0, .int .i64 0, .int .i64 0, .int .i64 0, .int .i64 0, .int .i64 0, .int .i64 0, .int .i64 0, .int .i64 0, .int .i64 0, .int .i64 0]) ∧
  plainB (.agg #[.int .i64 0, .int .i64 0, .int .i64 0, .int .i64 0, .int .i64 0, .int .i64 0, .int .i64 0, .int .i64 0, .int .i64 0, .int .i64 0, .int .i64 0, .int .i64 0, .int .i64 0, .int .i64 0, .int .i64 0, .int .i64 0, .int .i64 0, .int .i64 0, .int .i64 0, .int .i64 0, .int .i64 0, .int .i64 0]) = true ∧
  tyAgg Try.prog 26 = some true ∧
  tySize Try.prog 26 = some 22 ∧
  tyField Try.prog 26 0 = some (0, 3) ∧
  tyField Try.prog 26 1 = some (1, 3) ∧
  tyField Try.prog 26 2 = some (2, 24) ∧
  (tyPlace Try.prog 26 = some fun i => ([(0, 1), (1, 1), (2, 20)] : List (Nat × Nat))[i]?) := by (repeat' apply And.intro) <;> kernel_rfl
theorem Try.ty7 :
  tyMk Try.prog 26 = true ∧
  tyBytes Try.prog 26 = some 176 ∧
  tyZero Try.prog 26 = some (.agg #[.int .i64 0, .int .i64 0, .int .i64 0, .int .i64 0, .int .i64 0, .int .i64 0, .int .i64 0, .int .i64 0, .int .i64 0, .int .i64 0, .int .i64 0, .int .i64 0, .int .i64 0, .int .i64 0, .int .i64 0, .int .i64 0, .int .i64 0, .int .i64 0, .int .i64 0, .int .i64 0, .int .i64 0, .int .i64 0]) ∧
  tyAgg Try.prog 29 = some false ∧
  tySize Try.prog 29 = some 1 ∧
  tyMk Try.prog 29 = true ∧
  tyPtr Try.prog 29 = true ∧
  tyBytes Try.prog 29 = some 8 ∧
  tyZero Try.prog 29 = some (.pointer none) ∧
  methA Try.prog 29 "Byte" = some 79 ∧
  methA Try.prog 29 "Bytes" = some 125 ∧
  methA Try.prog 29 "Copy" = some 70 ∧
  methA Try.prog 29 "Do" = some 85 ∧
  methA Try.prog 29 "Word" = some 30 ∧
  methA Try.prog 29 "Words" = some 124 ∧
  tyAgg Try.prog 32 = some false ∧
  tySize Try.prog 32 = some 1 ∧
  tyBytes Try.prog 32 = some 8 ∧
  tyAgg Try.prog 33 = some false ∧
  tySize Try.prog 33 = some 1 ∧
  tyMk Try.prog 33 = true ∧
  tyPtr Try.prog 33 = true ∧
  tyBytes Try.prog 33 = some 8 ∧
  tyZero Try.prog 33 = some (.pointer none) := by (repeat' apply And.intro) <;> kernel_rfl
theorem Try.ty8 :
  methA Try.prog 33 "Add" = some 173 ∧
  methA Try.prog 33 "CAS" = some 174 ∧
  methA Try.prog 33 "Fresh" = some 84 ∧
  methA Try.prog 33 "Get" = some 175 ∧
  methA Try.prog 33 "Load" = some 44 ∧
  methA Try.prog 33 "Put" = some 176 ∧
  methA Try.prog 33 "Self" = some 177 ∧
  methA Try.prog 33 "Steps" = some 29 ∧
  methA Try.prog 33 "Store" = some 52 ∧
  methA Try.prog 33 "Tell" = some 178 ∧
  methA Try.prog 33 "Told" = some 87 ∧
  tyAgg Try.prog 36 = some false ∧
  tySize Try.prog 36 = some 1 ∧
  tyMk Try.prog 36 = true ∧
  tyBytes Try.prog 36 = some 4 ∧
  tyZero Try.prog 36 = some (.int .u32 0) ∧
  plainB (.int .u32 0) = true ∧
  tyAgg Try.prog 37 = some true ∧
  tySize Try.prog 37 = some 4 ∧
  tyField Try.prog 37 0 = some (0, 3) ∧
  tyField Try.prog 37 1 = some (1, 3) ∧
  tyField Try.prog 37 2 = some (2, 3) ∧
  tyField Try.prog 37 3 = some (3, 36) ∧
  (tyPlace Try.prog 37 = some fun i => ([(0, 1), (1, 1), (2, 1), (3, 1)] : List (Nat × Nat))[i]?) := by (repeat' apply And.intro) <;> kernel_rfl
theorem Try.ty9 :
  tyMk Try.prog 37 = true ∧
  tyBytes Try.prog 37 = some 32 ∧
  tyZero Try.prog 37 = some (.agg #[.int .i64 0, .int .i64 0, .int .i64 0, .int .u32 0]) ∧
  plainB (.agg #[.int .i64 0, .int .i64 0, .int .i64 0, .int .u32 0]) = true ∧
  tyAgg Try.prog 38 = some true ∧
  tySize Try.prog 38 = some 4 ∧
  tyField Try.prog 38 0 = some (0, 3) ∧
  tyField Try.prog 38 1 = some (1, 3) ∧
  tyField Try.prog 38 2 = some (2, 3) ∧
  tyField Try.prog 38 3 = some (3, 36) ∧
  (tyPlace Try.prog 38 = some fun i => ([(0, 1), (1, 1), (2, 1), (3, 1)] : List (Nat × Nat))[i]?) ∧
  tyMk Try.prog 38 = true ∧
  tyBytes Try.prog 38 = some 32 ∧
  tyZero Try.prog 38 = some (.agg #[.int .i64 0, .int .i64 0, .int .i64 0, .int .u32 0]) ∧
  tyAgg Try.prog 39 = some true ∧
  tySize Try.prog 39 = some 6 ∧
  tyField Try.prog 39 0 = some (0, 38) ∧
  tyField Try.prog 39 1 = some (4, 4) ∧
  tyField Try.prog 39 2 = some (5, 3) ∧
  (tyPlace Try.prog 39 = some fun i => ([(0, 4), (4, 1), (5, 1)] : List (Nat × Nat))[i]?) ∧
  tyMk Try.prog 39 = true ∧
  tyBytes Try.prog 39 = some 48 ∧
  tyZero Try.prog 39 = some (.agg #[.int .i64 0, .int .i64 0, .int .i64 0, .int .u32 0, .bool false, .int .i64 0]) ∧
  plainB (.agg #[.int .i64 0, .int .i64 0, .int .i64 0, .int .u32 0, .bool false, .int .i64 0]) = true := by (repeat' apply And.intro) <;> kernel_rfl
theorem Try.ty10 :
  tyAgg Try.prog 40 = some true ∧
  tySize Try.prog 40 = some 6 ∧
  tyField Try.prog 40 0 = some (0, 38) ∧
  tyField Try.prog 40 1 = some (4, 4) ∧
  tyField Try.prog 40 2 = some (5, 3) ∧
  (tyPlace Try.prog 40 = some fun i => ([(0, 4), (4, 1), (5, 1)] : List (Nat × Nat))[i]?) ∧
  tyMk Try.prog 40 = true ∧
  tyBytes Try.prog 40 = some 48 ∧
  tyZero Try.prog 40 = some (.agg #[.int .i64 0, .int .i64 0, .int .i64 0, .int .u32 0, .bool false, .int .i64 0]) ∧
  tyAgg Try.prog 49 = some false ∧
  tySize Try.prog 49 = some 1 ∧
  tyMk Try.prog 49 = true ∧
  tyBytes Try.prog 49 = some 8 ∧
  tyZero Try.prog 49 = some (.int .u64 0) ∧
  tyAgg Try.prog 52 = some false ∧
  tySize Try.prog 52 = some 1 ∧
  tySli Try.prog 52 = true ∧
  tyBytes Try.prog 52 = some 24 ∧
  tySlice Try.prog 52 = some 58 ∧
  tyZero Try.prog 52 = some (.slice none 0 0) ∧
  tyAgg Try.prog 55 = some false ∧
  tySize Try.prog 55 = some 1 ∧
  tySli Try.prog 55 = true ∧
  tyBytes Try.prog 55 = some 24 := by (repeat' apply And.intro) <;> kernel_rfl
theorem Try.ty13 :
  tyBytes Try.prog 63 = some 16 ∧
  tyZero Try.prog 63 = some (.agg #[.int .i64 0, .int .i64 0]) ∧
  tyAgg Try.prog 67 = some false ∧
  tySize Try.prog 67 = some 1 ∧
  tySli Try.prog 67 = true ∧
  tyBytes Try.prog 67 = some 24 ∧
  tySlice Try.prog 67 = some 76 ∧
  tyZero Try.prog 67 = some (.slice none 0 0) ∧
  tyAgg Try.prog 70 = some false ∧
  tySize Try.prog 70 = some 1 ∧
  tySli Try.prog 70 = true ∧
  tyBytes Try.prog 70 = some 24 ∧
  tySlice Try.prog 70 = some 3 ∧
  tyZero Try.prog 70 = some (.slice none 0 0) ∧
  tyAgg Try.prog 71 = some false ∧
  tySize Try.prog 71 = some 1 ∧
  tySli Try.prog 71 = true ∧
  tyBytes Try.prog 71 = some 24 ∧
  tySlice Try.prog 71 = some 70 ∧
  tyZero Try.prog 71 = some (.slice none 0 0) ∧
  tyAgg Try.prog 72 = some true ∧
  tySize Try.prog 72 = some 4 ∧
  tyField Try.prog 72 0 = some (0, 70) ∧
  tyField Try.prog 72 1 = some (1, 71) := by (repeat' apply And.intro) <;> kernel_rfl
theorem Try.ty14 :
  tyField Try.prog 72 2 = some (2, 71) ∧
  tyField Try.prog 72 3 = some (3, 3) ∧
  (tyPlace Try.prog 72 = some fun i => ([(0, 1), (1, 1), (2, 1), (3, 1)] : List (Nat × Nat))[i]?) ∧
  tyMk Try.prog 72 = true ∧
  tyBytes Try.prog 72 = some 80 ∧
  tyZero Try.prog 72 = some (.agg #[.slice none 0 0, .slice none 0 0, .slice none 0 0, .int .i64 0]) ∧
  plainB (.agg #[.slice none 0 0, .slice none 0 0, .slice none 0 0, .int .i64 0]) = true ∧
  tyAgg Try.prog 73 = some true ∧
  tySize Try.prog 73 = some 4 ∧
  tyField Try.prog 73 0 = some (0, 70) ∧
  tyField Try.prog 73 1 = some (1, 71) ∧
  tyField Try.prog 73 2 = some (2, 71) ∧
  tyField Try.prog 73 3 = some (3, 3) ∧
  (tyPlace Try.prog 73 = some fun i => ([(0, 1), (1, 1), (2, 1), (3, 1)] : List (Nat × Nat))[i]?) ∧
  tyMk Try.prog 73 = true ∧
  tyBytes Try.prog 73 = some 80 ∧
  tyZero Try.prog 73 = some (.agg #[.slice none 0 0, .slice none 0 0, .slice none 0 0, .int .i64 0]) ∧
  tyAgg Try.prog 75 = some true ∧
  tySize Try.prog 75 = some 4 ∧
  tyField Try.prog 75 0 = some (0, 5) ∧
  tyField Try.prog 75 1 = some (1, 5) ∧
  tyField Try.prog 75 2 = some (2, 3) ∧
  tyField Try.prog 75 3 = some (3, 3) ∧
  (tyPlace Try.prog 75 = some fun i => ([(0, 1), (1, 1), (2, 1), (3, 1)] : List (Nat × Nat))[i]?) := by (repeat' apply And.intro) <;> kernel_rfl
theorem Try.ty15 :
  tyMk Try.prog 75 = true ∧
  tyBytes Try.prog 75 = some 24 ∧
  tyZero Try.prog 75 = some (.agg #[.int .u8 0, .int .u8 0, .int .i64 0, .int .i64 0]) ∧
  plainB (.agg #[.int .u8 0, .int .u8 0, .int .i64 0, .int .i64 0]) = true ∧
  tyAgg Try.prog 76 = some true ∧
  tySize Try.prog 76 = some 4 ∧
  tyField Try.prog 76 0 = some (0, 5) ∧
  tyField Try.prog 76 1 = some (1, 5) ∧
  tyField Try.prog 76 2 = some (2, 3) ∧
  tyField Try.prog 76 3 = some (3, 3) ∧
  (tyPlace Try.prog 76 = some fun i => ([(0, 1), (1, 1), (2, 1), (3, 1)] : List (Nat × Nat))[i]?) ∧
  tyMk Try.prog 76 = true ∧
  tyBytes Try.prog 76 = some 24 ∧
  tyZero Try.prog 76 = some (.agg #[.int .u8 0, .int .u8 0, .int .i64 0, .int .i64 0]) ∧
  tyAgg Try.prog 77 = some true ∧
  tySize Try.prog 77 = some 3 ∧
  tyField Try.prog 77 0 = some (0, 3) ∧
  tyField Try.prog 77 1 = some (1, 4) ∧
  tyField Try.prog 77 2 = some (2, 36) ∧
  (tyPlace Try.prog 77 = some fun i => ([(0, 1), (1, 1), (2, 1)] : List (Nat × Nat))[i]?) ∧
  tyMk Try.prog 77 = true ∧
  tyBytes Try.prog 77 = some 16 ∧
  tyZero Try.prog 77 = some (.agg #[.int .i64 0, .bool false, .int .u32 0]) ∧
  plainB (.agg #[.int .i64 0, .bool false, .int .u32 0]) = true := by (repeat' apply And.intro) <;> kernel_rfl
theorem Try.ty16 :
  tyAgg Try.prog 78 = some true ∧
  tySize Try.prog 78 = some 3 ∧
  tyField Try.prog 78 0 = some (0, 3) ∧
  tyField Try.prog 78 1 = some (1, 4) ∧
  tyField Try.prog 78 2 = some (2, 36) ∧
  (tyPlace Try.prog 78 = some fun i => ([(0, 1), (1, 1), (2, 1)] : List (Nat × Nat))[i]?) ∧
  tyMk Try.prog 78 = true ∧
  tyBytes Try.prog 78 = some 16 ∧
  tyZero Try.prog 78 = some (.agg #[.int .i64 0, .bool false, .int .u32 0]) ∧
  tyAgg Try.prog 93 = some true ∧
  tySize Try.prog 93 = some 4 ∧
  tyField Try.prog 93 0 = some (0, 3) ∧
  tyField Try.prog 93 1 = some (1, 3) ∧
  tyField Try.prog 93 2 = some (2, 3) ∧
  tyField Try.prog 93 3 = some (3, 3) ∧
  (tyPlace Try.prog 93 = some fun i => ([(0, 1), (1, 1), (2, 1), (3, 1)] : List (Nat × Nat))[i]?) ∧
  tyMk Try.prog 93 = true ∧
  tyBytes Try.prog 93 = some 32 ∧
  tyZero Try.prog 93 = some (.agg #[.int .i64 0, .int .i64 0, .int .i64 0, .int .i64 0]) ∧
  plainB (.agg #[.int .i64 0, .int .i64 0, .int .i64 0, .int .i64 0]) = true ∧
  tyAgg Try.prog 94 = some true ∧
  tySize Try.prog 94 = some 4 ∧
  tyField Try.prog 94 0 = some (0, 3) ∧
  tyField Try.prog 94 1 = some (1, 3) := by (repeat' apply And.intro) <;> kernel_rfl
theorem Try.ty17 :
  tyField Try.prog 94 2 = some (2, 3) ∧
  tyField Try.prog 94 3 = some (3, 3) ∧
  (tyPlace Try.prog 94 = some fun i => ([(0, 1), (1, 1), (2, 1), (3, 1)] : List (Nat × Nat))[i]?) ∧
  tyMk Try.prog 94 = true ∧
  tyBytes Try.prog 94 = some 32 ∧
  tyZero Try.prog 94 = some (.agg #[.int .i64 0, .int .i64 0, .int .i64 0, .int .i64 0]) ∧
  tyAgg Try.prog 104 = some false ∧
  tySize Try.prog 104 = some 1 ∧
  tySli Try.prog 104 = true ∧
  tyBytes Try.prog 104 = some 24 ∧
  tySlice Try.prog 104 = some 56 ∧
  tyZero Try.prog 104 = some (.slice none 0 0) ∧
  tyAgg Try.prog 105 = some true ∧
  tySize Try.prog 105 = some 3 ∧
  tyField Try.prog 105 0 = some (0, 3) ∧
  tyField Try.prog 105 1 = some (1, 3) ∧
  tyField Try.prog 105 2 = some (2, 3) ∧
  (tyPlace Try.prog 105 = some fun i => ([(0, 1), (1, 1), (2, 1)] : List (Nat × Nat))[i]?) ∧
  tyMk Try.prog 105 = true ∧
  tyBytes Try.prog 105 = some 24 ∧
  tyZero Try.prog 105 = some (.agg #[.int .i64 0, .int .i64 0, .int .i64 0]) ∧
  plainB (.agg #[.int .i64 0, .int .i64 0, .int .i64 0]) = true ∧
  tyAgg Try.prog 106 = some true ∧
  tySize Try.prog 106 = some 3 := by (repeat' apply And.intro) <;> kernel_rfl
theorem Try.ty24 :
  tySize Try.prog 140 = some 1 ∧
  tyIfc Try.prog 140 = true ∧
  tyBytes Try.prog 140 = some 16 ∧
  tyZero Try.prog 140 = some (.nilIface) ∧
  tyAgg Try.prog 151 = some true ∧
  tySize Try.prog 151 = some 23 ∧
  tyField Try.prog 151 0 = some (0, 140) ∧
  tyField Try.prog 151 1 = some (1, 26) ∧
  (tyPlace Try.prog 151 = some fun i => ([(0, 1), (1, 22)] : List (Nat × Nat))[i]?) ∧
  tyMk Try.prog 151 = true ∧
  tyBytes Try.prog 151 = some 192 ∧
  tyZero Try.prog 151 = some (.agg #[.nilIface, .int .i64 0, .int .i64 0, .int .i64 0, .int .i64 0, .int .i64 0, .int .i64 0, .int .i64 0, .int .i64 0, .int .i64 0, .int .i64 0, .int .i64 0, .int .i64 0, .int .i64 0, .int .i64 0, .int .i64 0, .int .i64 0, .int .i64 0, .int .i64 0, .int .i64 0, .int .i64 0, .int .i64 0, .int .i64 0]) ∧
  plainB (.agg #[.nilIface, .int .i64 0, .int .i64 0, .int .i64 0, .int .i64 0, .int .i64 0, .int .i64 0, .int .i64 0, .int .i64 0, .int .i64 0, .int .i64 0, .int .i64 0, .int .i64 0, .int .i64 0, .int .i64 0, .int .i64 0, .int .i64 0, .int .i64 0, .int .i64 0, .int .i64 0, .int .i64 0, .int .i64 0, .int .i64 0]) = true ∧
  tyAgg Try.prog 152 = some true ∧
  tySize Try.prog 152 = some 23 ∧
  tyField Try.prog 152 0 = some (0, 140) ∧
  tyField Try.prog 152 1 = some (1, 26) ∧
  (tyPlace Try.prog 152 = some fun i => ([(0, 1), (1, 22)] : List (Nat × Nat))[i]?) ∧
  tyMk Try.prog 152 = true ∧
  tyBytes Try.prog 152 = some 192 ∧
  tyZero Try.prog 152 = some (.agg #[.nilIface, .int .i64 0, .int .i64 0, .int .i64 0, .int .i64 0, .int .i64 0, .int .i64 0, .int .i64 0, .int .i64 0, .int .i64 0, .int .i64 0, .int .i64 0, .int .i64 0, .int .i64 0, .int .i64 0, .int .i64 0, .int .i64 0, .int .i64 0, .int .i64 0, .int .i64 0, .int .i64 0, .int .i64 0, .int .i64 0]) ∧
  tyAgg Try.prog 153 = some true ∧
  tySize Try.prog 153 = some 3 ∧
  tyField Try.prog 153 0 = some (0, 3) := by (repeat' apply And.intro) <;> kernel_rfl
theorem Try.ty25 :
  tyField Try.prog 153 1 = some (1, 3) ∧
  tyField Try.prog 153 2 = some (2, 3) ∧
  (tyPlace Try.prog 153 = some fun i => ([(0, 1), (1, 1), (2, 1)] : List (Nat × Nat))[i]?) ∧
  tyMk Try.prog 153 = true ∧
  tyBytes Try.prog 153 = some 24 ∧
  tyZero Try.prog 153 = some (.agg #[.int .i64 0, .int .i64 0, .int .i64 0]) ∧
  tyAgg Try.prog 154 = some true ∧
  tySize Try.prog 154 = some 3 ∧
  tyField Try.prog 154 0 = some (0, 3) ∧
  tyField Try.prog 154 1 = some (1, 3) ∧
  tyField Try.prog 154 2 = some (2, 3) ∧
  (tyPlace Try.prog 154 = some fun i => ([(0, 1), (1, 1), (2, 1)] : List (Nat × Nat))[i]?) ∧
  tyMk Try.prog 154 = true ∧
  tyBytes Try.prog 154 = some 24 ∧
  tyZero Try.prog 154 = some (.agg #[.int .i64 0, .int .i64 0, .int .i64 0]) ∧
  tyAgg Try.prog 170 = some false ∧
  tySize Try.prog 170 = some 1 ∧
  tySli Try.prog 170 = true ∧
  tyBytes Try.prog 170 = some 24 ∧
  tySlice Try.prog 170 = some 49 ∧
  tyZero Try.prog 170 = some (.slice none 0 0) ∧
  tyAgg Try.prog 172 = some true ∧
  tySize Try.prog 172 = some 2 ∧
  tyField Try.prog 172 0 = some (0, 170) := by (repeat' apply And.intro) <;> kernel_rfl
theorem Try.ty26 :
  tyField Try.prog 172 1 = some (1, 22) ∧
  (tyPlace Try.prog 172 = some fun i => ([(0, 1), (1, 1)] : List (Nat × Nat))[i]?) ∧
  tyMk Try.prog 172 = true ∧
  tyBytes Try.prog 172 = some 48 ∧
  tyZero Try.prog 172 = some (.agg #[.slice none 0 0, .slice none 0 0]) ∧
  plainB (.agg #[.slice none 0 0, .slice none 0 0]) = true ∧
  tyAgg Try.prog 173 = some true ∧
  tySize Try.prog 173 = some 2 ∧
  tyField Try.prog 173 0 = some (0, 170) ∧
  tyField Try.prog 173 1 = some (1, 22) ∧
  (tyPlace Try.prog 173 = some fun i => ([(0, 1), (1, 1)] : List (Nat × Nat))[i]?) ∧
  tyMk Try.prog 173 = true ∧
  tyBytes Try.prog 173 = some 48 ∧
  tyZero Try.prog 173 = some (.agg #[.slice none 0 0, .slice none 0 0]) ∧
  tyAgg Try.prog 187 = some true ∧
  tySize Try.prog 187 = some 5 ∧
  (tyPlace Try.prog 187 = some fun i => some (i * 1, 1)) ∧
  tyBytes Try.prog 187 = some 40 ∧
  tyArray Try.prog 187 = some (5, 186) ∧
  tyZero Try.prog 187 = some (.agg #[.nilFunc, .nilFunc, .nilFunc, .nilFunc, .nilFunc]) ∧
  plainB (.agg #[.nilFunc, .nilFunc, .nilFunc, .nilFunc, .nilFunc]) = true ∧
  tyAgg Try.prog 192 = some true ∧
  tySize Try.prog 192 = some 23 ∧
  tyField Try.prog 192 0 = some (0, 140) := by (repeat' apply And.intro) <;> kernel_rfl
theorem Try.ty35 :
  tyBytes Try.prog 229 = some 8 ∧
  tyZero Try.prog 229 = some (.pointer none) ∧
  tyConv Try.prog 3 36 = some .u32 ∧
  tyConv Try.prog 3 49 = some .u64 ∧
  tyConv Try.prog 3 111 = some .i64 ∧
  tyConv Try.prog 5 3 = some .i64 ∧
  tyConv Try.prog 5 5 = some .u8 ∧
  tyConv Try.prog 5 49 = some .u64 ∧
  tyConv Try.prog 36 49 = some .u64 ∧
  tyConv Try.prog 49 3 = some .i64 ∧
  tyConv Try.prog 49 5 = some .u8 ∧
  tyConv Try.prog 49 36 = some .u32 ∧
  tyConv Try.prog 56 3 = some .i64 ∧
  tyConv Try.prog 56 59 = some .u16 ∧
  tyConv Try.prog 59 3 = some .i64 ∧
  fnOK Try.prog 2 = true ∧
  fnOK Try.prog 3 = true ∧
  fnOK Try.prog 4 = true ∧
  fnOK Try.prog 5 = true ∧
  fnOK Try.prog 6 = true ∧
  fnOK Try.prog 7 = true ∧
  fnOK Try.prog 8 = true ∧
  fnOK Try.prog 9 = true ∧
  fnOK Try.prog 10 = true := by (repeat' apply And.intro) <;> kernel_rfl
theorem Try.ty36 :
  fnOK Try.prog 11 = true ∧
  fnOK Try.prog 12 = true ∧
  fnOK Try.prog 13 = true ∧
  fnOK Try.prog 14 = true ∧
  fnOK Try.prog 15 = true ∧
  fnOK Try.prog 16 = true ∧
  fnOK Try.prog 17 = true ∧
  fnOK Try.prog 18 = true ∧
  fnOK Try.prog 19 = true ∧
  fnOK Try.prog 20 = true ∧
  fnOK Try.prog 21 = true ∧
  fnOK Try.prog 22 = true ∧
  fnOK Try.prog 23 = true ∧
  fnOK Try.prog 24 = true ∧
  fnOK Try.prog 25 = true ∧
  fnOK Try.prog 26 = true ∧
  fnOK Try.prog 27 = true ∧
  fnOK Try.prog 28 = true ∧
  fnOK Try.prog 29 = true ∧
  fnOK Try.prog 30 = true ∧
  fnOK Try.prog 31 = true ∧
  fnOK Try.prog 32 = true ∧
  fnOK Try.prog 33 = true ∧
  fnOK Try.prog 34 = true := by (repeat' apply And.intro) <;> kernel_rfl
theorem Try.ty37 :
  fnOK Try.prog 35 = true ∧
  fnOK Try.prog 36 = true ∧
  fnOK Try.prog 37 = true ∧
  fnOK Try.prog 38 = true ∧
  fnOK Try.prog 39 = true ∧
  fnOK Try.prog 40 = true ∧
  fnOK Try.prog 41 = true ∧
  fnOK Try.prog 42 = true ∧
  fnOK Try.prog 43 = true ∧
  fnOK Try.prog 44 = true ∧
  fnOK Try.prog 45 = true ∧
  fnOK Try.prog 46 = true ∧
  fnOK Try.prog 47 = true ∧
  fnOK Try.prog 48 = true ∧
  fnOK Try.prog 49 = true ∧
  fnOK Try.prog 50 = true ∧
  fnOK Try.prog 51 = true ∧
  fnOK Try.prog 52 = true ∧
  fnOK Try.prog 53 = true ∧
  fnOK Try.prog 54 = true ∧
  fnOK Try.prog 55 = true ∧
  fnOK Try.prog 56 = true ∧
  fnOK Try.prog 57 = true ∧
  fnOK Try.prog 58 = true := by (repeat' apply And.intro) <;> kernel_rfl
theorem Try.ty38 :
  fnOK Try.prog 59 = true ∧
  fnOK Try.prog 60 = true ∧
  fnOK Try.prog 61 = true ∧
  fnOK Try.prog 62 = true ∧
  fnOK Try.prog 63 = true ∧
  fnOK Try.prog 64 = true ∧
  fnOK Try.prog 65 = true ∧
  fnOK Try.prog 66 = true ∧
  fnOK Try.prog 67 = true ∧
  fnOK Try.prog 68 = true ∧
  fnOK Try.prog 69 = true ∧
  fnOK Try.prog 70 = true ∧
  fnOK Try.prog 71 = true ∧
  fnOK Try.prog 72 = true ∧
  fnOK Try.prog 73 = true ∧
  fnOK Try.prog 74 = true ∧
  fnOK Try.prog 75 = true ∧
  fnOK Try.prog 76 = true ∧
  fnOK Try.prog 77 = true ∧
  fnOK Try.prog 78 = true ∧
  fnOK Try.prog 79 = true ∧
  fnOK Try.prog 80 = true ∧
  fnOK Try.prog 81 = true ∧
  fnOK Try.prog 82 = true := by (repeat' apply And.intro) <;> kernel_rfl
theorem Try.ty39 :
  fnOK Try.prog 83 = true ∧
  fnOK Try.prog 84 = true ∧
  fnOK Try.prog 85 = true ∧
  fnOK Try.prog 86 = true ∧
  fnOK Try.prog 87 = true ∧
  fnOK Try.prog 88 = true ∧
  fnOK Try.prog 89 = true ∧
  fnOK Try.prog 90 = true ∧
  fnOK Try.prog 91 = true ∧
  fnOK Try.prog 92 = true ∧
  fnOK Try.prog 93 = true ∧
  fnOK Try.prog 94 = true ∧
  fnOK Try.prog 95 = true ∧
  fnOK Try.prog 96 = true ∧
  fnOK Try.prog 97 = true ∧
  fnOK Try.prog 98 = true ∧
  fnOK Try.prog 99 = true ∧
  fnOK Try.prog 100 = true ∧
  fnOK Try.prog 101 = true ∧
  fnOK Try.prog 102 = true ∧
  fnOK Try.prog 103 = true ∧
  fnOK Try.prog 104 = true ∧
  fnOK Try.prog 105 = true ∧
  fnOK Try.prog 106 = true := by (repeat' apply And.intro) <;> kernel_rfl
theorem Try.ty40 :
  fnOK Try.prog 107 = true ∧
  fnOK Try.prog 108 = true ∧
  fnOK Try.prog 109 = true ∧
  fnOK Try.prog 110 = true ∧
  fnOK Try.prog 111 = true ∧
  fnOK Try.prog 112 = true ∧
  fnOK Try.prog 113 = true ∧
  fnOK Try.prog 114 = true ∧
  fnOK Try.prog 115 = true ∧
  fnOK Try.prog 116 = true ∧
  fnOK Try.prog 117 = true ∧
  fnOK Try.prog 118 = true ∧
  fnOK Try.prog 119 = true ∧
  fnOK Try.prog 120 = true ∧
  fnOK Try.prog 121 = true ∧
  fnOK Try.prog 122 = true ∧
  fnOK Try.prog 123 = true ∧
  fnOK Try.prog 124 = true ∧
  fnOK Try.prog 125 = true ∧
  fnOK Try.prog 126 = true ∧
  fnOK Try.prog 127 = true ∧
  fnOK Try.prog 128 = true ∧
  fnOK Try.prog 129 = true ∧
  fnOK Try.prog 130 = true := by (repeat' apply And.intro) <;> kernel_rfl
theorem Try.ty42 :
  fnOK Try.prog 155 = true ∧
  fnOK Try.prog 156 = true ∧
  fnOK Try.prog 157 = true ∧
  fnOK Try.prog 173 = true ∧
  fnOK Try.prog 174 = true ∧
  fnOK Try.prog 175 = true ∧
  fnOK Try.prog 176 = true ∧
  fnOK Try.prog 177 = true ∧
  fnOK Try.prog 178 = true := by (repeat' apply And.intro) <;> kernel_rfl
attribute [go_sem] Try.eql7 Try.neq7 Try.eql8 Try.neq8 Try.eql37 Try.neq37 Try.eql38 Try.neq38 Try.eql57 Try.neq57 Try.eql58 Try.neq58 Try.eql62 Try.neq62 Try.eql63 Try.neq63 Try.eql75 Try.neq75 Try.eql76 Try.neq76 Try.eql77 Try.neq77 Try.eql78 Try.neq78 Try.eql93 Try.neq93 Try.eql94 Try.neq94 Try.eql105 Try.neq105 Try.eql106 Try.neq106 Try.eql109 Try.neq109 Try.eql110 Try.neq110 Try.eql124 Try.neq124 Try.eql125 Try.neq125 Try.eql153 Try.neq153 Try.eql154 Try.neq154 Try.eql196 Try.neq196 Try.eql197 Try.neq197 Try.eql200 Try.neq200 Try.eql201 Try.neq201 Try.ty0 Try.ty5 Try.ty6 Try.ty7 Try.ty8 Try.ty9 Try.ty10 Try.ty13 Try.ty14 Try.ty15 Try.ty16 Try.ty17 Try.ty24 Try.ty25 Try.ty26 Try.ty35 Try.ty36 Try.ty37 Try.ty38 Try.ty39 Try.ty40 Try.ty42
end Go.Proofs.Ytceddijolfpppaa
