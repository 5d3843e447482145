/-
  A run of the abstract machine that the kernel carries out, part 3: the run; that it is one of the machine's.
  Condition: the calls that are known by what they do are such.
-/
import Derived.Test.YtceddijolfpppaaRun2
namespace Go.Proofs.Ytceddijolfpppaa
open Go Go.RowKit
set_option linter.unusedSimpArgs false
set_option linter.unusedVariables false

/-- How a state is kept, and which calls are known by what they do. -/
structure KF (P : Program) {σ : Type} (X : Face P σ) (κ : Type) where
  abs : κ → σ
  wf : κ → Prop
  cnt : κ → Nat
  prim : FuncId → List Value → κ → Option (Value × κ)
  cnt_ok : ∀ s, wf s → cnt s = X.cnt (abs s)
  prim_ok : ∀ f args s v s', wf s → prim f args s = some (v, s') → wf s' ∧ X.prim f args.toArray (abs s) v (abs s') ∧ fnOK P f = true

def evK (t : Tr Value) : Operand → Value
  | .tmp i => t.get undef i
  | .const v => v
  | .global _ => undef
  | .func f => .func (.func f) #[] #[]
theorem evK_eq {t : Tr Value} (h : t.wf) : evK t = evA t.toL := by
  funext x
  cases x with
  | tmp i => exact Tr.get_eq undef t i h
  | _ => rfl
def putK (dst : Option Tmp) (v : Value) (t : Tr Value) : Tr Value := match dst with
  | some d => t.set d v
  | none => t
theorem putK_eq {dst : Option Tmp} {v : Value} {t : Tr Value} (h : t.wf) : (putK dst v t).toL = putL dst v t.toL ∧ (putK dst v t).wf := by
  cases dst with
  | none => exact ⟨rfl, h⟩
  | some d => exact Tr.set_eq t d v h
def yieldedK (ops : Array Oper) (t : Tr Value) (j : Nat) : Option Bool := match (ops[j]?).bind (·.dst) with
  | some d => (match t.get undef d with | .bool b => some b | _ => none)
  | none => none
theorem yieldedK_eq {ops : Array Oper} {t : Tr Value} (h : t.wf) : yieldedK ops t = yieldedL ops t.toL := by
  funext j
  unfold yieldedK yieldedL
  cases (ops[j]?).bind (·.dst) with
  | none => rfl
  | some d =>
    simp only [Option.bind_some]
    rw [Tr.get_eq undef t d h, List.getD_eq_getElem?_getD]
    cases t.toL[d]? with
    | none => simp [undef]
    | some v => cases v <;> rfl

/-- Rows that a list of names leads to. -/
def reachK (rows : List (Option Blk)) : Nat → List Nat → List Nat → List Nat
  | 0, _, seen => seen
  | _ + 1, [], seen => seen
  | f + 1, n :: work, seen => match Nat.ble VB n || seen.elem n with
    | true => reachK rows f work seen
    | false => reachK rows f ((match (rows[n]?).join with | some b => nmL b.cells | none => []) ++ work) (seen ++ [n])

def idxK (ns : List Nat) (n : Nat) : Nat := match Nat.ble VB n with | true => n | false => ns.idxOf n
def okN (ns : List Nat) (c : Nat) (n : Nat) : Bool := ns.elem n || (Nat.ble VB n && Nat.ble (n + 1) (VB + c))
def mvB (f : Nat → Nat) (b : Blk) : Blk := { b with cells := b.cells.map (mvV f) }
def nodupB : List Nat → Bool
  | [] => true
  | n :: l => !l.elem n && nodupB l
theorem nodupB_ok : ∀ {l : List Nat}, nodupB l = true → l.Nodup
  | [], _ => List.nodup_nil
  | n :: l, h => by
    simp only [nodupB, Bool.and_eq_true, Bool.not_eq_true', List.elem_eq_mem, decide_eq_false_iff_not] at h
    exact List.nodup_cons.2 ⟨h.1, nodupB_ok h.2⟩

/-- The rows that are lent, under names of their own. vis: which rows may be seen; ro: nobody writes them. -/
def lendK (rows : List (Option Blk)) (vis : Nat → Bool) (ro : Bool) (ns : List Nat) (c : Nat) : List Nat → Option (List Blk)
  | [] => some []
  | n :: l => match (rows[n]?).join, vis n, lendK rows vis ro ns c l with
    | some b, true, some bs => (match (nmL b.cells).all (okN ns c) with
      | true => some (⟨b.cells.map (mvV (idxK ns)), b.elem, b.ro || ro, b.grow⟩ :: bs)
      | false => none)
    | _, _, _ => none

/-- The name of a row, as it is told. -/
def retK (k : Nat) (ex : List Nat) (n : Nat) : Nat := match Nat.ble VB n with | true => n | false => (match Nat.ble (n + 1) k with | true => n | false => k + ex.idxOf n)
def okR (k : Nat) (ex : List Nat) (c : Nat) (n : Nat) : Bool := Nat.ble (n + 1) k || ex.elem n || (Nat.ble VB n && Nat.ble (n + 1) (VB + c))
/-- What a row is then. -/
def rowK (rows1 : List (Option Blk)) (k : Nat) (ex : List Nat) (c : Nat) (n : Nat) : Option Blk := match (rows1[n]?).join with
  | some b => (match !b.ro && (nmL b.cells).all (okR k ex c) with
    | true => some (mvB (retK k ex) b)
    | false => none)
  | none => none
def backsK (rows1 : List (Option Blk)) (k : Nat) (ex : List Nat) (c : Nat) : List Blk → Nat → Option (List Blk)
  | [], _ => some []
  | b :: l, i => match b.ro with
    | true => (match backsK rows1 k ex c l (i + 1) with | some l' => some (b :: l') | none => none)
    | false => (match rowK rows1 k ex c i, backsK rows1 k ex c l (i + 1) with | some b', some l' => some (b' :: l') | _, _ => none)
def newsK (rows1 : List (Option Blk)) (k : Nat) (ex : List Nat) (c : Nat) : List Nat → Option (List Blk)
  | [] => some []
  | n :: l => match rowK rows1 k ex c n, newsK rows1 k ex c l with | some b, some bs => some (b :: bs) | _, _ => none
def backRK (f : Nat → Nat) (rows : List (Option Blk)) : List Nat → List Blk → List Blk → List (Option Blk)
  | n :: ns, b :: l, b' :: l' => (match b.ro with
    | true => backRK f rows ns l l'
    | false => (backRK f rows ns l l').set n (some (mvB f b')))
  | _, _, _ => rows
def appK (rows : List (Option Blk)) (f : Nat → Nat) : List Blk → List (Option Blk)
  | [] => rows
  | l => rows ++ l.map fun b => some (mvB f b)
/-- Names of rows that are lent and may turn. -/
def openNames (rows1 : List (Option Blk)) : List Blk → Nat → List Nat
  | [], _ => []
  | b :: l, i => match b.ro with
    | true => openNames rows1 l (i + 1)
    | false => (match (rows1[i]?).join with | some b' => nmL b'.cells | none => []) ++ openNames rows1 l (i + 1)

section
variable {P : Program} {σ κ : Type} {X : Face P σ}

/-- A call. run: how a function is run. -/
def callGo (K : KF P X κ) (run : Func → Code → List Value → List (Option Blk) → κ → Option (Value × List (Option Blk) × κ)) (vis : Nat → Bool) (ro : Bool) (rows : List (Option Blk)) (s : κ) (f : FuncId) (args : List Value) : Option (Value × List (Option Blk) × κ) :=
  match P.funcs[f]? with
  | none => none
  | some g => match goB g, g.body with
    | true, some c =>
      let nm := nmL args
      let ns := reachK rows 100000 nm []
      (match nm.all (okN ns (K.cnt s)) && nodupB ns && Nat.ble ns.length 1000, lendK rows vis ro ns (K.cnt s) ns with
      | true, some l => (match run g c (args.map (mvV (idxK ns))) (l.map some) s with
        | some (v0, rows1, s') =>
          let k := ns.length
          let ex := (reachK rows1 100000 (nmV v0 ++ openNames rows1 l 0) []).filter fun n => Nat.ble k n
          (match nodupB ex && (nmV v0).all (okR k ex (K.cnt s')) && ex.all (fun n => Nat.ble (n + 1) VB) && Nat.ble (rows.length + k + ex.length) 999999, backsK rows1 k ex (K.cnt s') l 0, newsK rows1 k ex (K.cnt s') ex with
          | true, some l', some new =>
            let up := upN ns rows.length
            some (mvV up (mvV (retK k ex) v0), appK (match ro with | true => rows | false => backRK up rows ns l l') up new, s')
          | _, _, _ => none)
        | none => none)
      | _, _ => none)
    | _, _ => none

/-- What kind of operation? 0: it yields a value; 1: a new row; 2: it writes; 3: a call; 4: an append; 5: a slice. -/
def kindK : Op → Nat
  | .alloc _ | .box .. | .buildSlice .. | .makeSlice .. => 1
  | .store .. => 2
  | .call c => (match c.callee with | .builtin .append => 4 | .builtin _ => 0 | _ => 3)
  | .slice .. => 5
  | _ => 0

def newK (P : Program) (e : Operand → Value) (rows : List (Option Blk)) (s : κ) (op : Op) : Option (Value × List (Option Blk) × κ) := match newA P e (heapL rows) rows.length op with
  | some (v, ob) => (match Nat.ble rows.length 999999 with | true => some (v, rows ++ [ob], s) | false => none)
  | none => none
def wrK (P : Program) (e : Operand → Value) (rows : List (Option Blk)) (s : κ) (op : Op) : Option (Value × List (Option Blk) × κ) := match wrL P e rows op with
  | some (v, rows') => (match Nat.ble rows.length 999999 with | true => some (v, rows', s) | false => none)
  | none => none
def vlK (P : Program) (e : Operand → Value) (rows : List (Option Blk)) (s : κ) (op : Op) : Option (Value × List (Option Blk) × κ) := match valK P e (heapL rows) op with
  | some v => some (v, rows, s)
  | none => none
def clK (K : KF P X κ) (run : Func → Code → List Value → List (Option Blk) → κ → Option (Value × List (Option Blk) × κ)) (vis : Nat → Bool) (ro : Bool) (e : Operand → Value) (rows : List (Option Blk)) (s : κ) (op : Op) : Option (Value × List (Option Blk) × κ) := match callK P e op with
  | some (f, args) => (match K.prim f args s with
    | some (v, s') => some (v, rows, s')
    | none => callGo K run vis ro rows s f args)
  | none => none

/-- An operation in the order of the text. -/
def oneK (K : KF P X κ) (run : Func → Code → List Value → List (Option Blk) → κ → Option (Value × List (Option Blk) × κ)) (e : Operand → Value) (rows : List (Option Blk)) (s : κ) (op : Op) : Option (Value × List (Option Blk) × κ) := match kindK op with
  | 0 => vlK P e rows s op
  | 1 => newK P e rows s op
  | 2 => wrK P e rows s op
  | 3 => clK K run (fun _ => true) false e rows s op
  | 4 => (match newK P e rows s op with | some x => some x | none => wrK P e rows s op)
  | _ => (match vlK P e rows s op with | some x => some x | none => newK P e rows s op)
def opsK (K : KF P X κ) (run : Func → Code → List Value → List (Option Blk) → κ → Option (Value × List (Option Blk) × κ)) (ops : Array Oper) : List Oper → Tr Value → List (Option Blk) → κ → Option (Tr Value × List (Option Blk) × κ)
  | [], t, rows, s => some (t, rows, s)
  | o :: l, t, rows, s => match Region.wanted o (yieldedK ops t) with
    | true => (match opOK o.op with
      | true => (match oneK K run (evK t) rows s o.op with
        | some (v, rows', s') => opsK K run ops l (putK o.dst v t) rows' s'
        | none => none)
      | false => none)
    | false => opsK K run ops l (putK o.dst undef t) rows s

/-- What may be seen. -/
def visB (n0 : Nat) (born : List (Nat × Nat)) (mask : Nat) (n : Nat) : Bool := Nat.ble (n + 1) n0 || born.any (fun p => p.2 == n && mask.testBit p.1)
def vlD (P : Program) (e : Operand → Value) (rows : List (Option Blk)) (s : κ) (n0 : Nat) (born : List (Nat × Nat)) (mask : Nat) (op : Op) : Option (Value × List (Option Blk) × κ) := match valK P e (visH n0 born mask (heapL rows)) op with
  | some v => some (v, rows, s)
  | none => none
def nwD (P : Program) (e : Operand → Value) (rows : List (Option Blk)) (s : κ) (n0 : Nat) (born : List (Nat × Nat)) (mask : Nat) (op : Op) : Option (Value × List (Option Blk) × κ) := match newA P e (visH n0 born mask (heapL rows)) rows.length op with
  | some (v, ob) => (match Nat.ble rows.length 999999 with | true => some (v, rows ++ [ob], s) | false => none)
  | none => none
/-- An operation of a region that draws its order. -/
def oneD (K : KF P X κ) (run : Func → Code → List Value → List (Option Blk) → κ → Option (Value × List (Option Blk) × κ)) (e : Operand → Value) (rows : List (Option Blk)) (s : κ) (n0 : Nat) (born : List (Nat × Nat)) (mask : Nat) (op : Op) : Option (Value × List (Option Blk) × κ) := match kindK op with
  | 0 => vlD P e rows s n0 born mask op
  | 1 => nwD P e rows s n0 born mask op
  | 2 => wrK P e rows s op
  | 3 => clK K run (visB n0 born mask) true e rows s op
  | 4 => nwD P e rows s n0 born mask op
  | _ => vlD P e rows s n0 born mask op
def opsD (K : KF P X κ) (run : Func → Code → List Value → List (Option Blk) → κ → Option (Value × List (Option Blk) × κ)) (ops : Array Oper) (ms : List Nat) (n0 : Nat) : List Oper → Nat → Tr Value → List (Option Blk) → κ → List (Nat × Nat) → Option (Tr Value × List (Option Blk) × κ)
  | [], _, t, rows, s, _ => some (t, rows, s)
  | o :: l, i, t, rows, s, born => match Region.wanted o (yieldedK ops t) with
    | true => (match opOK o.op with
      | true => (match oneD K run (evK t) rows s n0 born (ms.getD i 0) o.op with
        | some (v, rows', s') => opsD K run ops ms n0 l (i + 1) (putK o.dst v t) rows' s' (bornN i rows.length rows'.length ++ born)
        | none => none)
      | false => none)
    | false => opsD K run ops ms n0 l (i + 1) (putK o.dst undef t) rows s born

def res1K (P : Program) (t : Tr Value) (rows : List (Option Blk)) : ResultVar → Option Value
  | .tmp i => some (t.get undef i)
  | .cell a ty => (match t.get undef a with | .pointer (some ad) => loadA P (heapL rows) ty ad | _ => none)
theorem res1K_eq {t : Tr Value} (h : t.wf) (rows : List (Option Blk)) (r : ResultVar) : res1K P t rows r = res1A P t.toL (heapL rows) r := by
  cases r with
  | tmp i => simp only [res1K, res1A]; rw [Tr.get_eq undef t i h]
  | cell a ty => simp only [res1K, res1A]; rw [Tr.get_eq undef t a h]; rfl
def resK (P : Program) (fn : Func) (t : Tr Value) (rows : List (Option Blk)) : Option Value := match fn.results.toList with
  | [] => some (.tuple #[])
  | [r] => res1K P t rows r
  | [r, q] => (match res1K P t rows r, res1K P t rows q with | some x, some y => some (.tuple #[x, y]) | _, _ => none)
  | [r, q, s] => (match res1K P t rows r, res1K P t rows q, res1K P t rows s with | some x, some y, some z => some (.tuple #[x, y, z]) | _, _, _ => none)
  | _ => none
theorem resK_eq {t : Tr Value} (h : t.wf) (rows : List (Option Blk)) (fn : Func) : resK P fn t rows = resA P fn t.toL (heapL rows) := by
  unfold resK resA
  simp only [res1K_eq h]
  rcases fn.results.toList with _ | ⟨a, _ | ⟨b, _ | ⟨c, _ | ⟨d, l⟩⟩⟩⟩ <;> rfl

def frameK : List Value → Nat → Tr Value → Tr Value
  | [], _, t => t
  | v :: l, i, t => frameK l (i + 1) (t.set i v)

/-- A run. -/
def goK (K : KF P X κ) : Nat → Func → List Item → Tr Value → List (Option Blk) → κ → Option (Value × List (Option Blk) × κ)
  | 0, _, _, _, _, _ => none
  | n + 1, fn, todo, t, rows, s =>
    let run := fun (g : Func) (c : Code) (args : List Value) (l : List (Option Blk)) (s : κ) => match Nat.ble args.length g.ntmps && Nat.ble g.ntmps 1000000 with
      | true => goK K n g [.code c] (frameK args 0 (Tr.many undef 30 g.ntmps)) l s
      | false => none
    match todo with
    | [] => (match resK P fn t rows with | some v => some (v, rows, s) | none => none)
    | .code .ret :: _ => (match resK P fn t rows with | some v => some (v, rows, s) | none => none)
    | .code (.region _ ops false) :: k => (match opsK K run ops ops.toList t rows s with
      | some (t', rows', s') => goK K n fn k t' rows' s'
      | none => none)
    | .code (.region _ ops true) :: k => (match drawB [] ops with
      | true => (match opsD K run ops (masksFrom ops.toList []) rows.length ops.toList 0 t rows s [] with
        | some (t', rows', s') => goK K n fn k t' rows' s'
        | none => none)
      | false => none)
    | .code (.cond c x y) :: k => (match evK t c with
      | .bool b => goK K n fn (.code (match b with | true => x | false => y) :: k) t rows s
      | _ => none)
    | _ => (match ctl [] todo with
      | some todo' => goK K n fn todo' t rows s
      | none => none)
end
end Go.Proofs.Ytceddijolfpppaa
