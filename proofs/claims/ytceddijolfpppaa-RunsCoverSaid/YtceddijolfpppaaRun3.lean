/-
  A run of the abstract machine that the kernel carries out, part 3: the run; that it is one of the machine's.
  Condition: the calls that are known by what they do are such.
-/
import Derived.Test.YtceddijolfpppaaRun2
namespace Go.Proofs.Ytceddijolfpppaa
open Go Go.RowKit
set_option linter.unusedSimpArgs false
set_option linter.unusedVariables false

/-- How a state is kept, and which calls are known by what they do. -/
structure KF (P : Program) {σ : Type} (X : Face P σ) (κ : Type) where
  abs : κ → σ
  wf : κ → Prop
  cnt : κ → Nat
  prim : FuncId → List Value → κ → Option (Value × κ)
  known : FuncId → List Value → Option Value
  known_ok : ∀ f args v, known f args = some v → ∀ S, Does X f args.toArray [] S v S
  cnt_ok : ∀ s, wf s → cnt s = X.cnt (abs s)
  prim_ok : ∀ f args s v s', wf s → prim f args s = some (v, s') → wf s' ∧ X.prim f args.toArray (abs s) v (abs s') ∧ fnOK P f = true

def yieldF (d n : Nat) (ops : Array Oper) (j : Nat) : Bx (FR d → Option Bool) := match (ops[j]?).bind (·.dst) with
  | some i => ⟨fun t => match (gF undef d n i).f t with | .bool b => some b | _ => none⟩
  | none => ⟨fun _ => none⟩
theorem yieldF_eq {d n : Nat} (h : n ≤ 2 ^ d) {ops : Array Oper} {t : FR d} {j : Nat} : (yieldF d n ops j).f t = yieldedL ops (absT d n t) j := by
  unfold yieldF yieldedL
  cases (ops[j]?).bind (·.dst) with
  | none => rfl
  | some i =>
    simp only [Option.bind_some]
    rw [gF_eq h t i, List.getD_eq_getElem?_getD]
    cases (absT d n t)[i]? with
    | none => simp [undef]
    | some v => cases v <;> rfl
def wantB (x : Option Bool) (w : Bool) : Bool := match x, w with
  | some true, true => true
  | some false, false => true
  | _, _ => false
theorem wantB_eq (x : Option Bool) (w : Bool) : wantB x w = (x == some w) := by
  cases x with
  | none => cases w <;> rfl
  | some b => cases b <;> cases w <;> rfl

/-! ### values that name handles alone -/
def plain1 : Value → Bool
  | .int _ _ | .bool _ | .string _ | .nilIface | .nilFunc | .pointer none | .slice none _ _ => true
  | _ => false
def plainQ : Value → Bool
  | .agg cs => cs.toList.all plain1
  | .tuple cs => cs.toList.all plain1
  | v => plain1 v
def hi1 (c : Nat) (v : Value) : Bool := match v with
  | .pointer (some a) => Nat.ble VB a.block && Nat.ble (a.block + 1) (VB + c)
  | .iface _ (.pointer (some a)) => Nat.ble VB a.block && Nat.ble (a.block + 1) (VB + c)
  | .agg cs => cs.toList.all plain1
  | v => plain1 v
def hiB (c : Nat) (v : Value) : Bool := match plainQ v with
  | true => true
  | false => (match v with
    | .agg cs => cs.toList.all (hi1 c)
    | .tuple cs => cs.toList.all (hi1 c)
    | v => hi1 c v)
theorem nmA_all {cs : Array Value} {p : Nat → Prop} (h : ∀ v ∈ cs.toList, ∀ n ∈ nmV v, p n) : ∀ n ∈ nmA cs, p n := by
  obtain ⟨l⟩ := cs
  simp only [nmA]
  have : ∀ (l : List Value), (∀ v ∈ l, ∀ n ∈ nmV v, p n) → ∀ n ∈ nmL l, p n := by
    intro l
    induction l with
    | nil => intro _ n hn; simp [nmL] at hn
    | cons v l ih =>
      intro h n hn
      simp only [nmL, List.mem_append] at hn
      rcases hn with hn | hn
      · exact h v List.mem_cons_self n hn
      · exact ih (fun u hu => h u (List.mem_cons_of_mem _ hu)) n hn
  exact this l h
theorem plain1_nm {v : Value} (h : plain1 v = true) : nmV v = [] := by
  unfold plain1 at h
  split at h <;> first | (simp [nmV]; done) | cases h
theorem plainQ_nm {v : Value} (h : plainQ v = true) : ∀ n ∈ nmV v, False := by
  unfold plainQ at h
  split at h
  · simp only [nmV]
    exact nmA_all fun u hu n hn => by rw [plain1_nm (List.all_eq_true.1 h u hu)] at hn; cases hn
  · simp only [nmV]
    exact nmA_all fun u hu n hn => by rw [plain1_nm (List.all_eq_true.1 h u hu)] at hn; cases hn
  · intro n hn; rw [plain1_nm h] at hn; cases hn
theorem hi1_nm {c : Nat} {v : Value} (h : hi1 c v = true) : ∀ n ∈ nmV v, VB ≤ n ∧ n < VB + c := by
  unfold hi1 at h
  split at h
  · simp only [Bool.and_eq_true] at h
    intro n hn
    simp only [nmV, List.mem_singleton] at hn
    subst hn
    exact ⟨Nat.le_of_ble_eq_true h.1, Nat.le_of_ble_eq_true h.2⟩
  · simp only [Bool.and_eq_true] at h
    intro n hn
    simp only [nmV, List.mem_singleton] at hn
    subst hn
    exact ⟨Nat.le_of_ble_eq_true h.1, Nat.le_of_ble_eq_true h.2⟩
  · simp only [nmV]
    exact nmA_all fun u hu n hn => by rw [plain1_nm (List.all_eq_true.1 h u hu)] at hn; cases hn
  · intro n hn; rw [plain1_nm h] at hn; cases hn
theorem hiB_nm {c : Nat} {v : Value} (h : hiB c v = true) : ∀ n ∈ nmV v, VB ≤ n ∧ n < VB + c := by
  unfold hiB at h
  split at h
  · rename_i hq; exact fun n hn => (plainQ_nm hq n hn).elim
  · split at h
    · simp only [nmV]
      exact nmA_all fun u hu n hn => hi1_nm (List.all_eq_true.1 h u hu) n hn
    · simp only [nmV]
      exact nmA_all fun u hu n hn => hi1_nm (List.all_eq_true.1 h u hu) n hn
    · exact hi1_nm h

/-- Rows that a list of names leads to. -/
def reachK (rows : List (Option Blk)) : Nat → List Nat → List Nat → List Nat
  | 0, _, seen => seen
  | _ + 1, [], seen => seen
  | f + 1, n :: work, seen => match Nat.ble VB n || seen.elem n with
    | true => reachK rows f work seen
    | false => reachK rows f ((match (rows[n]?).join with | some b => nmL b.cells | none => []) ++ work) (seen ++ [n])

def idxK (ns : List Nat) (n : Nat) : Nat := match Nat.ble VB n with | true => n | false => ns.idxOf n
def okN (ns : List Nat) (c : Nat) (n : Nat) : Bool := ns.elem n || (Nat.ble VB n && Nat.ble (n + 1) (VB + c))
def mvB (f : Nat → Nat) (b : Blk) : Blk := { b with cells := b.cells.map (mvV f) }
def nodupB : List Nat → Bool
  | [] => true
  | n :: l => !l.elem n && nodupB l
theorem nodupB_ok : ∀ {l : List Nat}, nodupB l = true → l.Nodup
  | [], _ => List.nodup_nil
  | n :: l, h => by
    simp only [nodupB, Bool.and_eq_true, Bool.not_eq_true', List.elem_eq_mem, decide_eq_false_iff_not] at h
    exact List.nodup_cons.2 ⟨h.1, nodupB_ok h.2⟩

/-- The rows that are lent, under names of their own. vis: which rows may be seen; ro: nobody writes them. -/
def lendK (rows : List (Option Blk)) (vis : Nat → Bool) (ro : Bool) (ns : List Nat) (c : Nat) : List Nat → Option (List Blk)
  | [] => some []
  | n :: l => match (rows[n]?).join, vis n, lendK rows vis ro ns c l with
    | some b, true, some bs => (match (nmL b.cells).all (okN ns c) with
      | true => some (⟨b.cells.map (mvV (idxK ns)), b.elem, b.ro || ro, b.grow⟩ :: bs)
      | false => none)
    | _, _, _ => none

/-- The name of a row, as it is told. -/
def retK (k : Nat) (ex : List Nat) (n : Nat) : Nat := match Nat.ble VB n with | true => n | false => (match Nat.ble (n + 1) k with | true => n | false => k + ex.idxOf n)
def okR (k : Nat) (ex : List Nat) (c : Nat) (n : Nat) : Bool := Nat.ble (n + 1) k || ex.elem n || (Nat.ble VB n && Nat.ble (n + 1) (VB + c))
/-- What a row is then. -/
def rowK (rows1 : List (Option Blk)) (k : Nat) (ex : List Nat) (c : Nat) (n : Nat) : Option Blk := match (rows1[n]?).join with
  | some b => (match !b.ro && (nmL b.cells).all (okR k ex c) with
    | true => some (mvB (retK k ex) b)
    | false => none)
  | none => none
def backsK (rows1 : List (Option Blk)) (k : Nat) (ex : List Nat) (c : Nat) : List Blk → Nat → Option (List Blk)
  | [], _ => some []
  | b :: l, i => match b.ro with
    | true => (match backsK rows1 k ex c l (i + 1) with | some l' => some (b :: l') | none => none)
    | false => (match rowK rows1 k ex c i, backsK rows1 k ex c l (i + 1) with | some b', some l' => some (b' :: l') | _, _ => none)
def newsK (rows1 : List (Option Blk)) (k : Nat) (ex : List Nat) (c : Nat) : List Nat → Option (List Blk)
  | [] => some []
  | n :: l => match rowK rows1 k ex c n, newsK rows1 k ex c l with | some b, some bs => some (b :: bs) | _, _ => none
def backRK (f : Nat → Nat) (rows : List (Option Blk)) : List Nat → List Blk → List Blk → List (Option Blk)
  | n :: ns, b :: l, b' :: l' => (match b.ro with
    | true => backRK f rows ns l l'
    | false => (backRK f rows ns l l').set n (some (mvB f b')))
  | _, _, _ => rows
def appK (rows : List (Option Blk)) (f : Nat → Nat) : List Blk → List (Option Blk)
  | [] => rows
  | l => rows ++ l.map fun b => some (mvB f b)
/-- Names of rows that are lent and may turn. -/
def openNames (rows1 : List (Option Blk)) : List Blk → Nat → List Nat
  | [], _ => []
  | b :: l, i => match b.ro with
    | true => openNames rows1 l (i + 1)
    | false => (match (rows1[i]?).join with | some b' => nmL b'.cells | none => []) ++ openNames rows1 l (i + 1)

section
variable {P : Program} {σ κ : Type} {X : Face P σ}

abbrev Rows' := List (Option Blk)
/-- How a function is run. -/
abbrev RunT (κ : Type) := Func → Code → List Value → List (Option Blk) → κ → Option (Value × List (Option Blk) × κ)
def fastB (l : List Blk) (b : Bool) : Bool := match l with
  | [] => b
  | _ :: _ => false
/-- What comes back. -/
def endK (K : KF P X κ) (ro : Bool) (rows : List (Option Blk)) (ns : List Nat) (l : List Blk) : Value × List (Option Blk) × κ → Option (Value × List (Option Blk) × κ)
  | (v0, rows1, s') => match fastB l (hiB (K.cnt s') v0) with
    | true => some (v0, rows, s')
    | false =>
      let k := ns.length
      let ex := (reachK rows1 100000 (nmV v0 ++ openNames rows1 l 0) []).filter fun n => Nat.ble k n
      (match nodupB ex && (nmV v0).all (okR k ex (K.cnt s')) && ex.all (fun n => Nat.ble (n + 1) VB) && Nat.ble (rows.length + k + ex.length) 999999, backsK rows1 k ex (K.cnt s') l 0, newsK rows1 k ex (K.cnt s') ex with
      | true, some l', some new =>
        let up := upN ns rows.length
        some (mvV up (mvV (retK k ex) v0), appK (match ro with | true => rows | false => backRK up rows ns l l') up new, s')
      | _, _, _ => none)
/-- A call. -/
def callGo (K : KF P X κ) (run : RunT κ) (vis : Nat → Bool) (ro : Bool) (rows : List (Option Blk)) (s : κ) (f : FuncId) (args : List Value) : Option (Value × List (Option Blk) × κ) :=
  match P.funcs[f]? with
  | none => none
  | some g => match goB g, g.body with
    | true, some c => (match args.all (hiB (K.cnt s)) && Nat.ble rows.length 999999 with
      | true => (match run g c args [] s with
        | some x => endK K ro rows [] [] x
        | none => none)
      | false =>
        let nm := nmL args
        let ns := reachK rows 100000 nm []
        (match nm.all (okN ns (K.cnt s)) && nodupB ns && Nat.ble ns.length 1000 && Nat.ble (rows.length + ns.length) 999999, lendK rows vis ro ns (K.cnt s) ns with
        | true, some l => (match run g c (args.map (mvV (idxK ns))) (l.map some) s with
          | some x => endK K ro rows ns l x
          | none => none)
        | _, _ => none))
    | _, _ => none

/-- What kind of operation? 0: it yields a value; 1: a new row; 2: it writes; 3: a call; 4: an append; 5: a slice. -/
def kindK : Op → Nat
  | .alloc _ | .box .. | .buildSlice .. | .makeSlice .. => 1
  | .store .. => 2
  | .call c => (match c.callee with | .builtin .append => 4 | .builtin _ => 0 | _ => 3)
  | .slice .. => 5
  | _ => 0

def newK (rows : List (Option Blk)) (s : κ) (x : Option (Value × Option Blk)) : Option (Value × List (Option Blk) × κ) := match x with
  | some (v, ob) => (match Nat.ble rows.length 999999 with | true => some (v, rows ++ [ob], s) | false => none)
  | none => none
def wrK (P : Program) (e : Operand → Value) (rows : List (Option Blk)) (s : κ) (op : Op) : Option (Value × List (Option Blk) × κ) := match wrL P e rows op with
  | some (v, rows') => (match Nat.ble rows.length 999999 with | true => some (v, rows', s) | false => none)
  | none => none
def clK (K : KF P X κ) (run : RunT κ) (vis : Nat → Bool) (ro : Bool) (rows : List (Option Blk)) (s : κ) : Option (FuncId × List Value) → Option (Value × List (Option Blk) × κ)
  | some (f, args) => (match K.prim f args s with
    | some (v, s') => some (v, rows, s')
    | none => (match K.known f args with
      | some v => some (v, rows, s)
      | none => callGo K run vis ro rows s f args))
  | none => none

/-- An operation in the order of the text: what it yields, the rows, the state. -/
def oneF (K : KF P X κ) (d n : Nat) (op : Op) : Bx (RunT κ → FR d → List (Option Blk) → κ → Option (Value × List (Option Blk) × κ)) := match kindK op with
  | 0 => ⟨fun _ t rows s => match (valF P d n op).f t (heapL rows) with | some v => some (v, rows, s) | none => none⟩
  | 1 => ⟨fun _ t rows s => newK rows s ((newF P d n op).f t (heapL rows) rows.length)⟩
  | 2 => ⟨fun _ t rows s => wrK P (evF d n t) rows s op⟩
  | 3 => ⟨fun run t rows s => clK K run (fun _ => true) false rows s ((callF P d n op).f t)⟩
  | 4 => ⟨fun _ t rows s => match newK rows s ((newF P d n op).f t (heapL rows) rows.length) with | some x => some x | none => wrK P (evF d n t) rows s op⟩
  | _ => ⟨fun _ t rows s => match (valF P d n op).f t (heapL rows) with | some v => some (v, rows, s) | none => newK rows s ((newF P d n op).f t (heapL rows) rows.length)⟩
/-- Are all operands such that no renaming turns them by themselves? -/
def okK : Op → Bool
  | .sliceToArrayPointer _ x => operB x
  | op => opOK op
theorem okK_all {o : Op} (h : okK o = true) : o.operands.all operB = true := by
  unfold okK at h
  split at h
  · simp [Op.operands, h]
  · exact opOK_all h
theorem okK_call {o : Op} (h : okK o = true) (hk : kindK o = 3) : opOK o = true := by
  unfold okK at h
  split at h
  · cases hk
  · exact h
/-- Frame, rows, state. -/
structure O3 (d : Nat) (κ : Type) where
  t : FR d
  r : List (Option Blk)
  s : κ
def goOn (d n : Nat) (dst : Option Tmp) (next : Bx (RunT κ → FR d → List (Option Blk) → κ → Option (O3 d κ))) : Bx (RunT κ → FR d → Option (Value × List (Option Blk) × κ) → Option (O3 d κ)) :=
  ⟨fun run t x => match x with | some (v, rows', s') => next.f run ((dstF d n dst).f t v) rows' s' | none => none⟩
def actF' (K : KF P X κ) (d n : Nat) (o : Oper) (next : Bx (RunT κ → FR d → List (Option Blk) → κ → Option (O3 d κ))) : Bx (RunT κ → FR d → List (Option Blk) → κ → Option (O3 d κ)) := match kindK o.op with
  | 0 => ⟨fun run t rows s => match (valF P d n o.op).f t (heapL rows) with | some v => next.f run ((dstF d n o.dst).f t v) rows s | none => none⟩
  | _ => ⟨fun run t rows s => (goOn d n o.dst next).f run t ((oneF K d n o.op).f run t rows s)⟩
def stepF (K : KF P X κ) (d n : Nat) (ops : Array Oper) (o : Oper) (next : Bx (RunT κ → FR d → List (Option Blk) → κ → Option (O3 d κ))) : Bx (RunT κ → FR d → List (Option Blk) → κ → Option (O3 d κ)) := match okK o.op with
  | false => ⟨fun _ _ _ _ => none⟩
  | true => (match o.guard with
    | none => actF' K d n o next
    | some (j, w) => ⟨fun run t rows s => match wantB ((yieldF d n ops j).f t) w with
      | true => (actF' K d n o next).f run t rows s
      | false => next.f run ((dstF d n o.dst).f t undef) rows s⟩)
def opsF (K : KF P X κ) (d n : Nat) (ops : Array Oper) : List Oper → Bx (RunT κ → FR d → List (Option Blk) → κ → Option (O3 d κ))
  | [] => ⟨fun _ t rows s => some ⟨t, rows, s⟩⟩
  | o :: l => stepF K d n ops o (opsF K d n ops l)

/-- What may be seen. -/
def visB (n0 : Nat) (born : List (Nat × Nat)) (mask : Nat) (n : Nat) : Bool := Nat.ble (n + 1) n0 || born.any (fun p => p.2 == n && mask.testBit p.1)
/-- A region that draws its order: the next name ahead of it; rows that stay. -/
structure DE where
  n0 : Nat
  T : List Nat
  hf : AHeap
def farH (T : List Nat) (rows : List (Option Blk)) : AHeap := ⟨fun n => match T.elem n with
  | true => ((rows[n]?).join).map (fun b => { b with ro := true })
  | false => none, rows.length⟩
/-- Which row is stored to: none of those that stay? -/
def storeOK (d n : Nat) (op : Op) : Bx (FR d → List Nat → Bool) := match op with
  | .store _ x _ => ⟨fun t T => match T with
    | [] => true
    | T => (match (opF d n x).f t with | .pointer (some a) => notB (T.elem a.block) | _ => false)⟩
  | _ => ⟨fun _ T => match T with | [] => true | _ => false⟩
/-- An operation of a region that draws its order. -/
def oneD (K : KF P X κ) (d n : Nat) (mask : Nat) (inW : Bool) (op : Op) : Bx (RunT κ → FR d → List (Option Blk) → κ → DE → List (Nat × Nat) → Option (Value × List (Option Blk) × κ)) := match kindK op with
  | 0 => ⟨fun _ t rows s de born => match (valF P d n op).f t (visH de.n0 born mask (heapL rows)) with | some v => some (v, rows, s) | none => none⟩
  | 1 => ⟨fun _ t rows s de born => newK rows s ((newF P d n op).f t (visH de.n0 born mask (heapL rows)) rows.length)⟩
  | 2 => ⟨fun _ t rows s de _ => match (storeOK d n op).f t de.T with | true => wrK P (evF d n t) rows s op | false => none⟩
  | 3 => (match inW with
    | true => ⟨fun run t rows s de _ => match de.T with | [] => clK K run (fun _ => true) false rows s ((callF P d n op).f t) | _ => none⟩
    | false => ⟨fun run t rows s de born => clK K run (visB de.n0 born mask) true rows s ((callF P d n op).f t)⟩)
  | 4 => (match inW with
    | true => ⟨fun _ t rows s de _ => match (storeOK d n op).f t de.T with | true => (match newK rows s ((newF P d n op).f t (heapL rows) rows.length) with | some x => some x | none => wrK P (evF d n t) rows s op) | false => none⟩
    | false => ⟨fun _ t rows s de born => newK rows s ((newF P d n op).f t (visH de.n0 born mask (heapL rows)) rows.length)⟩)
  | _ => ⟨fun _ t rows s de born => match (valF P d n op).f t (visH de.n0 born mask (heapL rows)) with | some v => some (v, rows, s) | none => none⟩
/-- Those that look at rows that stay; the others. -/
def farD (K : KF P X κ) (d n : Nat) (W : List Nat) (mask i : Nat) (op : Op) : Bx (RunT κ → FR d → List (Option Blk) → κ → DE → List (Nat × Nat) → Option (Value × List (Option Blk) × κ)) := match farB W i with
  | false => oneD K d n mask (W.contains i) op
  | true => (match kindK op with
    | 0 => ⟨fun _ t rows s de _ => match (valF P d n op).f t de.hf with | some v => some (v, rows, s) | none => none⟩
    | _ => ⟨fun _ _ _ _ _ _ => none⟩)
def goOnD (d n : Nat) (i : Nat) (dst : Option Tmp) (next : Bx (RunT κ → FR d → List (Option Blk) → κ → DE → List (Nat × Nat) → Option (O3 d κ))) : Bx (RunT κ → FR d → Nat → DE → List (Nat × Nat) → Option (Value × List (Option Blk) × κ) → Option (O3 d κ)) :=
  ⟨fun run t len de born x => match x with | some (v, rows', s') => next.f run ((dstF d n dst).f t v) rows' s' de (bornN i len rows'.length ++ born) | none => none⟩
def stepD (K : KF P X κ) (d n : Nat) (ops : Array Oper) (W : List Nat) (ms : List Nat) (o : Oper) (i : Nat) (next : Bx (RunT κ → FR d → List (Option Blk) → κ → DE → List (Nat × Nat) → Option (O3 d κ))) : Bx (RunT κ → FR d → List (Option Blk) → κ → DE → List (Nat × Nat) → Option (O3 d κ)) := match okK o.op with
  | false => ⟨fun _ _ _ _ _ _ => none⟩
  | true => (match o.guard with
    | none => ⟨fun run t rows s de born => (goOnD d n i o.dst next).f run t rows.length de born ((farD K d n W (ms.getD i 0) i o.op).f run t rows s de born)⟩
    | some (j, w) => ⟨fun run t rows s de born => match wantB ((yieldF d n ops j).f t) w with
      | true => (goOnD d n i o.dst next).f run t rows.length de born ((farD K d n W (ms.getD i 0) i o.op).f run t rows s de born)
      | false => next.f run ((dstF d n o.dst).f t undef) rows s de born⟩)
def opsD (K : KF P X κ) (d n : Nat) (ops : Array Oper) (W : List Nat) (ms : List Nat) : List Oper → Nat → Bx (RunT κ → FR d → List (Option Blk) → κ → DE → List (Nat × Nat) → Option (O3 d κ))
  | [], _ => ⟨fun _ t rows s _ _ => some ⟨t, rows, s⟩⟩
  | o :: l, i => stepD K d n ops W ms o i (opsD K d n ops W ms l (i + 1))

/-- Those that append. -/
def appW : List Oper → Nat → List Nat
  | [], _ => []
  | o :: l, i => match Nat.beq (kindK o.op) 4 with | true => i :: appW l (i + 1) | false => appW l (i + 1)
/-- Those that append, and calls. -/
def callW : List Oper → Nat → List Nat
  | [], _ => []
  | o :: l, i => match Nat.beq (kindK o.op) 4 || Nat.beq (kindK o.op) 3 with | true => i :: callW l (i + 1) | false => callW l (i + 1)
/-- Those that load. -/
def loadW : List Oper → Nat → List Nat
  | [], _ => []
  | o :: l, i => match o.op with | .load _ _ => (i + 1000000) :: loadW l (i + 1) | _ => loadW l (i + 1)
def pickW (ops : Array Oper) : List (List Nat) → Option (List Nat)
  | [] => none
  | W :: l => match drawB W ops with | true => some W | false => pickW ops l
def drawW (ops : Array Oper) : Option (List Nat) := match Nat.ble ops.toList.length 1000000 with
  | true => pickW ops [callW ops.toList 0, appW ops.toList 0, loadW ops.toList 0, appW ops.toList 0 ++ loadW ops.toList 0, []]
  | false => none
/-- The rows that those look at, as far as they are known ahead of the region. -/
def farT (d n : Nat) (W : List Nat) : List Oper → Nat → Bx (FR d → List Nat)
  | [], _ => ⟨fun _ => []⟩
  | o :: l, i => match farB W i, o.op with
    | true, .load _ x => ⟨fun t => match (opF d n x).f t with | .pointer (some a) => a.block :: (farT d n W l (i + 1)).f t | _ => (farT d n W l (i + 1)).f t⟩
    | _, _ => farT d n W l (i + 1)

def res1F (P : Program) (d n : Nat) : ResultVar → Bx (FR d → AHeap → Option Value)
  | .tmp i => ⟨fun t _ => some ((gF undef d n i).f t)⟩
  | .cell a ty => loadF P d n ty (.tmp a)
theorem res1F_eq {d n : Nat} (h : n ≤ 2 ^ d) {t : FR d} {hp : AHeap} {r : ResultVar} {v : Value} (hv : (res1F P d n r).f t hp = some v) : res1A P (absT d n t) hp r = some v := by
  cases r with
  | tmp i =>
    simp only [res1F, Option.some.injEq] at hv
    simp only [res1A, Option.some.injEq]
    rw [← hv, gF_eq h t i]
  | cell a ty =>
    have := loadF_eq hv
    simp only [valA, evF_eq h] at this
    simp only [res1A]
    exact this
def resF (P : Program) (d n : Nat) : List ResultVar → Bx (FR d → AHeap → Option Value)
  | [] => ⟨fun _ _ => some (.tuple #[])⟩
  | [r] => res1F P d n r
  | [r, q] => ⟨fun t h => match (res1F P d n r).f t h, (res1F P d n q).f t h with | some x, some y => some (.tuple #[x, y]) | _, _ => none⟩
  | [r, q, s] => ⟨fun t h => match (res1F P d n r).f t h, (res1F P d n q).f t h, (res1F P d n s).f t h with | some x, some y, some z => some (.tuple #[x, y, z]) | _, _, _ => none⟩
  | _ => ⟨fun _ _ => none⟩
theorem resF_eq {d n : Nat} (h : n ≤ 2 ^ d) {t : FR d} {hp : AHeap} {fn : Func} {v : Value} (hv : (resF P d n fn.results.toList).f t hp = some v) : resA P fn (absT d n t) hp = some v := by
  unfold resA
  unfold resF at hv
  split at hv
  · rename_i e; rw [e]; exact hv
  · rename_i r e; rw [e]; exact res1F_eq h hv
  · rename_i r q e
    rw [e]
    simp only at hv ⊢
    split at hv
    · rename_i x y hx hy; rw [res1F_eq h hx, res1F_eq h hy]; exact hv
    · cases hv
  · rename_i r q s e
    rw [e]
    simp only at hv ⊢
    split at hv
    · rename_i x y z hx hy hz; rw [res1F_eq h hx, res1F_eq h hy, res1F_eq h hz]; exact hv
    · cases hv
  · cases hv

def frameF (d n : Nat) : List Value → Nat → FR d → FR d
  | [], _, t => t
  | v :: l, i, t => frameF d n l (i + 1) ((sF d n i).f t v)

/-- What comes next. -/
inductive Do' where
  | ret
  | reg (ops : Array Oper) (k : List Item)
  | drw (W : List Nat) (ops : Array Oper) (k : List Item)
  | cnd (c : Operand) (x y : List Item)
  | bad
def nextT : Nat → List Item → Do'
  | 0, _ => .bad
  | f + 1, todo => match todo with
    | [] => .ret
    | .code .ret :: _ => .ret
    | .code (.region _ ops false) :: k => .reg ops k
    | .code (.region _ ops true) :: k => (match drawW ops with | some W => .drw W ops k | none => .bad)
    | .code (.cond c x y) :: k => .cnd c (.code x :: k) (.code y :: k)
    | todo => (match ctl [] todo with | some todo' => nextT f todo' | none => .bad)

/-- A run. -/
def goK (K : KF P X κ) : Nat → (fn : Func) → List Item → FR (depN fn.ntmps) → List (Option Blk) → κ → Option (Value × List (Option Blk) × κ)
  | 0, _, _, _, _, _ => none
  | m + 1, fn, todo, t, rows, s =>
    let run : RunT κ := fun g c args l s => match Nat.ble args.length g.ntmps && Nat.ble g.ntmps 4000000 with
      | true => goK K m g [.code c] (frameF (depN g.ntmps) g.ntmps args 0 (manyT undef (depN g.ntmps))) l s
      | false => none
    match nextT 1000 todo with
    | .ret => (match (resF P (depN fn.ntmps) fn.ntmps fn.results.toList).f t (heapL rows) with | some v => some (v, rows, s) | none => none)
    | .reg ops k => (match (opsF K (depN fn.ntmps) fn.ntmps ops ops.toList).f run t rows s with
      | some ⟨t', rows', s'⟩ => goK K m fn k t' rows' s'
      | none => none)
    | .drw W ops k => (match (opsD K (depN fn.ntmps) fn.ntmps ops W (masksFrom ops.toList []) ops.toList 0).f run t rows s (match (farT (depN fn.ntmps) fn.ntmps W ops.toList 0).f t with | [] => ⟨rows.length, [], AHeap.none⟩ | T => ⟨rows.length, T, farH T rows⟩) [] with
      | some ⟨t', rows', s'⟩ => goK K m fn k t' rows' s'
      | none => none)
    | .cnd c x y => (match (opF (depN fn.ntmps) fn.ntmps c).f t with
      | .bool true => goK K m fn x t rows s
      | .bool false => goK K m fn y t rows s
      | _ => none)
    | .bad => none
end
end Go.Proofs.Ytceddijolfpppaa
