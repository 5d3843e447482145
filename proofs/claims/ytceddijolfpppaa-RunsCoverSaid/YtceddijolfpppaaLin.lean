/-
  A region that draws its order, with calls that make memory or do accesses one behind the other: one walk in the order of the text serves every order.
  Condition: the Bool linB, which the kernel asks of the region's operations.
-/
import Derived.Orders
import Derived.OrdersHeld
import Derived.Still
import Derived.Tactics
import Derived.Below
namespace Go.Proofs.Ytceddijolfpppaa
open Go
set_option linter.unusedSimpArgs false
set_option linter.unusedVariables false

def depsOf (o : Oper) : List Nat := (o.after.toList.filter (fun e => Region.binds .any e)).map (·.on)

/-- The mask of an operation: those that are before it, by the masks of earlier ones. -/
def maskOf (acc : List Nat) (o : Oper) : Nat := (depsOf o).foldl (fun s d => s ||| 2 ^ d ||| acc.getD d 0) 0

def masksFrom : List Oper → List Nat → List Nat
  | [], acc => acc
  | o :: l, acc => masksFrom l (acc ++ [maskOf acc o])

/-- The slots that an operation names: its operands, its guard's, its own. -/
def namesOf (ops : Array Oper) (o : Oper) : List Tmp := o.looksAt ops ++ o.dst.toList

/-- Two operations of the walk, i ahead of j: do they keep to their row? -/
def pairB (ops : Array Oper) (effs : List Nat) (ms : List Nat) (i j : Nat) : Bool :=
  match ops[i]?, ops[j]? with
  | some oi, some oj =>
    let meet := (match oi.dst with | some d => (namesOf ops oj).contains d | none => false) || (match oj.dst with | some d => (namesOf ops oi).contains d | none => false) || effs.contains i
    i != j && (!meet || (ms.getD j 0).testBit i)
  | _, _ => false

def pairsB (ops : Array Oper) (effs : List Nat) (ms : List Nat) : List Nat → Bool
  | [] => true
  | i :: l => l.all (pairB ops effs ms i) && pairsB ops effs ms l

/-- The walk goes through all operations, once each; whatever comes behind an effect waits for it. -/
def linB (ops : Array Oper) (effs : List Nat) (row : List Nat) : Bool :=
  Region.noSelect ops && ((List.range ops.size).all fun j => row.contains j && match ops[j]? with
    | none => true
    | some oj => (depsOf oj).all (fun d => decide (d < j))) && row.all (fun i => decide (i < ops.size)) && pairsB ops effs (masksFrom ops.toList []) row

/-! ### masks are sound -/

theorem foldl_or_testBit (f : Nat → Nat) (k : Nat) : ∀ (l : List Nat) (s : Nat), (l.foldl (fun s d => s ||| 2 ^ d ||| f d) s).testBit k = true →
    s.testBit k = true ∨ ∃ d ∈ l, d = k ∨ (f d).testBit k = true
  | [], s, h => .inl h
  | d :: l, s, h => by
    rcases foldl_or_testBit f k l _ h with h | ⟨e, he, h⟩
    · rw [Nat.testBit_or, Nat.testBit_or, Bool.or_eq_true, Bool.or_eq_true] at h
      rcases h with (h | h) | h
      · exact .inl h
      · rw [Nat.testBit_two_pow] at h
        exact .inr ⟨d, List.mem_cons_self, .inl (by simpa using h)⟩
      · exact .inr ⟨d, List.mem_cons_self, .inr h⟩
    · exact .inr ⟨e, List.mem_cons_of_mem _ he, h⟩

theorem masksFrom_length : ∀ (l : List Oper) (acc : List Nat), (masksFrom l acc).length = acc.length + l.length
  | [], acc => rfl
  | o :: l, acc => by rw [masksFrom, masksFrom_length l]; simp; omega

theorem masksFrom_keeps : ∀ (l : List Oper) (acc : List Nat) (i : Nat), i < acc.length → (masksFrom l acc).getD i 0 = acc.getD i 0
  | [], _, _, _ => rfl
  | o :: l, acc, i, h => by
    rw [masksFrom, masksFrom_keeps l _ i (by simp; omega)]
    simp [List.getElem?_append_left h]

/-- Mask i is laid over the earlier ones. -/
theorem masksFrom_at : ∀ (l : List Oper) (acc : List Nat) (i : Nat) (o : Oper), l[i]? = some o → ∃ acc' : List Nat, acc'.length = acc.length + i ∧ (∀ k, k < acc'.length → acc'.getD k 0 = (masksFrom l acc).getD k 0) ∧
    (masksFrom l acc).getD (acc.length + i) 0 = maskOf acc' o
  | [], _, _, _, h => by simp at h
  | o :: l, acc, 0, o', h => by
    simp at h; subst h
    refine ⟨acc, rfl, fun k hk => ?_, ?_⟩
    · rw [masksFrom, masksFrom_keeps l _ k (by simp; omega)]; simp [List.getElem?_append_left hk]
    · rw [masksFrom, masksFrom_keeps l _ _ (by simp)]; simp
  | o :: l, acc, i + 1, o', h => by
    obtain ⟨acc', h1, h2, h3⟩ := masksFrom_at l (acc ++ [maskOf acc o]) i o' (by simpa using h)
    refine ⟨acc', by rw [h1]; simp; omega, fun k hk => by rw [masksFrom]; exact h2 k hk, ?_⟩
    rw [masksFrom, ← h3]; congr 1; simp; omega

/-- What an operation's mask names has been done, wherever all that it waits for has been. -/
theorem mask_done {ops : Array Oper} {D : Nat → Prop} (hdn : ∀ i o, ops[i]? = some o → D i → ∀ d ∈ depsOf o, D d) :
    ∀ (i : Nat) (o : Oper), ops[i]? = some o → (∀ d ∈ depsOf o, D d) → ∀ k, ((masksFrom ops.toList []).getD i 0).testBit k = true → D k := by
  intro i
  induction i using Nat.strongRecOn with
  | _ i ih =>
    intro o ho hd k hk
    obtain ⟨acc, hlen, hat, hm⟩ := masksFrom_at ops.toList [] i o (by simpa using ho)
    simp at hlen
    simp only [List.length_nil, Nat.zero_add] at hm
    rw [hm] at hk
    rcases foldl_or_testBit (fun d => acc.getD d 0) k _ _ hk with h | ⟨d, hdm, h⟩
    · simp at h
    · rcases h with rfl | h
      · exact hd _ hdm
      · rcases Nat.lt_or_ge d i with hlt | hge
        · have hlt' : d < ops.size := Nat.lt_trans hlt (Array.getElem?_eq_some_iff.1 ho).1
          have h' : (acc.getD d 0).testBit k = true := h
          rw [hat d (by omega)] at h'
          exact ih d hlt _ (Array.getElem?_eq_getElem hlt') (hdn d _ (Array.getElem?_eq_getElem hlt') (hd d hdm)) k h'
        · have : acc.getD d 0 = 0 := by simp [List.getElem?_eq_none (show acc.length ≤ d by omega)]
          simp only [this] at h
          simp at h

/-! ### the walk -/

def Upon (P : Program) (v : Value) (K : World → Prop) : Result Next → Prop
  | .ok (.value u) w => u = v ∧ K w
  | .ok .skip w => v = undef ∧ K w
  | .ok (.enter f args) w => Calls P f args w (fun e w' => e = .returned v ∧ K w')
  | _ => False

def UponR (P : Program) (K : Value → World → Prop) : Result Next → Prop
  | .ok (.value u) w => K u w
  | .ok .skip w => K undef w
  | .ok (.enter f args) w => Calls P f args w (fun e w' => ∃ v, e = .returned v ∧ K v w')
  | _ => False

attribute [go_sem] Upon UponR

section
variable (P : Program) (ops : Array Oper) (effs : List Nat) (S : World → Prop) (E : World → World → Prop) (Q : Act → World → Prop)

/-- The walk through the operations of a row. w1: the world behind the last effect. A quiet operation yields one value in every world of S; an effect is met in any world that has grown out of w1. -/
def LexR : List Nat → Act → World → Prop
  | [], a, w1 => ∀ w, E w1 w → Q a w
  | i :: l, a, w1 => match ops[i]? with
    | none => False
    | some o =>
      if Region.wanted o (yielded ops a.tmps) then
        if effs.contains i then ∀ w, E w1 w → UponR P (fun v w' => S w' ∧ LexR l (a.put o.dst v) w') ((execOp a.eval o).run P w)
        else ∃ v, (∀ w, S w → Upon P v (E w) ((execOp a.eval o).run P w)) ∧ LexR l (a.put o.dst v) w1
      else LexR l (a.put o.dst undef) w1
end

/-- What the walk says of an operation: is it wanted, its value, the frame ahead of it. -/
structure Rec where
  want : Bool
  v : Value
  a : Act

def Rec.good (P : Program) (ops : Array Oper) (S : World → Prop) (E : World → World → Prop) (o : Oper) (r : Rec) : Prop :=
  Region.wanted o (yielded ops r.a.tmps) = r.want ∧
  (r.want = true → ∀ w, S w → Upon P r.v (E w) ((execOp r.a.eval o).run P w)) ∧ (r.want = false → r.v = undef)

/-- The walk stands at its end, or ahead of an effect. -/
def Front (P : Program) (ops : Array Oper) (effs : List Nat) (S : World → Prop) (E : World → World → Prop) (Q : Act → World → Prop) (l : List Nat) (a : Act) (w1 : World) : Prop :=
  (l = [] ∧ ∀ w, E w1 w → Q a w) ∨
  ∃ i l' o, l = i :: l' ∧ ops[i]? = some o ∧ effs.contains i = true ∧ Region.wanted o (yielded ops a.tmps) = true ∧
    ∀ w, E w1 w → UponR P (fun v w' => S w' ∧ LexR P ops effs S E Q l' (a.put o.dst v) w') ((execOp a.eval o).run P w)

/-- On to the next effect. -/
theorem lexR_front {P : Program} {ops : Array Oper} {effs : List Nat} {S : World → Prop} {E : World → World → Prop} {Q : Act → World → Prop} {w1 : World} :
    ∀ (l : List Nat) (a : Act), LexR P ops effs S E Q l a w1 →
    ∃ (q : Nat) (r : Nat → Rec), q ≤ l.length ∧ (r 0).a = a ∧ (∀ p, p < q → ∃ i o, l[p]? = some i ∧ ops[i]? = some o ∧ (r p).good P ops S E o ∧ (r (p + 1)).a = (r p).a.put o.dst (r p).v) ∧
      Front P ops effs S E Q (l.drop q) (r q).a w1
  | [], a, h => ⟨0, fun _ => ⟨false, undef, a⟩, Nat.le_refl _, rfl, fun p hp => by omega, .inl ⟨rfl, h⟩⟩
  | i :: l, a, h => by
    simp only [LexR] at h
    cases ho : ops[i]? with
    | none => rw [ho] at h; exact h.elim
    | some o =>
      rw [ho] at h
      simp only [] at h
      have key : ∀ r0 : Rec, r0.a = a → r0.good P ops S E o → LexR P ops effs S E Q l (a.put o.dst r0.v) w1 →
          ∃ (q : Nat) (r : Nat → Rec), q ≤ (i :: l).length ∧ (r 0).a = a ∧ (∀ p, p < q → ∃ i' o', (i :: l)[p]? = some i' ∧ ops[i']? = some o' ∧ (r p).good P ops S E o' ∧ (r (p + 1)).a = (r p).a.put o'.dst (r p).v) ∧
            Front P ops effs S E Q ((i :: l).drop q) (r q).a w1 := by
        intro r0 ha hg hl
        obtain ⟨q, r, h1, h2, h3, h4⟩ := lexR_front l _ hl
        refine ⟨q + 1, fun p => match p with | 0 => r0 | p + 1 => r p, by simp; omega, ha, ?_, by simpa using h4⟩
        intro p hp
        cases p with
        | zero => exact ⟨i, o, rfl, ho, hg, by show (r 0).a = _; rw [h2, ha]⟩
        | succ p => obtain ⟨i', o', g1, g2, g3, g4⟩ := h3 p (by omega); exact ⟨i', o', by simpa using g1, g2, g3, g4⟩
      by_cases hw : Region.wanted o (yielded ops a.tmps) = true
      · rw [if_pos hw] at h
        by_cases he : effs.contains i = true
        · rw [if_pos he] at h
          exact ⟨0, fun _ => ⟨false, undef, a⟩, Nat.zero_le _, rfl, fun p hp => by omega, .inr ⟨i, l, o, rfl, ho, he, hw, h⟩⟩
        · rw [if_neg he] at h
          obtain ⟨v, h1, h2⟩ := h
          exact key ⟨true, v, a⟩ rfl ⟨hw, fun _ => h1, fun h0 => Bool.noConfusion h0⟩ h2
      · rw [if_neg hw] at h
        exact key ⟨false, undef, a⟩ rfl ⟨by simpa using hw, fun h0 => Bool.noConfusion h0, fun _ => rfl⟩ h

/-! ### the frame behind some operations, in whatever order -/

def dstAt (ops : Array Oper) (row : List Nat) (p : Nat) : Option Tmp := ((row[p]?).bind (ops[·]?)).bind (·.dst)

/-- The value of the last of the operations below place n, done, that writes slot t. -/
def slotAt (dst : Nat → Option Tmp) (val : Nat → Value) (D : Nat → Bool) (a0 : Act) (t : Nat) : Nat → Value
  | 0 => a0.tmps.getD t undef
  | n + 1 => if D n = true ∧ dst n = some t then val n else slotAt dst val D a0 t n

theorem put_getD (a : Act) (d : Option Tmp) (v : Value) (t : Nat) (ht : t < a.tmps.size) : (a.put d v).tmps.getD t undef = if d = some t then v else a.tmps.getD t undef := by
  cases d with
  | none => simp [Act.put]
  | some d =>
    by_cases h : d = t
    · subst h; simp [Act.put, ht]
    · have : ¬ (some d = some t) := by simpa using h
      rw [if_neg this]; simp [Act.put, Array.getElem?_setIfInBounds_ne h]

theorem put_size (a : Act) (d : Option Tmp) (v : Value) : (a.put d v).tmps.size = a.tmps.size := by cases d <;> simp [Act.put]
theorem put_defers' (a : Act) (d : Option Tmp) (v : Value) : (a.put d v).defers = a.defers := by cases d <;> rfl

theorem slotAt_congr {dst : Nat → Option Tmp} {val val' : Nat → Value} {D D' : Nat → Bool} {a0 : Act} {t : Nat} : ∀ n, (∀ j, j < n → dst j = some t → D j = D' j ∧ val j = val' j) → slotAt dst val D a0 t n = slotAt dst val' D' a0 t n
  | 0, _ => rfl
  | n + 1, h => by
    have ih := slotAt_congr (a0 := a0) n (fun j hj => h j (Nat.lt_succ_of_lt hj))
    by_cases hd : dst n = some t
    · simp only [slotAt, hd, (h n (Nat.lt_succ_self n) hd).1, (h n (Nat.lt_succ_self n) hd).2, ih]
    · simp only [slotAt, hd, and_false, if_false, ih]

theorem slotAt_cut {dst : Nat → Option Tmp} {val : Nat → Value} {D : Nat → Bool} {a0 : Act} {t m : Nat} : ∀ n, m ≤ n → (∀ j, m ≤ j → j < n → dst j = some t → D j = false) → slotAt dst val D a0 t n = slotAt dst val D a0 t m
  | 0, hm, _ => by rw [Nat.le_zero.1 hm]
  | n + 1, hm, h => by
    by_cases he : m = n + 1
    · rw [he]
    · have ih := slotAt_cut (val := val) (a0 := a0) n (by omega) (fun j h1 h2 => h j h1 (Nat.lt_succ_of_lt h2))
      rw [slotAt, if_neg, ih]
      rintro ⟨h1, h2⟩
      rw [h n (by omega) (Nat.lt_succ_self n) h2] at h1
      exact Bool.noConfusion h1

theorem act_ext {a b : Act} (hs : a.tmps.size = b.tmps.size) (hd : a.defers = b.defers) (h : ∀ t, t < a.tmps.size → a.tmps.getD t undef = b.tmps.getD t undef) : a = b := by
  obtain ⟨x, d⟩ := a
  obtain ⟨y, e⟩ := b
  simp only at hs hd h
  subst hd
  have : x = y := by
    apply Array.ext hs
    intro i h1 h2
    have := h i h1
    simpa [h1, h2] using this
  rw [this]

/-- The walk's own frame ahead of place m. -/
theorem walk_slots {dst : Nat → Option Tmp} {r : Nat → Rec} {a0 : Act} {n : Nat} (h0 : (r 0).a = a0) (hs : ∀ p, p < n → (r (p + 1)).a = (r p).a.put (dst p) (r p).v) :
    ∀ m, m ≤ n → (r m).a.tmps.size = a0.tmps.size ∧ (r m).a.defers = a0.defers ∧ ∀ t, t < a0.tmps.size → (r m).a.tmps.getD t undef = slotAt dst (fun j => (r j).v) (fun _ => true) a0 t m
  | 0, _ => ⟨by rw [h0], by rw [h0], fun t _ => by rw [h0]; rfl⟩
  | m + 1, hm => by
    obtain ⟨ih1, ih2, ih3⟩ := walk_slots h0 hs m (by omega)
    have hm' := hs m (by omega)
    refine ⟨by rw [hm', put_size, ih1], by rw [hm', put_defers', ih2], fun t ht => ?_⟩
    rw [hm', put_getD _ _ _ _ (by rw [ih1]; exact ht), ih3 t ht]
    simp only [slotAt, true_and]

theorem slotAt_set {dst : Nat → Option Tmp} {val : Nat → Value} {D : Nat → Bool} {a0 : Act} {i : Nat} {t : Nat} (hlater : ∀ j, i < j → dst j = some t → dst i = some t → D j = false) :
    ∀ n, i < n → slotAt dst val (fun j => D j || j == i) a0 t n = if dst i = some t then val i else slotAt dst val D a0 t n
  | 0, h => by omega
  | n + 1, h => by
    by_cases he : i = n
    · subst he
      by_cases hd : dst i = some t
      · simp [slotAt, hd]
      · rw [slotAt, if_neg (fun h => hd h.2), if_neg hd, slotAt, if_neg (fun h => hd h.2)]
        exact slotAt_congr i (fun j hj _ => ⟨by simp; intro h; omega, rfl⟩)
    · have hne : (n == i) = false := by simp; omega
      rw [slotAt, slotAt_set hlater n (by omega)]
      by_cases hd : dst i = some t
      · rw [if_pos hd, if_pos hd]
        by_cases hn : dst n = some t
        · rw [if_neg]; rintro ⟨h1, _⟩; rw [hlater n (by omega) hn hd] at h1; simp [hne] at h1
        · rw [if_neg (fun h => hn h.2)]
      · simp [hd, slotAt, hne]

/-! ### the region's law -/

section
variable {P : Program} {ops : Array Oper} {effs : List Nat} {row : List Nat} {S : World → Prop} {E : World → World → Prop}

theorem pairsB_spec {ms : List Nat} : ∀ (l : List Nat), pairsB ops effs ms l = true → ∀ (p q i j : Nat), p < q → l[p]? = some i → l[q]? = some j → pairB ops effs ms i j = true
  | [], _, p, q, i, j, _, h, _ => by simp at h
  | x :: l, h, p, q, i, j, hpq, hp, hq => by
    simp only [pairsB, Bool.and_eq_true, List.all_eq_true] at h
    cases q with
    | zero => omega
    | succ q =>
      cases p with
      | zero =>
        simp at hp hq; subst hp
        exact h.1 j (List.mem_of_getElem? hq)
      | succ p => exact pairsB_spec l h.2 p q i j (by omega) (by simpa using hp) (by simpa using hq)

structure LinSpec (ops : Array Oper) (effs row : List Nat) : Prop where
  sel : Region.noSelect ops = true
  all : ∀ j, j < ops.size → ∃ p : Nat, row[p]? = some j
  deps : ∀ j oj, ops[j]? = some oj → ∀ d ∈ depsOf oj, d < j
  bound : ∀ (p i : Nat), row[p]? = some i → i < ops.size
  apart : ∀ (p q i : Nat), row[p]? = some i → row[q]? = some i → p = q
  meet : ∀ (p q i j : Nat) oi oj, p < q → row[p]? = some i → row[q]? = some j → ops[i]? = some oi → ops[j]? = some oj →
    ((∃ d, oi.dst = some d ∧ d ∈ namesOf ops oj) ∨ (∃ d, oj.dst = some d ∧ d ∈ namesOf ops oi) ∨ effs.contains i = true) → ((masksFrom ops.toList []).getD j 0).testBit i = true

theorem linB_spec (h : linB ops effs row = true) : LinSpec ops effs row := by
  simp only [linB, Bool.and_eq_true, List.all_eq_true, List.mem_range, decide_eq_true_eq] at h
  obtain ⟨⟨⟨h1, h2⟩, h3⟩, h4⟩ := h
  have hp := pairsB_spec row h4
  have hne : ∀ (p q i j : Nat), p < q → row[p]? = some i → row[q]? = some j → i ≠ j := fun p q i j hpq hi hj => by
    have := hp p q i j hpq hi hj
    unfold pairB at this
    cases hoi : ops[i]? with
    | none => simp [hoi] at this
    | some oi =>
      cases hoj : ops[j]? with
      | none => simp [hoi, hoj] at this
      | some oj => simp only [hoi, hoj, Bool.and_eq_true, bne_iff_ne] at this; exact this.1
  refine ⟨h1, fun j hj => ?_, fun j oj hj => ?_, fun p i hi => h3 i (List.mem_of_getElem? hi), fun p q i hpi hqi => ?_, fun p q i j oi oj hpq hi hj hoi hoj hm => ?_⟩
  · have := (h2 j hj).1
    simp only [List.contains_iff_mem] at this
    exact List.mem_iff_getElem?.1 this
  · have := (h2 j (Array.getElem?_eq_some_iff.1 hj).1).2
    rw [hj] at this
    simpa using this
  · rcases Nat.lt_trichotomy p q with h | h | h
    · exact absurd rfl (hne p q i i h hpi hqi)
    · exact h
    · exact absurd rfl (hne q p i i h hqi hpi)
  · have := hp p q i j hpq hi hj
    unfold pairB at this
    simp only [hoi, hoj, Bool.and_eq_true, Bool.or_eq_true, Bool.not_eq_true', Bool.or_eq_false_iff] at this
    rcases this.2 with h | h
    · exfalso
      obtain ⟨⟨ha, hb⟩, hc⟩ := h
      rcases hm with ⟨d, hd, hin⟩ | ⟨d, hd, hin⟩ | he
      · simp [hd] at ha; exact ha hin
      · simp [hd] at hb; exact hb hin
      · rw [he] at hc; exact Bool.noConfusion hc
    · exact h

theorem mem_deps {o : Oper} {e : Edge} (he : e ∈ o.after) (hb : Region.binds .any e = true) : e.on ∈ depsOf o := by
  unfold depsOf
  exact List.mem_map.2 ⟨e, List.mem_filter.2 ⟨by simpa using he, hb⟩, rfl⟩

theorem deps_mem {o : Oper} {d : Nat} (h : d ∈ depsOf o) : ∃ e ∈ o.after, Region.binds .any e = true ∧ e.on = d := by
  unfold depsOf at h
  obtain ⟨e, h1, h2⟩ := List.mem_map.1 h
  obtain ⟨h3, h4⟩ := List.mem_filter.1 h1
  exact ⟨e, by simpa using h3, h4, h2⟩

theorem Upon.wp {o : Oper} {a : Act} {w : World} {v : Value} {K : World → Prop} {next : Act → World → Prop} {Q : Exit → Act → World → Prop}
    (h : Upon P v K ((execOp a.eval o).run P w)) (hn : ∀ w', K w' → next (a.put o.dst v) w') : o.wp P a w next Q := by
  unfold Oper.wp
  generalize (execOp a.eval o).run P w = r at *
  cases r with
  | ok n w' =>
    cases n <;> simp only [Upon] at h <;> simp only [Oper.upon]
    case value u => obtain ⟨rfl, hk⟩ := h; exact hn _ hk
    case skip => obtain ⟨rfl, hk⟩ := h; exact hn _ hk
    case enter f args => exact h.mono fun e w'' ⟨he, hk⟩ => by subst he; exact hn _ hk
  | halt x w' => simp only [Upon] at h

theorem UponR.wp {o : Oper} {a : Act} {w : World} {K : Value → World → Prop} {next : Act → World → Prop} {Q : Exit → Act → World → Prop}
    (h : UponR P K ((execOp a.eval o).run P w)) (hn : ∀ v w', K v w' → next (a.put o.dst v) w') : o.wp P a w next Q := by
  unfold Oper.wp
  generalize (execOp a.eval o).run P w = r at *
  cases r with
  | ok n w' =>
    cases n <;> simp only [UponR] at h <;> simp only [Oper.upon]
    case value u => exact hn _ _ h
    case skip => exact hn _ _ h
    case enter f args => exact h.mono fun e w'' ⟨v, he, hk⟩ => by subst he; exact hn _ _ hk
  | halt x w' => simp only [UponR] at h

/-- What is kept on the way. m: the place up to which the walk is known. -/
structure Inv (P : Program) (ops : Array Oper) (effs row : List Nat) (S : World → Prop) (E : World → World → Prop) (Q : Act → World → Prop) (a0 : Act) (listed : Array Bool) (a : Act) (w : World) (m : Nat) (r : Nat → Rec) (w1 : World) : Prop where
  size : listed.size = ops.size
  down : ∀ i o, ops[i]? = some o → listed.getD i false = true → ∀ d ∈ depsOf o, listed.getD d false = true
  tmps : a.tmps.size = a0.tmps.size
  defers : a.defers = a0.defers
  start : (r 0).a = a0
  steps : ∀ p, p < m → (r (p + 1)).a = (r p).a.put (dstAt ops row p) (r p).v
  open' : ∀ (p i : Nat) o, p < m → row[p]? = some i → ops[i]? = some o → listed.getD i false = true ∨ (r p).good P ops S E o
  later : ∀ (p i : Nat), m ≤ p → row[p]? = some i → listed.getD i false = false
  front : Front P ops effs S E Q (row.drop m) (r m).a w1
  slots : ∀ t, t < a0.tmps.size → a.tmps.getD t undef = slotAt (dstAt ops row) (fun j => (r j).v) (fun p => (row[p]?).elim false (fun i => listed.getD i false)) a0 t m
  grown : E w1 w
  cls : S w

theorem getD_ff {listed : Array Bool} {i : Nat} (h : i < listed.size) (b c : Bool) : listed.getD i b = listed.getD i c := by simp [h]

theorem yielded_at (x : Array Value) (t : Tmp) : (match x[t]? with | some (.bool b) => some b | _ => none) = (match x.getD t undef with | .bool b => some b | _ => none) := by
  rw [Array.getD_eq_getD_getElem?]
  cases x[t]? with
  | none => rfl
  | some v => cases v <;> rfl

/-- Two frames that agree on what an operation looks at. -/
theorem same_op (hsel : Region.noSelect ops = true) {i : Nat} {o : Oper} (ho : ops[i]? = some o) {a b : Act} (h : ∀ t, t ∈ o.looksAt ops → a.tmps.getD t undef = b.tmps.getD t undef) :
    execOp a.eval o = execOp b.eval o ∧ Region.wanted o (yielded ops a.tmps) = Region.wanted o (yielded ops b.tmps) := by
  refine ⟨execOp_congr o (fun cs b => Region.noSelect_spec hsel i o cs b ho) fun x hx => ?_, ?_⟩
  · cases x with
    | tmp t => exact h t (List.mem_append_left _ (List.mem_filterMap.2 ⟨.tmp t, by simpa using hx, rfl⟩))
    | _ => rfl
  · unfold Region.wanted
    cases hg : o.guard with
    | none => rfl
    | some gw =>
      obtain ⟨g, want⟩ := gw
      have : yielded ops a.tmps g = yielded ops b.tmps g := by
        unfold yielded
        cases ht : (ops[g]?).bind (·.dst) with
        | none => rfl
        | some t =>
          have := h t (List.mem_append_right _ (by simp [hg, ht]))
          exact (yielded_at a.tmps t).trans ((congrArg (fun x : Value => match x with | .bool b => some b | _ => none) this).trans (yielded_at b.tmps t).symm)
      simp only [this]

theorem dstAt_of {p i : Nat} {o : Oper} (hp : row[p]? = some i) (ho : ops[i]? = some o) : dstAt ops row p = o.dst := by unfold dstAt; simp [hp, ho]
theorem dstAt_some {p : Nat} {t : Tmp} (h : dstAt ops row p = some t) : ∃ i o, row[p]? = some i ∧ ops[i]? = some o ∧ o.dst = some t := by
  unfold dstAt at h
  cases hp : row[p]? with
  | none => simp [hp] at h
  | some i =>
    cases ho : ops[i]? with
    | none => simp [hp, ho] at h
    | some o => simp [hp, ho] at h; exact ⟨i, o, rfl, ho, h⟩

theorem inv_step (hB : linB ops effs row = true) {Q : Act → World → Prop} {Q' : Exit → Act → World → Prop} {a0 : Act}
    (hr : ∀ w, E w w) (ht : ∀ a b c, E a b → E b c → E a c) (hS : ∀ w w', S w → E w w' → S w')
    {listed : Array Bool} {a : Act} {w w1 : World} {m : Nat} {r : Nat → Rec} (hI : Inv P ops effs row S E Q a0 listed a w m r w1) {i : Nat} (hi : i ∈ Region.ready .any ops listed) :
    wpOp P ops Q' i (fun a' w' => ∃ m r w1, Inv P ops effs row S E Q a0 (listed.setIfInBounds i true) a' w' m r w1) a w := by
  have L := linB_spec hB
  obtain ⟨hun, o, ho, hall⟩ := mem_ready.1 hi
  have hlt : i < ops.size := (Array.getElem?_eq_some_iff.1 ho).1
  have hunf : listed.getD i false = false := by rw [getD_ff (by rw [hI.size]; exact hlt) false true]; exact hun
  have hdeps : ∀ d ∈ depsOf o, listed.getD d false = true := fun d hd => by
    obtain ⟨e, he, hb, rfl⟩ := deps_mem hd
    exact hall e he hb
  obtain ⟨p, hp⟩ := L.all i hlt
  -- no place behind the front
  have hpm : p ≤ m := by
    rcases Nat.lt_or_ge m p with h | h
    · exfalso
      have hplt : p < row.length := (List.getElem?_eq_some_iff.1 hp).1
      rcases hI.front with ⟨hnil, _⟩ | ⟨i', l', o', hl, ho', he, _, _⟩
      · have := List.drop_eq_nil_iff.1 hnil; omega
      · have hm' : row[m]? = some i' := by have := congrArg (fun l : List Nat => l[0]?) hl; simpa using this
        have hb := L.meet m p i' i o' o h hm' hp ho' ho (.inr (.inr he))
        have := mask_done (D := fun x => listed.getD x false = true) hI.down i o ho hdeps i' hb
        rw [hI.later m i' (Nat.le_refl _) hm'] at this
        exact Bool.noConfusion this
    · exact h
  obtain ⟨hw1, hw2, hw3⟩ := walk_slots hI.start hI.steps p hpm
  -- whoever meets it: those ahead are done, those behind are not
  have hmeet : ∀ q j oj, q < m → q ≠ p → row[q]? = some j → ops[j]? = some oj → ((∃ d, oj.dst = some d ∧ d ∈ namesOf ops o) ∨ (∃ d, o.dst = some d ∧ d ∈ namesOf ops oj)) → listed.getD j false = decide (q < p) := by
    intro q j oj _ hne hq hj hm
    rcases Nat.lt_or_gt_of_ne hne with h | h
    · have hb := L.meet q p j i oj o h hq hp hj ho (by rcases hm with h | h; exact .inl h; exact .inr (.inl h))
      have := mask_done (D := fun x => listed.getD x false = true) hI.down i o ho hdeps j hb
      simpa [h] using this
    · have hb := L.meet p q i j o oj h hp hq ho hj (by rcases hm with h | h; exact .inr (.inl h); exact .inl h)
      have hnd : ¬ listed.getD j false = true := fun hl => by
        have := mask_done (D := fun x => listed.getD x false = true) hI.down j oj hj (hI.down j oj hj hl) i hb
        rw [hunf] at this; exact Bool.noConfusion this
      have : ¬ q < p := by omega
      simpa [this] using hnd
  -- a slot that it names holds what the walk has there
  have hslot : ∀ t, t ∈ namesOf ops o → a.tmps.getD t undef = (r p).a.tmps.getD t undef := by
    intro t htn
    by_cases htl : t < a0.tmps.size
    · rw [hI.slots t htl, hw3 t htl, slotAt_cut (m := p) m hpm]
      · refine slotAt_congr p fun q hq hd => ⟨?_, rfl⟩
        obtain ⟨j, oj, h1, h2, h3⟩ := dstAt_some hd
        have := hmeet q j oj (by omega) (by omega) h1 h2 (.inl ⟨t, h3, htn⟩)
        simpa [h1, hq] using this
      · intro q h1 h2 hd
        obtain ⟨j, oj, g1, g2, g3⟩ := dstAt_some hd
        by_cases hqp : q = p
        · subst hqp; rw [hp] at g1; injection g1 with g1; subst g1; simpa [hp] using hunf
        · have := hmeet q j oj h2 hqp g1 g2 (.inl ⟨t, g3, htn⟩)
          have h0 : ¬ q < p := by omega
          simpa [g1, h0] using this
    · have e1 : a.tmps.size ≤ t := by rw [hI.tmps]; exact Nat.le_of_not_lt htl
      have e2 : (r p).a.tmps.size ≤ t := by rw [hw1]; exact Nat.le_of_not_lt htl
      simp [Array.getElem?_eq_none e1, Array.getElem?_eq_none e2]
  obtain ⟨hexec, hwant⟩ := same_op L.sel ho (a := a) (b := (r p).a) (fun t ht' => hslot t (List.mem_append_left _ ht'))
  have hset : ∀ j, (listed.setIfInBounds i true).getD j false = (listed.getD j false || j == i) := fun j => by
    by_cases hji : j = i
    · subst hji; simp [hI.size, hlt]
    · rw [getD_set_ne false (Ne.symm hji)]
      have : (j == i) = false := by simpa using hji
      rw [this]; simp
  have hdown' : ∀ j oj, ops[j]? = some oj → (listed.setIfInBounds i true).getD j false = true → ∀ d ∈ depsOf oj, (listed.setIfInBounds i true).getD d false = true := by
    intro j oj hj hl d hd
    rw [hset] at hl ⊢
    simp only [Bool.or_eq_true, beq_iff_eq] at hl ⊢
    rcases hl with hl | rfl
    · exact .inl (hI.down j oj hj hl d hd)
    · rw [ho] at hj; injection hj with hj; subst hj; exact .inl (hdeps d hd)
  -- the slots behind it
  have hdone : ∀ q, ((row[q]?).elim false fun j => (listed.setIfInBounds i true).getD j false) = (((row[q]?).elim false fun j => listed.getD j false) || q == p) := by
    intro q
    cases hq : row[q]? with
    | none =>
      have : q ≠ p := fun e => by subst e; rw [hp] at hq; cases hq
      simp [this]
    | some j =>
      simp only [Option.elim_some]
      rw [hset]
      by_cases hqp : q = p
      · subst hqp; rw [hp] at hq; injection hq with hq; subst hq; simp
      · have h1 : (j == i) = false := by simpa using fun e : j = i => hqp (L.apart q p i (e ▸ hq) hp)
        have h2 : (q == p) = false := by simpa using hqp
        rw [h1, h2]
  have hslots : ∀ (n : Nat) (r' : Nat → Rec), p < n → (∀ q, q < m → (r' q).v = (r q).v) → m ≤ n → ∀ (v : Value), (r' p).v = v → (∀ q, m ≤ q → q < n → q ≠ p → ((row[q]?).elim false fun j => listed.getD j false) = false) →
      ∀ t, t < a0.tmps.size → (a.put o.dst v).tmps.getD t undef = slotAt (dstAt ops row) (fun j => (r' j).v) (fun q => (row[q]?).elim false fun j => (listed.setIfInBounds i true).getD j false) a0 t n := by
    intro n r' hpn hr' hmn v hv hlat t htl
    rw [put_getD _ _ _ _ (by rw [hI.tmps]; exact htl), hI.slots t htl]
    have h1 := slotAt_set (dst := dstAt ops row) (val := fun j => (r' j).v) (D := fun q => (row[q]?).elim false fun j => listed.getD j false) (a0 := a0) (i := p) (t := t) (fun q hpq hd hdo => by
      obtain ⟨j, oj, g1, g2, g3⟩ := dstAt_some hd
      rw [dstAt_of hp ho] at hdo
      have hb := L.meet p q i j o oj hpq hp g1 ho g2 (.inr (.inl ⟨t, g3, List.mem_append_right _ (by simp [hdo])⟩))
      have hnd : ¬ listed.getD j false = true := fun hl => by
        have := mask_done (D := fun x => listed.getD x false = true) hI.down j oj g2 (hI.down j oj g2 hl) i hb
        rw [hunf] at this; exact Bool.noConfusion this
      simpa [g1] using hnd) n hpn
    rw [slotAt_congr (D' := fun q => ((row[q]?).elim false fun j => listed.getD j false) || q == p) (val' := fun j => (r' j).v) n (fun q _ _ => ⟨hdone q, rfl⟩), h1, dstAt_of hp ho]
    by_cases hd : o.dst = some t
    · rw [if_pos hd, if_pos hd, hv]
    · rw [if_neg hd, if_neg hd]
      rw [slotAt_cut (m := m) (val := fun j => (r' j).v) n hmn (fun q h1 h2 hdq => by
        by_cases hqp : q = p
        · subst hqp; rw [dstAt_of hp ho] at hdq; exact absurd hdq hd
        · exact hlat q h1 h2 hqp)]
      exact slotAt_congr m fun q hq _ => ⟨rfl, (hr' q hq).symm⟩
  unfold wpOp
  simp only [ho]
  rcases Nat.lt_or_ge p m with hlt' | hge
  · -- a quiet one
    have hg := (hI.open' p i o hlt' hp ho).resolve_left (by rw [hunf]; exact Bool.noConfusion)
    have hafter : ∀ w', E w w' → ∃ m' r' w1', Inv P ops effs row S E Q a0 (listed.setIfInBounds i true) (a.put o.dst (r p).v) w' m' r' w1' := by
      intro w' hE
      refine ⟨m, r, w1, by simp [hI.size], hdown', by rw [put_size, hI.tmps], by rw [put_defers', hI.defers], hI.start, hI.steps, ?_, ?_, hI.front, ?_, ht _ _ _ hI.grown hE, hS _ _ hI.cls hE⟩
      · intro q j oj hq hj hoj
        rcases hI.open' q j oj hq hj hoj with h | h
        · exact .inl (by rw [hset, h]; rfl)
        · exact .inr h
      · intro q j hq hj
        have hji : j ≠ i := fun e => by have := L.apart q p i (e ▸ hj) hp; omega
        rw [hset, hI.later q j hq hj]; simp [hji]
      · exact hslots m r hlt' (fun _ _ => rfl) (Nat.le_refl _) _ rfl (fun q h1 h2 _ => by omega)
    obtain ⟨g1, g2, g3⟩ := hg
    rw [hwant, g1]
    cases hwt : (r p).want with
    | false =>
      simp only [Bool.false_eq_true, if_false]
      obtain ⟨m', r', w1', hI'⟩ := hafter w (hr w)
      rw [g3 hwt] at hI'
      exact ⟨m', r', w1', hI'⟩
    | true =>
      simp only [if_true]
      have h1 := g2 hwt w hI.cls
      rw [← hexec] at h1
      exact .inl (h1.wp fun w' hk => hafter w' hk)
  · -- the effect at the front
    have hpm' : p = m := by omega
    subst hpm'
    rcases hI.front with ⟨hnil, _⟩ | ⟨i', l', o', hl, ho', he, hwt, hE⟩
    · have := List.drop_eq_nil_iff.1 hnil
      have := (List.getElem?_eq_some_iff.1 hp).1
      omega
    · have hm' : row[p]? = some i' := by have := congrArg (fun l : List Nat => l[0]?) hl; simpa using this
      rw [hp] at hm'; injection hm' with hm'; subst hm'
      rw [ho] at ho'; injection ho' with ho'; subst ho'
      rw [hwant, hwt]
      simp only [if_true]
      have h1 := hE w hI.grown
      rw [← hexec] at h1
      refine .inl (h1.wp fun v w' ⟨hs, hlex⟩ => ?_)
      obtain ⟨q, r', g1, g2, g3, g4⟩ := lexR_front l' _ hlex
      have hl' : l' = row.drop (p + 1) := by
        have := congrArg (List.drop 1) hl
        simpa [List.drop_drop] using this.symm
      have hget : ∀ x, l'[x]? = row[p + 1 + x]? := fun x => by rw [hl', List.getElem?_drop]
      let r2 : Nat → Rec := fun x => if x < p then r x else if x = p then ⟨true, v, (r p).a⟩ else r' (x - (p + 1))
      have e1 : ∀ x, x < p → r2 x = r x := fun x hx => by simp [r2, hx]
      have e2 : r2 p = ⟨true, v, (r p).a⟩ := by simp [r2]
      have e3 : ∀ x, r2 (p + 1 + x) = r' x := fun x => by
        have h1 : ¬ p + 1 + x < p := by omega
        have h2 : ¬ p + 1 + x = p := by omega
        simp only [r2, h1, h2, if_false]
        congr 1; omega
      refine ⟨p + 1 + q, r2, w', by simp [hI.size], hdown', by rw [put_size, hI.tmps], by rw [put_defers', hI.defers], ?_, ?_, ?_, ?_, ?_, ?_, hr w', hs⟩
      · by_cases h0 : 0 < p
        · rw [e1 0 h0]; exact hI.start
        · have : p = 0 := by omega
          subst this; rw [e2]; exact hI.start
      · intro x hx
        by_cases hxp : x < p
        · rw [e1 x hxp]
          by_cases hxs : x + 1 < p
          · rw [e1 _ hxs]; exact hI.steps x hxp
          · have : x + 1 = p := by omega
            rw [this, e2]; have := hI.steps x hxp; rwa [show x + 1 = p by omega] at this
        · by_cases hxe : x = p
          · subst hxe
            have := e3 0
            rw [Nat.add_zero] at this
            rw [this, e2, g2, dstAt_of hp ho]
          · obtain ⟨y, rfl⟩ : ∃ y, x = p + 1 + y := ⟨x - (p + 1), by omega⟩
            obtain ⟨j, oj, k1, k2, k3, k4⟩ := g3 y (by omega)
            rw [show p + 1 + y + 1 = p + 1 + (y + 1) by omega, e3, e3, k4, dstAt_of (by rw [← hget]; exact k1) k2]
      · intro x j oj hx hj hoj
        by_cases hxp : x < p
        · rw [e1 x hxp]
          rcases hI.open' x j oj hxp hj hoj with h | h
          · exact .inl (by rw [hset, h]; rfl)
          · exact .inr h
        · by_cases hxe : x = p
          · subst hxe; rw [hp] at hj; injection hj with hj; subst hj; exact .inl (by rw [hset]; simp)
          · obtain ⟨y, rfl⟩ : ∃ y, x = p + 1 + y := ⟨x - (p + 1), by omega⟩
            obtain ⟨j', oj', k1, k2, k3, k4⟩ := g3 y (by omega)
            rw [hget, hj] at k1; injection k1 with k1; subst k1
            rw [hoj] at k2; injection k2 with k2; subst k2
            rw [e3]; exact .inr k3
      · intro x j hx hj
        have hji : j ≠ i := fun e => by have := L.apart x p i (e ▸ hj) hp; omega
        rw [hset, hI.later x j (by omega) hj]; simp [hji]
      · have : (r2 (p + 1 + q)).a = (r' q).a := by rw [e3]
        rw [this, show row.drop (p + 1 + q) = l'.drop q by rw [hl', List.drop_drop]]
        exact g4
      · refine hslots (p + 1 + q) r2 (by omega) (fun x hx => by rw [e1 x hx]) (by omega) v (by rw [e2]) (fun x h1 h2 hne => ?_)
        cases hj : row[x]? with
        | none => rfl
        | some j => exact hI.later x j (by omega) hj

/-- How many are still to come. -/
def undone (listed : Array Bool) : Nat → Nat
  | 0 => 0
  | n + 1 => undone listed n + if listed.getD n true then 0 else 1

theorem undone_le_set {listed : Array Bool} {i : Nat} (hi : listed.getD i true = false) : ∀ n, i < n → i < listed.size → undone (listed.setIfInBounds i true) n + 1 = undone listed n
  | 0, h, _ => by omega
  | n + 1, h, hl => by
    by_cases he : i = n
    · subst he
      have : ∀ m, m ≤ i → undone (listed.setIfInBounds i true) m = undone listed m := by
        intro m hm
        induction m with
        | zero => rfl
        | succ m ih => rw [undone, undone, ih (by omega), getD_set_ne true (by omega)]
      rw [undone, undone, this i (Nat.le_refl _), hi]; simp [hl]
    · have ih := undone_le_set hi n (by omega) hl
      rw [undone, undone, getD_set_ne true he]; omega

theorem undone_zero {listed : Array Bool} : ∀ n, undone listed n = 0 → ∀ i, i < n → listed.getD i true = true
  | 0, _, _, h => by omega
  | n + 1, hz, i, h => by
    rw [undone] at hz
    have h1 : undone listed n = 0 := by omega
    have h2 : (if listed.getD n true = true then 0 else 1) = 0 := by omega
    by_cases he : i = n
    · subst he
      cases hb : listed.getD i true
      · rw [hb] at h2; simp at h2
      · rfl
    · exact undone_zero n h1 i (by omega)

theorem ready_some (hB : linB ops effs row = true) {listed : Array Bool} (hnil : Region.ready .any ops listed = []) : ∀ i, i < ops.size → listed.getD i true = true := by
  intro i
  induction i using Nat.strongRecOn with
  | _ i ih =>
    intro hlt
    cases hb : listed.getD i true
    · exfalso
      have : i ∈ Region.ready .any ops listed := mem_ready.2 ⟨hb, _, Array.getElem?_eq_getElem hlt, fun e he hbd => by
        have hd := (linB_spec hB).deps i _ (Array.getElem?_eq_getElem hlt) e.on (mem_deps he hbd)
        have := ih e.on hd (by omega)
        cases hf : listed.getD e.on false
        · rcases Nat.lt_or_ge e.on listed.size with h | h
          · rw [getD_ff h false true, this] at hf; exact Bool.noConfusion hf
          · have hli : listed.size ≤ i := by omega
            simp [Array.getElem?_eq_none hli] at hb
        · rfl⟩
      rw [hnil] at this
      cases this
    · rfl

theorem wpAny_lin (hB : linB ops effs row = true) {Q : Exit → Act → World → Prop} {a0 : Act}
    (hr : ∀ w, E w w) (ht : ∀ a b c, E a b → E b c → E a c) (hS : ∀ w w', S w → E w w' → S w') :
    ∀ (fuel : Nat) (listed : Array Bool) (a : Act) (w : World), undone listed ops.size ≤ fuel → (∃ m r w1, Inv P ops effs row S E (fun a w => Q .normal a w) a0 listed a w m r w1) → wpAny P .any ops Q fuel listed a w := by
  have L := linB_spec hB
  have hend : ∀ (listed : Array Bool) (a : Act) (w : World), (∀ i, i < ops.size → listed.getD i true = true) → (∃ m r w1, Inv P ops effs row S E (fun a w => Q .normal a w) a0 listed a w m r w1) → Q .normal a w := by
    rintro listed a w hall ⟨m, r, w1, hI⟩
    have hall' : ∀ (p i : Nat), row[p]? = some i → listed.getD i false = true := fun p i hi => by
      have := L.bound p i hi
      rw [getD_ff (by rw [hI.size]; exact this) false true]; exact hall i this
    rcases hI.front with ⟨hnil, hq⟩ | ⟨i', l', o', hl, _, _, _, _⟩
    · have hle := List.drop_eq_nil_iff.1 hnil
      obtain ⟨hw1, hw2, hw3⟩ := walk_slots hI.start hI.steps m (Nat.le_refl _)
      have ha : a = (r m).a := act_ext (by rw [hI.tmps, hw1]) (by rw [hI.defers, hw2]) fun t ht => by
        have ht' : t < a0.tmps.size := by rw [← hI.tmps]; exact ht
        rw [hI.slots t ht', hw3 t ht']
        refine slotAt_congr _ fun p hp hd => ⟨?_, rfl⟩
        obtain ⟨j, oj, g1, g2, g3⟩ := dstAt_some hd
        simp only [g1, Option.elim_some]
        exact hall' p j g1
      rw [ha]
      exact hq w hI.grown
    · have hm' : row[m]? = some i' := by have := congrArg (fun l : List Nat => l[0]?) hl; simpa using this
      have := hI.later m i' (Nat.le_refl _) hm'
      rw [hall' m i' hm'] at this
      exact Bool.noConfusion this
  intro fuel
  induction fuel with
  | zero =>
    intro listed a w hf hI
    have hall := undone_zero ops.size (Nat.le_zero.1 hf)
    refine ⟨?_, hend listed a w hall hI⟩
    cases hrd : Region.ready .any ops listed with
    | nil => rfl
    | cons x xs =>
      exfalso
      obtain ⟨hx, o, ho, _⟩ := mem_ready.1 (show x ∈ Region.ready .any ops listed by rw [hrd]; exact List.mem_cons_self)
      rw [hall x (Array.getElem?_eq_some_iff.1 ho).1] at hx
      exact Bool.noConfusion hx
  | succ fuel ih =>
    intro listed a w hf hI
    refine ⟨fun hnil => hend listed a w (ready_some hB hnil) hI, fun i hi => ?_⟩
    obtain ⟨m, r, w1, hI'⟩ := hI
    refine wpOp_mono (fun a' w' h => ih _ a' w' ?_ h) (inv_step hB hr ht hS hI' hi)
    obtain ⟨hun, o, ho, _⟩ := mem_ready.1 hi
    have hlt := (Array.getElem?_eq_some_iff.1 ho).1
    have := undone_le_set hun ops.size hlt (by rw [hI'.size]; exact hlt)
    omega

theorem undone_replicate (n m : Nat) : undone (Array.replicate n false) m ≤ m := by
  induction m with
  | zero => exact Nat.le_refl _
  | succ m ih => rw [undone]; split <;> omega

/-- ONE WALK SERVES EVERY ORDER. -/
theorem wp_region_lin {id : Nat} {Q : Exit → Act → World → Prop} {a : Act} {w : World} (effs row : List Nat) (S : World → Prop) (E : World → World → Prop)
    (hm : P.follows .mixedOrders = true) (hB : linB ops effs row = true)
    (hr : ∀ w, E w w) (ht : ∀ a b c, E a b → E b c → E a c) (hS : ∀ w w', S w → E w w' → S w') (h0 : S w.drew)
    (h : LexR P ops effs S E (fun a w => Q .normal a w) row a w.drew) : (Code.region id ops true).wp P Q a w := by
  refine wp_region_any hm (wpAny_lin hB (a0 := a) hr ht hS ops.size _ a _ (undone_replicate _ _) ?_)
  obtain ⟨q, r, h1, h2, h3, h4⟩ := lexR_front row a h
  have hno : ∀ i, (Array.replicate ops.size false).getD i false = false := fun i => by
    rcases Nat.lt_or_ge i ops.size with h | h <;> simp [h]
  refine ⟨q, r, w.drew, by simp, ?_, rfl, rfl, h2, ?_, ?_, fun p i _ _ => hno i, h4, ?_, hr _, h0⟩
  · intro i o _ hl; rw [hno] at hl; exact Bool.noConfusion hl
  · intro p hp; obtain ⟨i, o, g1, g2, _, g4⟩ := h3 p hp; rw [g4, dstAt_of g1 g2]
  · intro p i o hp hi ho; obtain ⟨i', o', g1, g2, g3, _⟩ := h3 p hp
    rw [hi] at g1; injection g1 with g1; subst g1
    rw [ho] at g2; injection g2 with g2; subst g2
    exact .inr g3
  · intro t _
    have : ∀ n, slotAt (dstAt ops row) (fun j => (r j).v) (fun p => (row[p]?).elim false fun i => (Array.replicate ops.size false).getD i false) a t n = a.tmps.getD t undef := by
      intro n
      induction n with
      | zero => rfl
      | succ n ih =>
        rw [slotAt, if_neg, ih]
        rintro ⟨hd, _⟩
        cases hn : row[n]? with
        | none => simp [hn] at hd
        | some i => rw [hn] at hd; simp only [Option.elim_some] at hd; rw [hno] at hd; exact Bool.noConfusion hd
    exact (this _).symm
end

/-! ### the walk over a family of worlds: facts on its worlds are plain rules -/

section
variable (P : Program) (ops : Array Oper) (effs : List Nat) {X : Type} (f : X → World) (S : World → Prop) (E : World → World → Prop) (Q : Act → World → Prop)
def LexX : List Nat → Act → World → Prop
  | [], a, w1 => ∀ w, E w1 w → Q a w
  | i :: l, a, w1 => match ops[i]? with
    | none => False
    | some o =>
      if Region.wanted o (yielded ops a.tmps) then
        if effs.contains i then ∀ w, E w1 w → UponR P (fun v w' => S w' ∧ LexX l (a.put o.dst v) w') ((execOp a.eval o).run P w)
        else ∃ v, (∀ x, Upon P v (E (f x)) ((execOp a.eval o).run P (f x))) ∧ LexX l (a.put o.dst v) w1
      else LexX l (a.put o.dst undef) w1
end

section
variable {P : Program} {ops : Array Oper} {effs : List Nat} {X : Type} {f : X → World} {S : World → Prop} {E : World → World → Prop} {Q : Act → World → Prop} {o : Oper} {l : List Nat} {i : Nat} {a : Act} {w1 : World}
theorem lexX_nil (h : ∀ w, E w1 w → Q a w) : LexX P ops effs f S E Q [] a w1 := h
/-- A quiet operation. -/
theorem lexX_step {lops : List Oper} (ho : lops[i]? = some o) (he : effs.contains i = false) (h : ∀ K : Act → Prop, (∀ a, LexX P lops.toArray effs f S E Q l a w1 → K a) →
    if Region.wanted o (yielded lops.toArray a.tmps) then ∃ v, (∀ x, Upon P v (E (f x)) ((execOp a.eval o).run P (f x))) ∧ K (a.put o.dst v)
    else K (a.put o.dst undef)) : LexX P lops.toArray effs f S E Q (i :: l) a w1 := by
  have ho' : lops.toArray[i]? = some o := by simpa using ho
  have := h _ (fun _ h => h)
  simp only [LexX, ho']
  by_cases hw : Region.wanted o (yielded lops.toArray a.tmps) = true
  · rw [if_pos hw] at this ⊢; rw [if_neg (by rw [he]; exact Bool.noConfusion)]; exact this
  · rw [if_neg hw] at this ⊢; exact this
/-- An effect. -/
theorem lexX_eff {lops : List Oper} (ho : lops[i]? = some o) (he : effs.contains i = true) (h : ∀ K : Act → World → Prop, (∀ a w, LexX P lops.toArray effs f S E Q l a w → K a w) →
    if Region.wanted o (yielded lops.toArray a.tmps) then ∀ w, E w1 w → UponR P (fun v w' => S w' ∧ K (a.put o.dst v) w') ((execOp a.eval o).run P w)
    else K (a.put o.dst undef) w1) : LexX P lops.toArray effs f S E Q (i :: l) a w1 := by
  have ho' : lops.toArray[i]? = some o := by simpa using ho
  have := h _ (fun _ _ h => h)
  simp only [LexX, ho']
  by_cases hw : Region.wanted o (yielded lops.toArray a.tmps) = true
  · rw [if_pos hw] at this ⊢; rw [if_pos he]; exact this
  · rw [if_neg hw] at this ⊢; exact this

/-- An effect without a guard: the world that it meets comes first. -/
theorem lexX_effp {lops : List Oper} (ho : lops[i]? = some o) (he : effs.contains i = true) (hg : o.guard = none) (h : ∀ w, E w1 w → ∀ K : Act → World → Prop, (∀ a w, LexX P lops.toArray effs f S E Q l a w → K a w) →
    UponR P (fun v w' => S w' ∧ K (a.put o.dst v) w') ((execOp a.eval o).run P w)) : LexX P lops.toArray effs f S E Q (i :: l) a w1 :=
  lexX_eff ho he fun K hK => by rw [if_pos (by simp [Region.wanted, hg])]; exact fun w hw => h w hw K hK

theorem UponR.mono {K K' : Value → World → Prop} (h : ∀ v w, K v w → K' v w) {r : Result Next} (hr : UponR P K r) : UponR P K' r := by
  cases r with
  | ok n w => cases n <;> simp only [UponR] at hr ⊢ <;> first | exact h _ _ hr | exact hr.mono fun e w' ⟨v, he, hk⟩ => ⟨v, he, h _ _ hk⟩
  | halt x w => exact hr

theorem lexR_of_lexX : ∀ (l : List Nat) (a : Act) (w1 : World), LexX P ops effs (fun x : { w : World // S w } => x.1) S E Q l a w1 → LexR P ops effs S E Q l a w1
  | [], _, _, h => h
  | i :: l, a, w1, h => by
    simp only [LexX] at h
    simp only [LexR]
    cases ho : ops[i]? with
    | none => rw [ho] at h; exact h
    | some o =>
      rw [ho] at h
      simp only [] at h ⊢
      by_cases hw : Region.wanted o (yielded ops a.tmps) = true
      · rw [if_pos hw] at h ⊢
        by_cases he : effs.contains i = true
        · rw [if_pos he] at h ⊢
          exact fun w hE => (h w hE).mono fun v w' ⟨h1, h2⟩ => ⟨h1, lexR_of_lexX l _ _ h2⟩
        · rw [if_neg he] at h ⊢
          obtain ⟨v, h1, h2⟩ := h
          exact ⟨v, fun w hw => h1 ⟨w, hw⟩, lexR_of_lexX l _ _ h2⟩
      · rw [if_neg hw] at h ⊢
        exact lexR_of_lexX l _ _ h
end

/-- The region's law, for a region whose operations are written out, and over a family of worlds of which S holds. -/
theorem wp_region_lit_lin {P : Program} {id : Nat} {Q : Exit → Act → World → Prop} {a : Act} {w : World} {l : List Oper} (effs row : List Nat) (S : World → Prop) (E : World → World → Prop)
    (hm : P.follows .mixedOrders = true) (hB : linB l.toArray effs row = true)
    (hr : ∀ w, E w w) (ht : ∀ a b c, E a b → E b c → E a c) (hS : ∀ w w', S w → E w w' → S w') (h0 : S w.drew)
    (h : ∀ (X : Type) [Nonempty X] (f : X → World), (∀ x, S (f x)) → LexX P l.toArray effs f S E (fun a w => Q .normal a w) row a w.drew) : (Code.region id l.toArray true).wp P Q a w := by
  refine wp_region_lin effs row S E hm hB hr ht hS h0 (lexR_of_lexX _ _ _ ?_)
  haveI : Nonempty { w : World // S w } := ⟨⟨_, h0⟩⟩
  exact h { w : World // S w } (fun x => x.1) (fun x => x.2)

attribute [irreducible] LexX LexR

end Go.Proofs.Ytceddijolfpppaa
