/-
  A region that draws its order, with calls that make memory or do accesses one behind the other: one walk in the order of the text serves every order.
  Condition: the Bool linB, which the kernel asks of the region's operations.
-/
import Derived.Orders
import Derived.OrdersHeld
import Derived.Still
import Derived.Tactics
import Derived.Below
import Derived.Test.YtjdbknnacaacaaaRows
import Derived.WalkKit
import Derived.WalkSpells
import Derived.WalkLawsBesides
import Derived.BigQuiet
import Derived.Deep.MidRow
import Derived.Deep.RegionHeld3
namespace Go.Proofs.Ytjdbknnacaacaaa
open Go
set_option linter.unusedSimpArgs false
set_option linter.unusedVariables false
def depsOf (o : Oper) : List Nat := (o.after.toList.filter (fun e => Region.binds .any e)).map (·.on)
def maskOf (acc : List Nat) (o : Oper) : Nat := (depsOf o).foldl (fun s d => s ||| 2 ^ d ||| acc.getD d 0) 0
def masksFrom : List Oper → List Nat → List Nat
  | [], acc => acc
  | o :: l, acc => masksFrom l (acc ++ [maskOf acc o])
def namesOf (ops : Array Oper) (o : Oper) : List Tmp := o.looksAt ops ++ o.dst.toList
def pairB (ops : Array Oper) (effs : List Nat) (ms : List Nat) (i j : Nat) : Bool :=
  match ops[i]?, ops[j]? with
  | some oi, some oj =>
    let meet := (match oi.dst with | some d => (namesOf ops oj).contains d | none => false) || (match oj.dst with | some d => (namesOf ops oi).contains d | none => false) || effs.contains i
    i != j && (!meet || (ms.getD j 0).testBit i)
  | _, _ => false
def pairsB (ops : Array Oper) (effs : List Nat) (ms : List Nat) : List Nat → Bool
  | [] => true
  | i :: l => l.all (pairB ops effs ms i) && pairsB ops effs ms l
def linB (ops : Array Oper) (effs : List Nat) (row : List Nat) : Bool :=
  Region.noSelect ops && ((List.range ops.size).all fun j => row.contains j && match ops[j]? with
    | none => true
    | some oj => (depsOf oj).all (fun d => decide (d < j))) && row.all (fun i => decide (i < ops.size)) && pairsB ops effs (masksFrom ops.toList []) row
theorem foldl_or_testBit (f : Nat → Nat) (k : Nat) : ∀ (l : List Nat) (s : Nat), (l.foldl (fun s d => s ||| 2 ^ d ||| f d) s).testBit k = true →
    s.testBit k = true ∨ ∃ d ∈ l, d = k ∨ (f d).testBit k = true
  | [], s, h => .inl h
  | d :: l, s, h => by
    rcases foldl_or_testBit f k l _ h with h | ⟨e, he, h⟩
    · rw [Nat.testBit_or, Nat.testBit_or, Bool.or_eq_true, Bool.or_eq_true] at h
      rcases h with (h | h) | h
      · exact .inl h
      · rw [Nat.testBit_two_pow] at h
        exact .inr ⟨d, List.mem_cons_self, .inl (by simpa using h)⟩
      · exact .inr ⟨d, List.mem_cons_self, .inr h⟩
    · exact .inr ⟨e, List.mem_cons_of_mem _ he, h⟩
theorem masksFrom_keeps : ∀ (l : List Oper) (acc : List Nat) (i : Nat), i < acc.length → (masksFrom l acc).getD i 0 = acc.getD i 0
  | [], _, _, _ => rfl
  | o :: l, acc, i, h => by
    rw [masksFrom, masksFrom_keeps l _ i (by simp; omega)]
    simp [List.getElem?_append_left h]
theorem masksFrom_at : ∀ (l : List Oper) (acc : List Nat) (i : Nat) (o : Oper), l[i]? = some o → ∃ acc' : List Nat, acc'.length = acc.length + i ∧ (∀ k, k < acc'.length → acc'.getD k 0 = (masksFrom l acc).getD k 0) ∧
    (masksFrom l acc).getD (acc.length + i) 0 = maskOf acc' o
  | [], _, _, _, h => by simp at h
  | o :: l, acc, 0, o', h => by
    simp at h; subst h
    refine ⟨acc, rfl, fun k hk => ?_, ?_⟩
    · rw [masksFrom, masksFrom_keeps l _ k (by simp; omega)]; simp [List.getElem?_append_left hk]
    · rw [masksFrom, masksFrom_keeps l _ _ (by simp)]; simp
  | o :: l, acc, i + 1, o', h => by
    obtain ⟨acc', h1, h2, h3⟩ := masksFrom_at l (acc ++ [maskOf acc o]) i o' (by simpa using h)
    refine ⟨acc', by rw [h1]; simp; omega, fun k hk => by rw [masksFrom]; exact h2 k hk, ?_⟩
    rw [masksFrom, ← h3]; congr 1; simp; omega
theorem mask_done {ops : Array Oper} {D : Nat → Prop} (hdn : ∀ i o, ops[i]? = some o → D i → ∀ d ∈ depsOf o, D d) :
    ∀ (i : Nat) (o : Oper), ops[i]? = some o → (∀ d ∈ depsOf o, D d) → ∀ k, ((masksFrom ops.toList []).getD i 0).testBit k = true → D k := by
  intro i
  induction i using Nat.strongRecOn with
  | _ i ih =>
    intro o ho hd k hk
    obtain ⟨acc, hlen, hat, hm⟩ := masksFrom_at ops.toList [] i o (by simpa using ho)
    simp at hlen
    simp only [List.length_nil, Nat.zero_add] at hm
    rw [hm] at hk
    rcases foldl_or_testBit (fun d => acc.getD d 0) k _ _ hk with h | ⟨d, hdm, h⟩
    · simp at h
    · rcases h with rfl | h
      · exact hd _ hdm
      · rcases Nat.lt_or_ge d i with hlt | hge
        · have hlt' : d < ops.size := Nat.lt_trans hlt (Array.getElem?_eq_some_iff.1 ho).1
          have h' : (acc.getD d 0).testBit k = true := h
          rw [hat d (by omega)] at h'
          exact ih d hlt _ (Array.getElem?_eq_getElem hlt') (hdn d _ (Array.getElem?_eq_getElem hlt') (hd d hdm)) k h'
        · have : acc.getD d 0 = 0 := by simp [List.getElem?_eq_none (show acc.length ≤ d by omega)]
          simp only [this] at h
          simp at h
def Upon (P : Program) (v : Value) (K : World → Prop) : Result Next → Prop
  | .ok (.value u) w => u = v ∧ K w
  | .ok .skip w => v = undef ∧ K w
  | .ok (.enter f args) w => Calls P f args w (fun e w' => e = .returned v ∧ K w')
  | _ => False
def UponR (P : Program) (K : Value → World → Prop) : Result Next → Prop
  | .ok (.value u) w => K u w
  | .ok .skip w => K undef w
  | .ok (.enter f args) w => Calls P f args w (fun e w' => ∃ v, e = .returned v ∧ K v w')
  | _ => False
attribute [go_sem] Upon UponR
section
variable (P : Program) (ops : Array Oper) (effs : List Nat) (S : World → Prop) (E : World → World → Prop) (Q : Act → World → Prop)
def LexR : List Nat → Act → World → Prop
  | [], a, w1 => ∀ w, E w1 w → Q a w
  | i :: l, a, w1 => match ops[i]? with
    | none => False
    | some o =>
      if Region.wanted o (yielded ops a.tmps) then
        if effs.contains i then ∀ w, E w1 w → UponR P (fun v w' => S w' ∧ LexR l (a.put o.dst v) w') ((execOp a.eval o).run P w)
        else ∃ v, (∀ w, S w → Upon P v (E w) ((execOp a.eval o).run P w)) ∧ LexR l (a.put o.dst v) w1
      else LexR l (a.put o.dst undef) w1
end
structure Rec where
  want : Bool
  v : Value
  a : Act
def Rec.good (P : Program) (ops : Array Oper) (S : World → Prop) (E : World → World → Prop) (o : Oper) (r : Rec) : Prop :=
  Region.wanted o (yielded ops r.a.tmps) = r.want ∧
  (r.want = true → ∀ w, S w → Upon P r.v (E w) ((execOp r.a.eval o).run P w)) ∧ (r.want = false → r.v = undef)
def Front (P : Program) (ops : Array Oper) (effs : List Nat) (S : World → Prop) (E : World → World → Prop) (Q : Act → World → Prop) (l : List Nat) (a : Act) (w1 : World) : Prop :=
  (l = [] ∧ ∀ w, E w1 w → Q a w) ∨
  ∃ i l' o, l = i :: l' ∧ ops[i]? = some o ∧ effs.contains i = true ∧ Region.wanted o (yielded ops a.tmps) = true ∧
    ∀ w, E w1 w → UponR P (fun v w' => S w' ∧ LexR P ops effs S E Q l' (a.put o.dst v) w') ((execOp a.eval o).run P w)
theorem lexR_front {P : Program} {ops : Array Oper} {effs : List Nat} {S : World → Prop} {E : World → World → Prop} {Q : Act → World → Prop} {w1 : World} :
    ∀ (l : List Nat) (a : Act), LexR P ops effs S E Q l a w1 →
    ∃ (q : Nat) (r : Nat → Rec), q ≤ l.length ∧ (r 0).a = a ∧ (∀ p, p < q → ∃ i o, l[p]? = some i ∧ ops[i]? = some o ∧ (r p).good P ops S E o ∧ (r (p + 1)).a = (r p).a.put o.dst (r p).v) ∧
      Front P ops effs S E Q (l.drop q) (r q).a w1
  | [], a, h => ⟨0, fun _ => ⟨false, undef, a⟩, Nat.le_refl _, rfl, fun p hp => by omega, .inl ⟨rfl, h⟩⟩
  | i :: l, a, h => by
    simp only [LexR] at h
    cases ho : ops[i]? with
    | none => rw [ho] at h; exact h.elim
    | some o =>
      rw [ho] at h
      simp only [] at h
      have key : ∀ r0 : Rec, r0.a = a → r0.good P ops S E o → LexR P ops effs S E Q l (a.put o.dst r0.v) w1 →
          ∃ (q : Nat) (r : Nat → Rec), q ≤ (i :: l).length ∧ (r 0).a = a ∧ (∀ p, p < q → ∃ i' o', (i :: l)[p]? = some i' ∧ ops[i']? = some o' ∧ (r p).good P ops S E o' ∧ (r (p + 1)).a = (r p).a.put o'.dst (r p).v) ∧
            Front P ops effs S E Q ((i :: l).drop q) (r q).a w1 := by
        intro r0 ha hg hl
        obtain ⟨q, r, h1, h2, h3, h4⟩ := lexR_front l _ hl
        refine ⟨q + 1, fun p => match p with | 0 => r0 | p + 1 => r p, by simp; omega, ha, ?_, by simpa using h4⟩
        intro p hp
        cases p with
        | zero => exact ⟨i, o, rfl, ho, hg, by show (r 0).a = _; rw [h2, ha]⟩
        | succ p => obtain ⟨i', o', g1, g2, g3, g4⟩ := h3 p (by omega); exact ⟨i', o', by simpa using g1, g2, g3, g4⟩
      by_cases hw : Region.wanted o (yielded ops a.tmps) = true
      · rw [if_pos hw] at h
        by_cases he : effs.contains i = true
        · rw [if_pos he] at h
          exact ⟨0, fun _ => ⟨false, undef, a⟩, Nat.zero_le _, rfl, fun p hp => by omega, .inr ⟨i, l, o, rfl, ho, he, hw, h⟩⟩
        · rw [if_neg he] at h
          obtain ⟨v, h1, h2⟩ := h
          exact key ⟨true, v, a⟩ rfl ⟨hw, fun _ => h1, fun h0 => Bool.noConfusion h0⟩ h2
      · rw [if_neg hw] at h
        exact key ⟨false, undef, a⟩ rfl ⟨by simpa using hw, fun h0 => Bool.noConfusion h0, fun _ => rfl⟩ h
def dstAt (ops : Array Oper) (row : List Nat) (p : Nat) : Option Tmp := ((row[p]?).bind (ops[·]?)).bind (·.dst)
def slotAt (dst : Nat → Option Tmp) (val : Nat → Value) (D : Nat → Bool) (a0 : Act) (t : Nat) : Nat → Value
  | 0 => a0.tmps.getD t undef
  | n + 1 => if D n = true ∧ dst n = some t then val n else slotAt dst val D a0 t n
theorem put_getD (a : Act) (d : Option Tmp) (v : Value) (t : Nat) (ht : t < a.tmps.size) : (a.put d v).tmps.getD t undef = if d = some t then v else a.tmps.getD t undef := by
  cases d with
  | none => simp [Act.put]
  | some d =>
    by_cases h : d = t
    · subst h; simp [Act.put, ht]
    · have : ¬ (some d = some t) := by simpa using h
      rw [if_neg this]; simp [Act.put, Array.getElem?_setIfInBounds_ne h]
theorem put_size (a : Act) (d : Option Tmp) (v : Value) : (a.put d v).tmps.size = a.tmps.size := by cases d <;> simp [Act.put]
theorem put_defers' (a : Act) (d : Option Tmp) (v : Value) : (a.put d v).defers = a.defers := by cases d <;> rfl
theorem slotAt_congr {dst : Nat → Option Tmp} {val val' : Nat → Value} {D D' : Nat → Bool} {a0 : Act} {t : Nat} : ∀ n, (∀ j, j < n → dst j = some t → D j = D' j ∧ val j = val' j) → slotAt dst val D a0 t n = slotAt dst val' D' a0 t n
  | 0, _ => rfl
  | n + 1, h => by
    have ih := slotAt_congr (a0 := a0) n (fun j hj => h j (Nat.lt_succ_of_lt hj))
    by_cases hd : dst n = some t
    · simp only [slotAt, hd, (h n (Nat.lt_succ_self n) hd).1, (h n (Nat.lt_succ_self n) hd).2, ih]
    · simp only [slotAt, hd, and_false, if_false, ih]
theorem slotAt_cut {dst : Nat → Option Tmp} {val : Nat → Value} {D : Nat → Bool} {a0 : Act} {t m : Nat} : ∀ n, m ≤ n → (∀ j, m ≤ j → j < n → dst j = some t → D j = false) → slotAt dst val D a0 t n = slotAt dst val D a0 t m
  | 0, hm, _ => by rw [Nat.le_zero.1 hm]
  | n + 1, hm, h => by
    by_cases he : m = n + 1
    · rw [he]
    · have ih := slotAt_cut (val := val) (a0 := a0) n (by omega) (fun j h1 h2 => h j h1 (Nat.lt_succ_of_lt h2))
      rw [slotAt, if_neg, ih]
      rintro ⟨h1, h2⟩
      rw [h n (by omega) (Nat.lt_succ_self n) h2] at h1
      exact Bool.noConfusion h1
theorem act_ext {a b : Act} (hs : a.tmps.size = b.tmps.size) (hd : a.defers = b.defers) (h : ∀ t, t < a.tmps.size → a.tmps.getD t undef = b.tmps.getD t undef) : a = b := by
  obtain ⟨x, d⟩ := a
  obtain ⟨y, e⟩ := b
  simp only at hs hd h
  subst hd
  have : x = y := by
    apply Array.ext hs
    intro i h1 h2
    have := h i h1
    simpa [h1, h2] using this
  rw [this]
theorem walk_slots {dst : Nat → Option Tmp} {r : Nat → Rec} {a0 : Act} {n : Nat} (h0 : (r 0).a = a0) (hs : ∀ p, p < n → (r (p + 1)).a = (r p).a.put (dst p) (r p).v) :
    ∀ m, m ≤ n → (r m).a.tmps.size = a0.tmps.size ∧ (r m).a.defers = a0.defers ∧ ∀ t, t < a0.tmps.size → (r m).a.tmps.getD t undef = slotAt dst (fun j => (r j).v) (fun _ => true) a0 t m
  | 0, _ => ⟨by rw [h0], by rw [h0], fun t _ => by rw [h0]; rfl⟩
  | m + 1, hm => by
    obtain ⟨ih1, ih2, ih3⟩ := walk_slots h0 hs m (by omega)
    have hm' := hs m (by omega)
    refine ⟨by rw [hm', put_size, ih1], by rw [hm', put_defers', ih2], fun t ht => ?_⟩
    rw [hm', put_getD _ _ _ _ (by rw [ih1]; exact ht), ih3 t ht]
    simp only [slotAt, true_and]
theorem slotAt_set {dst : Nat → Option Tmp} {val : Nat → Value} {D : Nat → Bool} {a0 : Act} {i : Nat} {t : Nat} (hlater : ∀ j, i < j → dst j = some t → dst i = some t → D j = false) :
    ∀ n, i < n → slotAt dst val (fun j => D j || j == i) a0 t n = if dst i = some t then val i else slotAt dst val D a0 t n
  | 0, h => by omega
  | n + 1, h => by
    by_cases he : i = n
    · subst he
      by_cases hd : dst i = some t
      · simp [slotAt, hd]
      · rw [slotAt, if_neg (fun h => hd h.2), if_neg hd, slotAt, if_neg (fun h => hd h.2)]
        exact slotAt_congr i (fun j hj _ => ⟨by simp; intro h; omega, rfl⟩)
    · have hne : (n == i) = false := by simp; omega
      rw [slotAt, slotAt_set hlater n (by omega)]
      by_cases hd : dst i = some t
      · rw [if_pos hd, if_pos hd]
        by_cases hn : dst n = some t
        · rw [if_neg]; rintro ⟨h1, _⟩; rw [hlater n (by omega) hn hd] at h1; simp [hne] at h1
        · rw [if_neg (fun h => hn h.2)]
      · simp [hd, slotAt, hne]
section
variable {P : Program} {ops : Array Oper} {effs : List Nat} {row : List Nat} {S : World → Prop} {E : World → World → Prop}
theorem pairsB_spec {ms : List Nat} : ∀ (l : List Nat), pairsB ops effs ms l = true → ∀ (p q i j : Nat), p < q → l[p]? = some i → l[q]? = some j → pairB ops effs ms i j = true
  | [], _, p, q, i, j, _, h, _ => by simp at h
  | x :: l, h, p, q, i, j, hpq, hp, hq => by
    simp only [pairsB, Bool.and_eq_true, List.all_eq_true] at h
    cases q with
    | zero => omega
    | succ q =>
      cases p with
      | zero =>
        simp at hp hq; subst hp
        exact h.1 j (List.mem_of_getElem? hq)
      | succ p => exact pairsB_spec l h.2 p q i j (by omega) (by simpa using hp) (by simpa using hq)
structure LinSpec (ops : Array Oper) (effs row : List Nat) : Prop where
  sel : Region.noSelect ops = true
  all : ∀ j, j < ops.size → ∃ p : Nat, row[p]? = some j
  deps : ∀ j oj, ops[j]? = some oj → ∀ d ∈ depsOf oj, d < j
  bound : ∀ (p i : Nat), row[p]? = some i → i < ops.size
  apart : ∀ (p q i : Nat), row[p]? = some i → row[q]? = some i → p = q
  meet : ∀ (p q i j : Nat) oi oj, p < q → row[p]? = some i → row[q]? = some j → ops[i]? = some oi → ops[j]? = some oj →
    ((∃ d, oi.dst = some d ∧ d ∈ namesOf ops oj) ∨ (∃ d, oj.dst = some d ∧ d ∈ namesOf ops oi) ∨ effs.contains i = true) → ((masksFrom ops.toList []).getD j 0).testBit i = true
theorem linB_spec (h : linB ops effs row = true) : LinSpec ops effs row := by
  simp only [linB, Bool.and_eq_true, List.all_eq_true, List.mem_range, decide_eq_true_eq] at h
  obtain ⟨⟨⟨h1, h2⟩, h3⟩, h4⟩ := h
  have hp := pairsB_spec row h4
  have hne : ∀ (p q i j : Nat), p < q → row[p]? = some i → row[q]? = some j → i ≠ j := fun p q i j hpq hi hj => by
    have := hp p q i j hpq hi hj
    unfold pairB at this
    cases hoi : ops[i]? with
    | none => simp [hoi] at this
    | some oi =>
      cases hoj : ops[j]? with
      | none => simp [hoi, hoj] at this
      | some oj => simp only [hoi, hoj, Bool.and_eq_true, bne_iff_ne] at this; exact this.1
  refine ⟨h1, fun j hj => ?_, fun j oj hj => ?_, fun p i hi => h3 i (List.mem_of_getElem? hi), fun p q i hpi hqi => ?_, fun p q i j oi oj hpq hi hj hoi hoj hm => ?_⟩
  · have := (h2 j hj).1
    simp only [List.contains_iff_mem] at this
    exact List.mem_iff_getElem?.1 this
  · have := (h2 j (Array.getElem?_eq_some_iff.1 hj).1).2
    rw [hj] at this
    simpa using this
  · rcases Nat.lt_trichotomy p q with h | h | h
    · exact absurd rfl (hne p q i i h hpi hqi)
    · exact h
    · exact absurd rfl (hne q p i i h hqi hpi)
  · have := hp p q i j hpq hi hj
    unfold pairB at this
    simp only [hoi, hoj, Bool.and_eq_true, Bool.or_eq_true, Bool.not_eq_true', Bool.or_eq_false_iff] at this
    rcases this.2 with h | h
    · exfalso
      obtain ⟨⟨ha, hb⟩, hc⟩ := h
      rcases hm with ⟨d, hd, hin⟩ | ⟨d, hd, hin⟩ | he
      · simp [hd] at ha; exact ha hin
      · simp [hd] at hb; exact hb hin
      · rw [he] at hc; exact Bool.noConfusion hc
    · exact h
theorem mem_deps {o : Oper} {e : Edge} (he : e ∈ o.after) (hb : Region.binds .any e = true) : e.on ∈ depsOf o := by
  unfold depsOf
  exact List.mem_map.2 ⟨e, List.mem_filter.2 ⟨by simpa using he, hb⟩, rfl⟩
theorem deps_mem {o : Oper} {d : Nat} (h : d ∈ depsOf o) : ∃ e ∈ o.after, Region.binds .any e = true ∧ e.on = d := by
  unfold depsOf at h
  obtain ⟨e, h1, h2⟩ := List.mem_map.1 h
  obtain ⟨h3, h4⟩ := List.mem_filter.1 h1
  exact ⟨e, by simpa using h3, h4, h2⟩
theorem Upon.wp {o : Oper} {a : Act} {w : World} {v : Value} {K : World → Prop} {next : Act → World → Prop} {Q : Exit → Act → World → Prop}
    (h : Upon P v K ((execOp a.eval o).run P w)) (hn : ∀ w', K w' → next (a.put o.dst v) w') : o.wp P a w next Q := by
  unfold Oper.wp
  generalize (execOp a.eval o).run P w = r at *
  cases r with
  | ok n w' =>
    cases n <;> simp only [Upon] at h <;> simp only [Oper.upon]
    case value u => obtain ⟨rfl, hk⟩ := h; exact hn _ hk
    case skip => obtain ⟨rfl, hk⟩ := h; exact hn _ hk
    case enter f args => exact h.mono fun e w'' ⟨he, hk⟩ => by subst he; exact hn _ hk
  | halt x w' => simp only [Upon] at h
theorem UponR.wp {o : Oper} {a : Act} {w : World} {K : Value → World → Prop} {next : Act → World → Prop} {Q : Exit → Act → World → Prop}
    (h : UponR P K ((execOp a.eval o).run P w)) (hn : ∀ v w', K v w' → next (a.put o.dst v) w') : o.wp P a w next Q := by
  unfold Oper.wp
  generalize (execOp a.eval o).run P w = r at *
  cases r with
  | ok n w' =>
    cases n <;> simp only [UponR] at h <;> simp only [Oper.upon]
    case value u => exact hn _ _ h
    case skip => exact hn _ _ h
    case enter f args => exact h.mono fun e w'' ⟨v, he, hk⟩ => by subst he; exact hn _ _ hk
  | halt x w' => simp only [UponR] at h
structure Inv (P : Program) (ops : Array Oper) (effs row : List Nat) (S : World → Prop) (E : World → World → Prop) (Q : Act → World → Prop) (a0 : Act) (listed : Array Bool) (a : Act) (w : World) (m : Nat) (r : Nat → Rec) (w1 : World) : Prop where
  size : listed.size = ops.size
  down : ∀ i o, ops[i]? = some o → listed.getD i false = true → ∀ d ∈ depsOf o, listed.getD d false = true
  tmps : a.tmps.size = a0.tmps.size
  defers : a.defers = a0.defers
  start : (r 0).a = a0
  steps : ∀ p, p < m → (r (p + 1)).a = (r p).a.put (dstAt ops row p) (r p).v
  open' : ∀ (p i : Nat) o, p < m → row[p]? = some i → ops[i]? = some o → listed.getD i false = true ∨ (r p).good P ops S E o
  later : ∀ (p i : Nat), m ≤ p → row[p]? = some i → listed.getD i false = false
  front : Front P ops effs S E Q (row.drop m) (r m).a w1
  slots : ∀ t, t < a0.tmps.size → a.tmps.getD t undef = slotAt (dstAt ops row) (fun j => (r j).v) (fun p => (row[p]?).elim false (fun i => listed.getD i false)) a0 t m
  grown : E w1 w
  cls : S w
theorem getD_ff {listed : Array Bool} {i : Nat} (h : i < listed.size) (b c : Bool) : listed.getD i b = listed.getD i c := by simp [h]
theorem yielded_at (x : Array Value) (t : Tmp) : (match x[t]? with | some (.bool b) => some b | _ => none) = (match x.getD t undef with | .bool b => some b | _ => none) := by
  rw [Array.getD_eq_getD_getElem?]
  cases x[t]? with
  | none => rfl
  | some v => cases v <;> rfl
theorem same_op (hsel : Region.noSelect ops = true) {i : Nat} {o : Oper} (ho : ops[i]? = some o) {a b : Act} (h : ∀ t, t ∈ o.looksAt ops → a.tmps.getD t undef = b.tmps.getD t undef) :
    execOp a.eval o = execOp b.eval o ∧ Region.wanted o (yielded ops a.tmps) = Region.wanted o (yielded ops b.tmps) := by
  refine ⟨execOp_congr o (fun cs b => Region.noSelect_spec hsel i o cs b ho) fun x hx => ?_, ?_⟩
  · cases x with
    | tmp t => exact h t (List.mem_append_left _ (List.mem_filterMap.2 ⟨.tmp t, by simpa using hx, rfl⟩))
    | _ => rfl
  · unfold Region.wanted
    cases hg : o.guard with
    | none => rfl
    | some gw =>
      obtain ⟨g, want⟩ := gw
      have : yielded ops a.tmps g = yielded ops b.tmps g := by
        unfold yielded
        cases ht : (ops[g]?).bind (·.dst) with
        | none => rfl
        | some t =>
          have := h t (List.mem_append_right _ (by simp [hg, ht]))
          exact (yielded_at a.tmps t).trans ((congrArg (fun x : Value => match x with | .bool b => some b | _ => none) this).trans (yielded_at b.tmps t).symm)
      simp only [this]
theorem dstAt_of {p i : Nat} {o : Oper} (hp : row[p]? = some i) (ho : ops[i]? = some o) : dstAt ops row p = o.dst := by unfold dstAt; simp [hp, ho]
theorem dstAt_some {p : Nat} {t : Tmp} (h : dstAt ops row p = some t) : ∃ i o, row[p]? = some i ∧ ops[i]? = some o ∧ o.dst = some t := by
  unfold dstAt at h
  cases hp : row[p]? with
  | none => simp [hp] at h
  | some i =>
    cases ho : ops[i]? with
    | none => simp [hp, ho] at h
    | some o => simp [hp, ho] at h; exact ⟨i, o, rfl, ho, h⟩
theorem inv_step (hB : linB ops effs row = true) {Q : Act → World → Prop} {Q' : Exit → Act → World → Prop} {a0 : Act}
    (hr : ∀ w, E w w) (ht : ∀ a b c, E a b → E b c → E a c) (hS : ∀ w w', S w → E w w' → S w')
    {listed : Array Bool} {a : Act} {w w1 : World} {m : Nat} {r : Nat → Rec} (hI : Inv P ops effs row S E Q a0 listed a w m r w1) {i : Nat} (hi : i ∈ Region.ready .any ops listed) :
    wpOp P ops Q' i (fun a' w' => ∃ m r w1, Inv P ops effs row S E Q a0 (listed.setIfInBounds i true) a' w' m r w1) a w := by
  have L := linB_spec hB
  obtain ⟨hun, o, ho, hall⟩ := mem_ready.1 hi
  have hlt : i < ops.size := (Array.getElem?_eq_some_iff.1 ho).1
  have hunf : listed.getD i false = false := by rw [getD_ff (by rw [hI.size]; exact hlt) false true]; exact hun
  have hdeps : ∀ d ∈ depsOf o, listed.getD d false = true := fun d hd => by
    obtain ⟨e, he, hb, rfl⟩ := deps_mem hd
    exact hall e he hb
  obtain ⟨p, hp⟩ := L.all i hlt
  -- no place behind the front
  have hpm : p ≤ m := by
    rcases Nat.lt_or_ge m p with h | h
    · exfalso
      have hplt : p < row.length := (List.getElem?_eq_some_iff.1 hp).1
      rcases hI.front with ⟨hnil, _⟩ | ⟨i', l', o', hl, ho', he, _, _⟩
      · have := List.drop_eq_nil_iff.1 hnil; omega
      · have hm' : row[m]? = some i' := by have := congrArg (fun l : List Nat => l[0]?) hl; simpa using this
        have hb := L.meet m p i' i o' o h hm' hp ho' ho (.inr (.inr he))
        have := mask_done (D := fun x => listed.getD x false = true) hI.down i o ho hdeps i' hb
        rw [hI.later m i' (Nat.le_refl _) hm'] at this
        exact Bool.noConfusion this
    · exact h
  obtain ⟨hw1, hw2, hw3⟩ := walk_slots hI.start hI.steps p hpm
  -- whoever meets it: those ahead are done, those behind are not
  have hmeet : ∀ q j oj, q < m → q ≠ p → row[q]? = some j → ops[j]? = some oj → ((∃ d, oj.dst = some d ∧ d ∈ namesOf ops o) ∨ (∃ d, o.dst = some d ∧ d ∈ namesOf ops oj)) → listed.getD j false = decide (q < p) := by
    intro q j oj _ hne hq hj hm
    rcases Nat.lt_or_gt_of_ne hne with h | h
    · have hb := L.meet q p j i oj o h hq hp hj ho (by rcases hm with h | h; exact .inl h; exact .inr (.inl h))
      have := mask_done (D := fun x => listed.getD x false = true) hI.down i o ho hdeps j hb
      simpa [h] using this
    · have hb := L.meet p q i j o oj h hp hq ho hj (by rcases hm with h | h; exact .inr (.inl h); exact .inl h)
      have hnd : ¬ listed.getD j false = true := fun hl => by
        have := mask_done (D := fun x => listed.getD x false = true) hI.down j oj hj (hI.down j oj hj hl) i hb
        rw [hunf] at this; exact Bool.noConfusion this
      have : ¬ q < p := by omega
      simpa [this] using hnd
  -- a slot that it names holds what the walk has there
  have hslot : ∀ t, t ∈ namesOf ops o → a.tmps.getD t undef = (r p).a.tmps.getD t undef := by
    intro t htn
    by_cases htl : t < a0.tmps.size
    · rw [hI.slots t htl, hw3 t htl, slotAt_cut (m := p) m hpm]
      · refine slotAt_congr p fun q hq hd => ⟨?_, rfl⟩
        obtain ⟨j, oj, h1, h2, h3⟩ := dstAt_some hd
        have := hmeet q j oj (by omega) (by omega) h1 h2 (.inl ⟨t, h3, htn⟩)
        simpa [h1, hq] using this
      · intro q h1 h2 hd
        obtain ⟨j, oj, g1, g2, g3⟩ := dstAt_some hd
        by_cases hqp : q = p
        · subst hqp; rw [hp] at g1; injection g1 with g1; subst g1; simpa [hp] using hunf
        · have := hmeet q j oj h2 hqp g1 g2 (.inl ⟨t, g3, htn⟩)
          have h0 : ¬ q < p := by omega
          simpa [g1, h0] using this
    · have e1 : a.tmps.size ≤ t := by rw [hI.tmps]; exact Nat.le_of_not_lt htl
      have e2 : (r p).a.tmps.size ≤ t := by rw [hw1]; exact Nat.le_of_not_lt htl
      simp [Array.getElem?_eq_none e1, Array.getElem?_eq_none e2]
  obtain ⟨hexec, hwant⟩ := same_op L.sel ho (a := a) (b := (r p).a) (fun t ht' => hslot t (List.mem_append_left _ ht'))
  have hset : ∀ j, (listed.setIfInBounds i true).getD j false = (listed.getD j false || j == i) := fun j => by
    by_cases hji : j = i
    · subst hji; simp [hI.size, hlt]
    · rw [getD_set_ne false (Ne.symm hji)]
      have : (j == i) = false := by simpa using hji
      rw [this]; simp
  have hdown' : ∀ j oj, ops[j]? = some oj → (listed.setIfInBounds i true).getD j false = true → ∀ d ∈ depsOf oj, (listed.setIfInBounds i true).getD d false = true := by
    intro j oj hj hl d hd
    rw [hset] at hl ⊢
    simp only [Bool.or_eq_true, beq_iff_eq] at hl ⊢
    rcases hl with hl | rfl
    · exact .inl (hI.down j oj hj hl d hd)
    · rw [ho] at hj; injection hj with hj; subst hj; exact .inl (hdeps d hd)
  -- the slots behind it
  have hdone : ∀ q, ((row[q]?).elim false fun j => (listed.setIfInBounds i true).getD j false) = (((row[q]?).elim false fun j => listed.getD j false) || q == p) := by
    intro q
    cases hq : row[q]? with
    | none =>
      have : q ≠ p := fun e => by subst e; rw [hp] at hq; cases hq
      simp [this]
    | some j =>
      simp only [Option.elim_some]
      rw [hset]
      by_cases hqp : q = p
      · subst hqp; rw [hp] at hq; injection hq with hq; subst hq; simp
      · have h1 : (j == i) = false := by simpa using fun e : j = i => hqp (L.apart q p i (e ▸ hq) hp)
        have h2 : (q == p) = false := by simpa using hqp
        rw [h1, h2]
  have hslots : ∀ (n : Nat) (r' : Nat → Rec), p < n → (∀ q, q < m → (r' q).v = (r q).v) → m ≤ n → ∀ (v : Value), (r' p).v = v → (∀ q, m ≤ q → q < n → q ≠ p → ((row[q]?).elim false fun j => listed.getD j false) = false) →
      ∀ t, t < a0.tmps.size → (a.put o.dst v).tmps.getD t undef = slotAt (dstAt ops row) (fun j => (r' j).v) (fun q => (row[q]?).elim false fun j => (listed.setIfInBounds i true).getD j false) a0 t n := by
    intro n r' hpn hr' hmn v hv hlat t htl
    rw [put_getD _ _ _ _ (by rw [hI.tmps]; exact htl), hI.slots t htl]
    have h1 := slotAt_set (dst := dstAt ops row) (val := fun j => (r' j).v) (D := fun q => (row[q]?).elim false fun j => listed.getD j false) (a0 := a0) (i := p) (t := t) (fun q hpq hd hdo => by
      obtain ⟨j, oj, g1, g2, g3⟩ := dstAt_some hd
      rw [dstAt_of hp ho] at hdo
      have hb := L.meet p q i j o oj hpq hp g1 ho g2 (.inr (.inl ⟨t, g3, List.mem_append_right _ (by simp [hdo])⟩))
      have hnd : ¬ listed.getD j false = true := fun hl => by
        have := mask_done (D := fun x => listed.getD x false = true) hI.down j oj g2 (hI.down j oj g2 hl) i hb
        rw [hunf] at this; exact Bool.noConfusion this
      simpa [g1] using hnd) n hpn
    rw [slotAt_congr (D' := fun q => ((row[q]?).elim false fun j => listed.getD j false) || q == p) (val' := fun j => (r' j).v) n (fun q _ _ => ⟨hdone q, rfl⟩), h1, dstAt_of hp ho]
    by_cases hd : o.dst = some t
    · rw [if_pos hd, if_pos hd, hv]
    · rw [if_neg hd, if_neg hd]
      rw [slotAt_cut (m := m) (val := fun j => (r' j).v) n hmn (fun q h1 h2 hdq => by
        by_cases hqp : q = p
        · subst hqp; rw [dstAt_of hp ho] at hdq; exact absurd hdq hd
        · exact hlat q h1 h2 hqp)]
      exact slotAt_congr m fun q hq _ => ⟨rfl, (hr' q hq).symm⟩
  unfold wpOp
  simp only [ho]
  rcases Nat.lt_or_ge p m with hlt' | hge
  · -- a quiet one
    have hg := (hI.open' p i o hlt' hp ho).resolve_left (by rw [hunf]; exact Bool.noConfusion)
    have hafter : ∀ w', E w w' → ∃ m' r' w1', Inv P ops effs row S E Q a0 (listed.setIfInBounds i true) (a.put o.dst (r p).v) w' m' r' w1' := by
      intro w' hE
      refine ⟨m, r, w1, by simp [hI.size], hdown', by rw [put_size, hI.tmps], by rw [put_defers', hI.defers], hI.start, hI.steps, ?_, ?_, hI.front, ?_, ht _ _ _ hI.grown hE, hS _ _ hI.cls hE⟩
      · intro q j oj hq hj hoj
        rcases hI.open' q j oj hq hj hoj with h | h
        · exact .inl (by rw [hset, h]; rfl)
        · exact .inr h
      · intro q j hq hj
        have hji : j ≠ i := fun e => by have := L.apart q p i (e ▸ hj) hp; omega
        rw [hset, hI.later q j hq hj]; simp [hji]
      · exact hslots m r hlt' (fun _ _ => rfl) (Nat.le_refl _) _ rfl (fun q h1 h2 _ => by omega)
    obtain ⟨g1, g2, g3⟩ := hg
    rw [hwant, g1]
    cases hwt : (r p).want with
    | false =>
      simp only [Bool.false_eq_true, if_false]
      obtain ⟨m', r', w1', hI'⟩ := hafter w (hr w)
      rw [g3 hwt] at hI'
      exact ⟨m', r', w1', hI'⟩
    | true =>
      simp only [if_true]
      have h1 := g2 hwt w hI.cls
      rw [← hexec] at h1
      exact .inl (h1.wp fun w' hk => hafter w' hk)
  · -- the effect at the front
    have hpm' : p = m := by omega
    subst hpm'
    rcases hI.front with ⟨hnil, _⟩ | ⟨i', l', o', hl, ho', he, hwt, hE⟩
    · have := List.drop_eq_nil_iff.1 hnil
      have := (List.getElem?_eq_some_iff.1 hp).1
      omega
    · have hm' : row[p]? = some i' := by have := congrArg (fun l : List Nat => l[0]?) hl; simpa using this
      rw [hp] at hm'; injection hm' with hm'; subst hm'
      rw [ho] at ho'; injection ho' with ho'; subst ho'
      rw [hwant, hwt]
      simp only [if_true]
      have h1 := hE w hI.grown
      rw [← hexec] at h1
      refine .inl (h1.wp fun v w' ⟨hs, hlex⟩ => ?_)
      obtain ⟨q, r', g1, g2, g3, g4⟩ := lexR_front l' _ hlex
      have hl' : l' = row.drop (p + 1) := by
        have := congrArg (List.drop 1) hl
        simpa [List.drop_drop] using this.symm
      have hget : ∀ x, l'[x]? = row[p + 1 + x]? := fun x => by rw [hl', List.getElem?_drop]
      let r2 : Nat → Rec := fun x => if x < p then r x else if x = p then ⟨true, v, (r p).a⟩ else r' (x - (p + 1))
      have e1 : ∀ x, x < p → r2 x = r x := fun x hx => by simp [r2, hx]
      have e2 : r2 p = ⟨true, v, (r p).a⟩ := by simp [r2]
      have e3 : ∀ x, r2 (p + 1 + x) = r' x := fun x => by
        have h1 : ¬ p + 1 + x < p := by omega
        have h2 : ¬ p + 1 + x = p := by omega
        simp only [r2, h1, h2, if_false]
        congr 1; omega
      refine ⟨p + 1 + q, r2, w', by simp [hI.size], hdown', by rw [put_size, hI.tmps], by rw [put_defers', hI.defers], ?_, ?_, ?_, ?_, ?_, ?_, hr w', hs⟩
      · by_cases h0 : 0 < p
        · rw [e1 0 h0]; exact hI.start
        · have : p = 0 := by omega
          subst this; rw [e2]; exact hI.start
      · intro x hx
        by_cases hxp : x < p
        · rw [e1 x hxp]
          by_cases hxs : x + 1 < p
          · rw [e1 _ hxs]; exact hI.steps x hxp
          · have : x + 1 = p := by omega
            rw [this, e2]; have := hI.steps x hxp; rwa [show x + 1 = p by omega] at this
        · by_cases hxe : x = p
          · subst hxe
            have := e3 0
            rw [Nat.add_zero] at this
            rw [this, e2, g2, dstAt_of hp ho]
          · obtain ⟨y, rfl⟩ : ∃ y, x = p + 1 + y := ⟨x - (p + 1), by omega⟩
            obtain ⟨j, oj, k1, k2, k3, k4⟩ := g3 y (by omega)
            rw [show p + 1 + y + 1 = p + 1 + (y + 1) by omega, e3, e3, k4, dstAt_of (by rw [← hget]; exact k1) k2]
      · intro x j oj hx hj hoj
        by_cases hxp : x < p
        · rw [e1 x hxp]
          rcases hI.open' x j oj hxp hj hoj with h | h
          · exact .inl (by rw [hset, h]; rfl)
          · exact .inr h
        · by_cases hxe : x = p
          · subst hxe; rw [hp] at hj; injection hj with hj; subst hj; exact .inl (by rw [hset]; simp)
          · obtain ⟨y, rfl⟩ : ∃ y, x = p + 1 + y := ⟨x - (p + 1), by omega⟩
            obtain ⟨j', oj', k1, k2, k3, k4⟩ := g3 y (by omega)
            rw [hget, hj] at k1; injection k1 with k1; subst k1
            rw [hoj] at k2; injection k2 with k2; subst k2
            rw [e3]; exact .inr k3
      · intro x j hx hj
        have hji : j ≠ i := fun e => by have := L.apart x p i (e ▸ hj) hp; omega
        rw [hset, hI.later x j (by omega) hj]; simp [hji]
      · have : (r2 (p + 1 + q)).a = (r' q).a := by rw [e3]
        rw [this, show row.drop (p + 1 + q) = l'.drop q by rw [hl', List.drop_drop]]
        exact g4
      · refine hslots (p + 1 + q) r2 (by omega) (fun x hx => by rw [e1 x hx]) (by omega) v (by rw [e2]) (fun x h1 h2 hne => ?_)
        cases hj : row[x]? with
        | none => rfl
        | some j => exact hI.later x j (by omega) hj
def undone (listed : Array Bool) : Nat → Nat
  | 0 => 0
  | n + 1 => undone listed n + if listed.getD n true then 0 else 1
theorem undone_le_set {listed : Array Bool} {i : Nat} (hi : listed.getD i true = false) : ∀ n, i < n → i < listed.size → undone (listed.setIfInBounds i true) n + 1 = undone listed n
  | 0, h, _ => by omega
  | n + 1, h, hl => by
    by_cases he : i = n
    · subst he
      have : ∀ m, m ≤ i → undone (listed.setIfInBounds i true) m = undone listed m := by
        intro m hm
        induction m with
        | zero => rfl
        | succ m ih => rw [undone, undone, ih (by omega), getD_set_ne true (by omega)]
      rw [undone, undone, this i (Nat.le_refl _), hi]; simp [hl]
    · have ih := undone_le_set hi n (by omega) hl
      rw [undone, undone, getD_set_ne true he]; omega
theorem undone_zero {listed : Array Bool} : ∀ n, undone listed n = 0 → ∀ i, i < n → listed.getD i true = true
  | 0, _, _, h => by omega
  | n + 1, hz, i, h => by
    rw [undone] at hz
    have h1 : undone listed n = 0 := by omega
    have h2 : (if listed.getD n true = true then 0 else 1) = 0 := by omega
    by_cases he : i = n
    · subst he
      cases hb : listed.getD i true
      · rw [hb] at h2; simp at h2
      · rfl
    · exact undone_zero n h1 i (by omega)
theorem ready_some (hB : linB ops effs row = true) {listed : Array Bool} (hnil : Region.ready .any ops listed = []) : ∀ i, i < ops.size → listed.getD i true = true := by
  intro i
  induction i using Nat.strongRecOn with
  | _ i ih =>
    intro hlt
    cases hb : listed.getD i true
    · exfalso
      have : i ∈ Region.ready .any ops listed := mem_ready.2 ⟨hb, _, Array.getElem?_eq_getElem hlt, fun e he hbd => by
        have hd := (linB_spec hB).deps i _ (Array.getElem?_eq_getElem hlt) e.on (mem_deps he hbd)
        have := ih e.on hd (by omega)
        cases hf : listed.getD e.on false
        · rcases Nat.lt_or_ge e.on listed.size with h | h
          · rw [getD_ff h false true, this] at hf; exact Bool.noConfusion hf
          · have hli : listed.size ≤ i := by omega
            simp [Array.getElem?_eq_none hli] at hb
        · rfl⟩
      rw [hnil] at this
      cases this
    · rfl
theorem wpAny_lin (hB : linB ops effs row = true) {Q : Exit → Act → World → Prop} {a0 : Act}
    (hr : ∀ w, E w w) (ht : ∀ a b c, E a b → E b c → E a c) (hS : ∀ w w', S w → E w w' → S w') :
    ∀ (fuel : Nat) (listed : Array Bool) (a : Act) (w : World), undone listed ops.size ≤ fuel → (∃ m r w1, Inv P ops effs row S E (fun a w => Q .normal a w) a0 listed a w m r w1) → wpAny P .any ops Q fuel listed a w := by
  have L := linB_spec hB
  have hend : ∀ (listed : Array Bool) (a : Act) (w : World), (∀ i, i < ops.size → listed.getD i true = true) → (∃ m r w1, Inv P ops effs row S E (fun a w => Q .normal a w) a0 listed a w m r w1) → Q .normal a w := by
    rintro listed a w hall ⟨m, r, w1, hI⟩
    have hall' : ∀ (p i : Nat), row[p]? = some i → listed.getD i false = true := fun p i hi => by
      have := L.bound p i hi
      rw [getD_ff (by rw [hI.size]; exact this) false true]; exact hall i this
    rcases hI.front with ⟨hnil, hq⟩ | ⟨i', l', o', hl, _, _, _, _⟩
    · have hle := List.drop_eq_nil_iff.1 hnil
      obtain ⟨hw1, hw2, hw3⟩ := walk_slots hI.start hI.steps m (Nat.le_refl _)
      have ha : a = (r m).a := act_ext (by rw [hI.tmps, hw1]) (by rw [hI.defers, hw2]) fun t ht => by
        have ht' : t < a0.tmps.size := by rw [← hI.tmps]; exact ht
        rw [hI.slots t ht', hw3 t ht']
        refine slotAt_congr _ fun p hp hd => ⟨?_, rfl⟩
        obtain ⟨j, oj, g1, g2, g3⟩ := dstAt_some hd
        simp only [g1, Option.elim_some]
        exact hall' p j g1
      rw [ha]
      exact hq w hI.grown
    · have hm' : row[m]? = some i' := by have := congrArg (fun l : List Nat => l[0]?) hl; simpa using this
      have := hI.later m i' (Nat.le_refl _) hm'
      rw [hall' m i' hm'] at this
      exact Bool.noConfusion this
  intro fuel
  induction fuel with
  | zero =>
    intro listed a w hf hI
    have hall := undone_zero ops.size (Nat.le_zero.1 hf)
    refine ⟨?_, hend listed a w hall hI⟩
    cases hrd : Region.ready .any ops listed with
    | nil => rfl
    | cons x xs =>
      exfalso
      obtain ⟨hx, o, ho, _⟩ := mem_ready.1 (show x ∈ Region.ready .any ops listed by rw [hrd]; exact List.mem_cons_self)
      rw [hall x (Array.getElem?_eq_some_iff.1 ho).1] at hx
      exact Bool.noConfusion hx
  | succ fuel ih =>
    intro listed a w hf hI
    refine ⟨fun hnil => hend listed a w (ready_some hB hnil) hI, fun i hi => ?_⟩
    obtain ⟨m, r, w1, hI'⟩ := hI
    refine wpOp_mono (fun a' w' h => ih _ a' w' ?_ h) (inv_step hB hr ht hS hI' hi)
    obtain ⟨hun, o, ho, _⟩ := mem_ready.1 hi
    have hlt := (Array.getElem?_eq_some_iff.1 ho).1
    have := undone_le_set hun ops.size hlt (by rw [hI'.size]; exact hlt)
    omega
theorem undone_replicate (n m : Nat) : undone (Array.replicate n false) m ≤ m := by
  induction m with
  | zero => exact Nat.le_refl _
  | succ m ih => rw [undone]; split <;> omega
theorem wp_region_lin {id : Nat} {Q : Exit → Act → World → Prop} {a : Act} {w : World} (effs row : List Nat) (S : World → Prop) (E : World → World → Prop)
    (hm : P.follows .mixedOrders = true) (hB : linB ops effs row = true)
    (hr : ∀ w, E w w) (ht : ∀ a b c, E a b → E b c → E a c) (hS : ∀ w w', S w → E w w' → S w') (h0 : S w.drew)
    (h : LexR P ops effs S E (fun a w => Q .normal a w) row a w.drew) : (Code.region id ops true).wp P Q a w := by
  refine wp_region_any hm (wpAny_lin hB (a0 := a) hr ht hS ops.size _ a _ (undone_replicate _ _) ?_)
  obtain ⟨q, r, h1, h2, h3, h4⟩ := lexR_front row a h
  have hno : ∀ i, (Array.replicate ops.size false).getD i false = false := fun i => by
    rcases Nat.lt_or_ge i ops.size with h | h <;> simp [h]
  refine ⟨q, r, w.drew, by simp, ?_, rfl, rfl, h2, ?_, ?_, fun p i _ _ => hno i, h4, ?_, hr _, h0⟩
  · intro i o _ hl; rw [hno] at hl; exact Bool.noConfusion hl
  · intro p hp; obtain ⟨i, o, g1, g2, _, g4⟩ := h3 p hp; rw [g4, dstAt_of g1 g2]
  · intro p i o hp hi ho; obtain ⟨i', o', g1, g2, g3, _⟩ := h3 p hp
    rw [hi] at g1; injection g1 with g1; subst g1
    rw [ho] at g2; injection g2 with g2; subst g2
    exact .inr g3
  · intro t _
    have : ∀ n, slotAt (dstAt ops row) (fun j => (r j).v) (fun p => (row[p]?).elim false fun i => (Array.replicate ops.size false).getD i false) a t n = a.tmps.getD t undef := by
      intro n
      induction n with
      | zero => rfl
      | succ n ih =>
        rw [slotAt, if_neg, ih]
        rintro ⟨hd, _⟩
        cases hn : row[n]? with
        | none => simp [hn] at hd
        | some i => rw [hn] at hd; simp only [Option.elim_some] at hd; rw [hno] at hd; exact Bool.noConfusion hd
    exact (this _).symm
end
section
variable (P : Program) (ops : Array Oper) (effs : List Nat) {X : Type} (f : X → World) (S : World → Prop) (E : World → World → Prop) (Q : Act → World → Prop)
def LexX : List Nat → Act → World → Prop
  | [], a, w1 => ∀ w, E w1 w → Q a w
  | i :: l, a, w1 => match ops[i]? with
    | none => False
    | some o =>
      if Region.wanted o (yielded ops a.tmps) then
        if effs.contains i then ∀ w, E w1 w → UponR P (fun v w' => S w' ∧ LexX l (a.put o.dst v) w') ((execOp a.eval o).run P w)
        else ∃ v, (∀ x, Upon P v (E (f x)) ((execOp a.eval o).run P (f x))) ∧ LexX l (a.put o.dst v) w1
      else LexX l (a.put o.dst undef) w1
end
section
variable {P : Program} {ops : Array Oper} {effs : List Nat} {X : Type} {f : X → World} {S : World → Prop} {E : World → World → Prop} {Q : Act → World → Prop} {o : Oper} {l : List Nat} {i : Nat} {a : Act} {w1 : World}
theorem lexX_nil (h : ∀ w, E w1 w → Q a w) : LexX P ops effs f S E Q [] a w1 := h
theorem lexX_step {lops : List Oper} (ho : lops[i]? = some o) (he : effs.contains i = false) (h : ∀ K : Act → Prop, (∀ a, LexX P lops.toArray effs f S E Q l a w1 → K a) →
    if Region.wanted o (yielded lops.toArray a.tmps) then ∃ v, (∀ x, Upon P v (E (f x)) ((execOp a.eval o).run P (f x))) ∧ K (a.put o.dst v)
    else K (a.put o.dst undef)) : LexX P lops.toArray effs f S E Q (i :: l) a w1 := by
  have ho' : lops.toArray[i]? = some o := by simpa using ho
  have := h _ (fun _ h => h)
  simp only [LexX, ho']
  by_cases hw : Region.wanted o (yielded lops.toArray a.tmps) = true
  · rw [if_pos hw] at this ⊢; rw [if_neg (by rw [he]; exact Bool.noConfusion)]; exact this
  · rw [if_neg hw] at this ⊢; exact this
theorem lexX_eff {lops : List Oper} (ho : lops[i]? = some o) (he : effs.contains i = true) (h : ∀ K : Act → World → Prop, (∀ a w, LexX P lops.toArray effs f S E Q l a w → K a w) →
    if Region.wanted o (yielded lops.toArray a.tmps) then ∀ w, E w1 w → UponR P (fun v w' => S w' ∧ K (a.put o.dst v) w') ((execOp a.eval o).run P w)
    else K (a.put o.dst undef) w1) : LexX P lops.toArray effs f S E Q (i :: l) a w1 := by
  have ho' : lops.toArray[i]? = some o := by simpa using ho
  have := h _ (fun _ _ h => h)
  simp only [LexX, ho']
  by_cases hw : Region.wanted o (yielded lops.toArray a.tmps) = true
  · rw [if_pos hw] at this ⊢; rw [if_pos he]; exact this
  · rw [if_neg hw] at this ⊢; exact this
theorem lexX_effp {lops : List Oper} (ho : lops[i]? = some o) (he : effs.contains i = true) (hg : o.guard = none) (h : ∀ w, E w1 w → ∀ K : Act → World → Prop, (∀ a w, LexX P lops.toArray effs f S E Q l a w → K a w) →
    UponR P (fun v w' => S w' ∧ K (a.put o.dst v) w') ((execOp a.eval o).run P w)) : LexX P lops.toArray effs f S E Q (i :: l) a w1 :=
  lexX_eff ho he fun K hK => by rw [if_pos (by simp [Region.wanted, hg])]; exact fun w hw => h w hw K hK
theorem UponR.mono {K K' : Value → World → Prop} (h : ∀ v w, K v w → K' v w) {r : Result Next} (hr : UponR P K r) : UponR P K' r := by
  cases r with
  | ok n w => cases n <;> simp only [UponR] at hr ⊢ <;> first | exact h _ _ hr | exact hr.mono fun e w' ⟨v, he, hk⟩ => ⟨v, he, h _ _ hk⟩
  | halt x w => exact hr
theorem lexR_of_lexX : ∀ (l : List Nat) (a : Act) (w1 : World), LexX P ops effs (fun x : { w : World // S w } => x.1) S E Q l a w1 → LexR P ops effs S E Q l a w1
  | [], _, _, h => h
  | i :: l, a, w1, h => by
    simp only [LexX] at h
    simp only [LexR]
    cases ho : ops[i]? with
    | none => rw [ho] at h; exact h
    | some o =>
      rw [ho] at h
      simp only [] at h ⊢
      by_cases hw : Region.wanted o (yielded ops a.tmps) = true
      · rw [if_pos hw] at h ⊢
        by_cases he : effs.contains i = true
        · rw [if_pos he] at h ⊢
          exact fun w hE => (h w hE).mono fun v w' ⟨h1, h2⟩ => ⟨h1, lexR_of_lexX l _ _ h2⟩
        · rw [if_neg he] at h ⊢
          obtain ⟨v, h1, h2⟩ := h
          exact ⟨v, fun w hw => h1 ⟨w, hw⟩, lexR_of_lexX l _ _ h2⟩
      · rw [if_neg hw] at h ⊢
        exact lexR_of_lexX l _ _ h
end
theorem wp_region_lit_lin {P : Program} {id : Nat} {Q : Exit → Act → World → Prop} {a : Act} {w : World} {l : List Oper} (effs row : List Nat) (S : World → Prop) (E : World → World → Prop)
    (hm : P.follows .mixedOrders = true) (hB : linB l.toArray effs row = true)
    (hr : ∀ w, E w w) (ht : ∀ a b c, E a b → E b c → E a c) (hS : ∀ w w', S w → E w w' → S w') (h0 : S w.drew)
    (h : ∀ (X : Type) [Nonempty X] (f : X → World), (∀ x, S (f x)) → LexX P l.toArray effs f S E (fun a w => Q .normal a w) row a w.drew) : (Code.region id l.toArray true).wp P Q a w := by
  refine wp_region_lin effs row S E hm hB hr ht hS h0 (lexR_of_lexX _ _ _ ?_)
  haveI : Nonempty { w : World // S w } := ⟨⟨_, h0⟩⟩
  exact h { w : World // S w } (fun x => x.1) (fun x => x.2)
attribute [irreducible] LexX LexR
end Go.Proofs.Ytjdbknnacaacaaa
namespace Go.Proofs.Ytjdbknnacaacaaa
open Go Go.RowKit
set_option linter.unusedSimpArgs false
set_option linter.unusedVariables false
structure Ext (X : List Nat) (w w' : World) : Prop where
  os : w'.os = w.os
  tape : w'.tape = w.tape
  output : w'.output = w.output
  size : w.heap.size ≤ w'.heap.size
  block : ∀ b, b < w.heap.size → b ∉ X → w'.heap[b]? = w.heap[b]?
theorem Ext.refl (X : List Nat) (w : World) : Ext X w w := ⟨rfl, rfl, rfl, Nat.le_refl _, fun _ _ _ => rfl⟩
theorem Ext.trans {X Y Z : List Nat} {a b c : World} (h : Ext X a b) (k : Ext Y b c) (hX : ∀ x ∈ X, x ∈ Z) (hY : ∀ y ∈ Y, y ∈ Z ∨ a.heap.size ≤ y) : Ext Z a c :=
  ⟨k.os.trans h.os, k.tape.trans h.tape, k.output.trans h.output, Nat.le_trans h.size k.size, fun x hx hz =>
    (k.block x (Nat.lt_of_lt_of_le hx h.size) (fun hy => by rcases hY x hy with h | h; exact hz h; omega)).trans (h.block x hx (fun hx' => hz (hX x hx')))⟩
theorem Ext.trans0 {X : List Nat} {a b c : World} (h : Ext X a b) (k : Ext [] b c) : Ext X a c := h.trans k (fun _ h => h) (by simp)
theorem Ext.of0 {X : List Nat} {a b c : World} (h : Ext [] a b) (k : Ext X b c) : Ext X a c := h.trans k (by simp) (fun _ h => .inl h)
theorem Ext.trans' {X : List Nat} {a b c : World} (h : Ext X a b) (k : Ext X b c) : Ext X a c := h.trans k (fun _ h => h) (fun _ h => .inl h)
theorem Ext.mono {X Y : List Nat} {a b : World} (h : Ext X a b) (hX : ∀ x ∈ X, x ∈ Y) : Ext Y a b := ⟨h.os, h.tape, h.output, h.size, fun x hx hy => h.block x hx (fun h' => hy (hX x h'))⟩
theorem Ext.drop {X Y : List Nat} {a b : World} (h : Ext X a b) (hX : ∀ x ∈ X, x ∈ Y ∨ a.heap.size ≤ x) : Ext Y a b :=
  ⟨h.os, h.tape, h.output, h.size, fun x hx hy => h.block x hx (fun h' => by rcases hX x h' with h | h; exact hy h; omega)⟩
theorem Ext.drew {X : List Nat} {a b : World} (h : Ext X a b) : Ext X a b.drew := ⟨h.os, h.tape, h.output, h.size, h.block⟩
theorem Ext.of_drew {X : List Nat} {a b : World} (h : Ext X a.drew b) : Ext X a b := ⟨h.os, h.tape, h.output, h.size, h.block⟩
theorem Ext.alloc {X : List Nat} {a b : World} (h : Ext X a b) (o : Obj) : Ext X a (b.alloc o) :=
  ⟨h.os, h.tape, h.output, Nat.le_trans h.size (by simp), fun x hx hn => (Below.heap_alloc b o x (Nat.lt_of_lt_of_le hx h.size)).trans (h.block x hx hn)⟩
theorem Ext.setCell {X : List Nat} {a b : World} (h : Ext X a b) {p : Addr} (hp : p.block ∈ X ∨ a.heap.size ≤ p.block) (u : Value) : Ext X a (b.setCell p u) :=
  ⟨h.os, h.tape, h.output, by simpa [World.setCell] using h.size, fun x hx hn => (Below.heap_setCell b p u x (by
    rintro rfl
    rcases hp with hp | hp
    · exact hn hp
    · omega)).trans (h.block x hx hn)⟩
theorem Ext.of_below {a b : World} (h : Below a.heap.size a b) : Ext [] a b := ⟨h.os, h.tape, h.output, h.size, fun x hx _ => h.block x hx⟩
theorem Ext.below {a b : World} (h : Ext [] a b) : Below a.heap.size a b := ⟨h.os, h.tape, h.output, h.size, fun x hx => h.block x hx (by simp)⟩
theorem Ext.at {X : List Nat} {a b : World} (h : Ext X a b) {x : Nat} {o : Obj} (ho : a.heap[x]? = some o) (hx : x ∉ X) : b.heap[x]? = some o :=
  (h.block x (lt_of_block ho) hx).trans ho
theorem Ext.cell {X : List Nat} {a b : World} (h : Ext X a b) {p : Addr} (hp : p.block < a.heap.size) (hx : p.block ∉ X) : b.cell? p = a.cell? p := World.cell?_of_block (w := a) (h.block p.block hp hx)
def Ret (v : Value) (K : World → Prop) (e : Ending) (w : World) : Prop := e = .returned v ∧ K w
theorem ret_of {P : Program} {f : FuncId} {args : Array Value} {w : World} {v : Value} {K : World → Prop} (h : Calls P f args w (Ret v K)) : Calls P f args w (fun e w' => e = .returned v ∧ K w') := h
theorem hid {p : Prop} (h : p) : Hid p := h
def blk (w : World) (b : Nat) : Option Obj := w.heap[b]?
theorem blk_new (w : World) (o : Obj) : blk (w.alloc o) w.heap.size = some o := by
  show (w.heap.push o)[w.heap.size]? = some o
  simp
theorem blk_drew (w : World) (b : Nat) : blk w.drew b = blk w b := rfl
theorem blk_old (w : World) (o : Obj) (b : Nat) (h : b < w.heap.size) : blk (w.alloc o) b = blk w b := Below.heap_alloc w o b h
theorem blk_set (w : World) (a : Addr) (u : Value) (b : Nat) (h : b ≠ a.block) : blk (w.setCell a u) b = blk w b := Below.heap_setCell w a u b h
theorem blk_lt {w : World} {b : Nat} {o : Obj} (h : blk w b = some o) : b < w.heap.size := lt_of_block h
theorem blk_cell {w : World} {b : Nat} {cs : Array Value} {t : TypeId} {fr : Nat × Nat} (h : blk w b = some (.cells cs t fr)) (i : Nat) : w.cell? ⟨b, i, none⟩ = cs[i]? := by
  simp only [World.cell?, show w.heap[b]? = some (.cells cs t fr) from h]; rfl
theorem blk_free {w : World} {b : Nat} {cs : Array Value} {t : TypeId} (h : blk w b = some (.cells cs t (0, 0))) (i : Nat) : w.frozen? ⟨b, i, none⟩ = false := by
  simp only [World.frozen?, show w.heap[b]? = some (.cells cs t (0, 0)) from h]; simp
theorem Ext.blk {X : List Nat} {a b : World} (h : Ext X a b) {x : Nat} {o : Obj} (ho : blk a x = some o) (hx : x ∉ X) : blk b x = some o := h.at ho hx
theorem blk_at (w : World) (o : Obj) (n : Nat) (hn : n = w.heap.size) : blk (w.alloc o) n = some o := by subst hn; exact blk_new w o
attribute [go_sem] blk_at blk_drew blk_old
def setRow (w : World) (b : Nat) (cs : Array Value) : World :=
  { w with heap := w.heap.modify b fun | .cells _ t fr => .cells cs t fr | o => o }
def over (c : Array Value) : Nat → List Value → Array Value
  | _, [] => c
  | o, v :: r => over (c.setIfInBounds o v) (o + 1) r
theorem over_get : ∀ (l : List Value) (c : Array Value) (o j : Nat), o + l.length ≤ c.size → (over c o l)[j]? = if o ≤ j ∧ j < o + l.length then l[j - o]? else c[j]?
  | [], c, o, j, _ => by rw [over, if_neg]; simp only [List.length_nil]; omega
  | v :: l, c, o, j, h => by
    simp only [List.length_cons] at h
    rw [over, over_get l _ _ _ (by simp; omega)]
    by_cases h1 : o + 1 ≤ j ∧ j < o + 1 + l.length
    · rw [if_pos h1, if_pos (by simp; omega), show j - o = (j - (o + 1)) + 1 by omega, List.getElem?_cons_succ]
    · rw [if_neg h1]
      by_cases h2 : j = o
      · subst h2
        rw [if_pos (by simp), Nat.sub_self, List.getElem?_cons_zero, Array.getElem?_setIfInBounds_self_of_lt (by omega)]
      · rw [if_neg (by simp; omega), Array.getElem?_setIfInBounds_ne (by omega)]
theorem over_all (l : List Value) (c : Array Value) (h : l.length = c.size) : over c 0 l = l.toArray := by
  apply Array.ext_getElem?
  intro j
  rw [over_get l c 0 j (by omega)]
  simp only [Nat.zero_add, Nat.sub_zero, Nat.zero_le, true_and, List.getElem?_toArray]
  split
  · rfl
  · rename_i hj
    rw [Array.getElem?_eq_none (by omega), List.getElem?_eq_none (by omega)]
theorem modify_modify (a : Array Obj) (b : Nat) (f g : Obj → Obj) : (a.modify b f).modify b g = a.modify b (fun o => g (f o)) := by
  apply Array.ext_getElem?
  intro j
  simp only [Array.getElem?_modify]
  split
  · cases a[j]? <;> rfl
  · rfl
theorem setCells_over (b : Nat) : ∀ (l : List Value) (o : Nat) (w : World), w.setCells b o l = { w with heap := w.heap.modify b fun | .cells c t fr => .cells (over c o l) t fr | x => x }
  | [], o, w => by
    have : (w.heap.modify b fun | .cells c t fr => .cells (over c o []) t fr | x => x) = w.heap := by
      apply Array.ext_getElem?
      intro j
      simp only [Array.getElem?_modify]
      split
      · cases w.heap[j]? with
        | none => rfl
        | some x => cases x <;> rfl
      · rfl
    rw [this]; rfl
  | v :: l, o, w => by
    rw [World.setCells, setCells_over b l (o + 1)]
    simp only [World.setCell, modify_modify]
    congr 2
    funext x
    cases x <;> rfl
def sizeIs (cs : Array Value) (n : Nat) : Bool := cs.size == n && cs.all (·.oneCell')
theorem sizeIs_size {cs : Array Value} {n : Nat} (h : sizeIs cs n = true) : cs.size = n := by simp only [sizeIs, Bool.and_eq_true, beq_iff_eq] at h; exact h.1
theorem sizeIs_one {cs : Array Value} {n : Nat} (h : sizeIs cs n = true) : cs.all (·.oneCell') = true := by simp only [sizeIs, Bool.and_eq_true, beq_iff_eq] at h; exact h.2
theorem sizeIs_lit (l : List Value) (n : Nat) : sizeIs l.toArray n = (l.length == n && l.all (·.oneCell')) := by simp [sizeIs]
def oldLoad (P : Program) (t : TypeId) (w : World) (b : Nat) : Result Value := (loadVar t ⟨b, 0, none⟩).run P w
def rowLoad (P : Program) (t : TypeId) (n : Nat) (w : World) (b : Nat) : Result Value := match blk w b with
  | some (.cells cs _ _) => if sizeIs cs n = true then .ok (.agg cs) w else oldLoad P t w b
  | _ => oldLoad P t w b
theorem run_load_row {P : Program} {t : TypeId} {d : TypeDesc} {n : Nat} (hu : P.underlying t = some d) (hd : (match d with | .struct _ | .array _ _ => true | _ => false) = true) (hi : (P.info? t).map (·.size) = some n) (w : World) (b : Nat) :
    (loadVar t ⟨b, 0, none⟩).run P w = rowLoad P t n w b := by
  unfold rowLoad
  split
  · rename_i cs t' fr h
    split
    · rename_i hs
      exact run_loadVar_row w b t' t cs fr _ h hu hd (by rw [hi, sizeIs_size hs])
    · rfl
  · rfl
def oldStore (P : Program) (t : TypeId) (w : World) (b : Nat) (cs : Array Value) : Result Unit := (storeVar t ⟨b, 0, none⟩ (.agg cs)).run P w
def rowStore (P : Program) (t : TypeId) (n : Nat) (w : World) (b : Nat) (cs : Array Value) : Result Unit := match blk w b with
  | some (.cells old _ (0, 0)) => if sizeIs old n = true ∧ sizeIs cs n = true then .ok () (setRow w b cs) else oldStore P t w b cs
  | _ => oldStore P t w b cs
theorem run_store_row {P : Program} {t : TypeId} {n : Nat} (hi : (P.info? t).map (·.size) = some n) (w : World) (b : Nat) (cs : Array Value) :
    (storeVar t ⟨b, 0, none⟩ (.agg cs)).run P w = rowStore P t n w b cs := by
  unfold rowStore
  split
  · rename_i old t' h
    split
    · rename_i hs
      have s1 := sizeIs_size hs.1
      have s2 := sizeIs_size hs.2
      rw [run_storeVar_mid w b 0 t cs (fun j hj => by rw [Nat.zero_add, blk_cell h, blk_free h]; simp; omega) (by rw [hi, s2]) (sizeIs_one hs.2), setCells_over]
      unfold setRow
      have hm : (w.heap.modify b fun | .cells c t fr => .cells (over c 0 cs.toList) t fr | x => x) = (w.heap.modify b fun | .cells _ t fr => .cells cs t fr | x => x) := by
        apply Array.ext_getElem?
        intro j
        simp only [Array.getElem?_modify]
        split
        · rename_i hj
          subst hj
          rw [show w.heap[b]? = some (.cells old t' (0, 0)) from h]
          simp only [Option.map_some]
          rw [over_all _ _ (by simp; omega)]
        · rfl
      rw [hm]
    · rfl
  · rfl
def oldLoadAt (t : TypeId) (v : Value) : Sem Value := Instr.loadAt t v
def oldStoreAt (t : TypeId) (v u : Value) : Sem Unit := Instr.storeAt t v u
theorem setRow_new (w : World) (old cs : Array Value) (t : TypeId) (fr : Nat × Nat) : setRow (w.alloc (.cells old t fr)) w.heap.size cs = w.alloc (.cells cs t fr) := by
  unfold setRow World.alloc
  have : ((w.heap.push (.cells old t fr)).modify w.heap.size fun | .cells _ t fr => .cells cs t fr | o => o) = w.heap.push (.cells cs t fr) := by
    apply Array.ext_getElem?
    intro j
    simp only [Array.getElem?_modify, Array.getElem?_push]
    split
    · rename_i h; subst h; simp
    · rename_i h; rw [if_neg (fun e => h e.symm), if_neg (fun e => h e.symm)]
  simp only [this]
theorem setRow_at (w : World) (old cs : Array Value) (t : TypeId) (fr : Nat × Nat) (n : Nat) (hn : n = w.heap.size) : setRow (w.alloc (.cells old t fr)) n cs = w.alloc (.cells cs t fr) := by subst hn; exact setRow_new w old cs t fr
theorem setRow_drew (w : World) (b : Nat) (cs : Array Value) : setRow w.drew b cs = (setRow w b cs).drew := rfl
theorem setRow_size (w : World) (b : Nat) (cs : Array Value) : (setRow w b cs).heap.size = w.heap.size := by simp [setRow]
theorem blk_setRow {w : World} {b : Nat} {old : Array Value} {t : TypeId} {fr : Nat × Nat} (h : blk w b = some (.cells old t fr)) (cs : Array Value) : blk (setRow w b cs) b = some (.cells cs t fr) := by
  show (w.heap.modify b _)[b]? = _
  rw [Array.getElem?_modify, if_pos rfl, show w.heap[b]? = some (.cells old t fr) from h]; rfl
theorem blk_setRow_ne (w : World) (b x : Nat) (cs : Array Value) (h : x ≠ b) : blk (setRow w b cs) x = blk w x := by
  show (w.heap.modify b _)[x]? = w.heap[x]?
  rw [Array.getElem?_modify, if_neg (fun e => h e.symm)]
theorem Ext.setRow {X : List Nat} {a b : World} (h : Ext X a b) {x : Nat} (hx : x ∈ X ∨ a.heap.size ≤ x) (cs : Array Value) : Ext X a (setRow b x cs) :=
  ⟨h.os, h.tape, h.output, by rw [setRow_size]; exact h.size, fun y hy hn => (blk_setRow_ne b x y cs (by rintro rfl; rcases hx with hx | hx; exact hn hx; omega)).trans (h.block y hy hn)⟩
theorem blk_setCell {w : World} {b : Nat} {cs : Array Value} {t : TypeId} {fr : Nat × Nat} (h : blk w b = some (.cells cs t fr)) (i : Nat) (u : Value) : blk (w.setCell ⟨b, i, none⟩ u) b = some (.cells (cs.setIfInBounds i u) t fr) := by
  show (w.heap.modify b _)[b]? = _
  rw [Array.getElem?_modify, if_pos rfl, show w.heap[b]? = some (.cells cs t fr) from h]; rfl
attribute [go_sem] rowLoad rowStore sizeIs_lit setRow_at setRow_drew setRow_size Value.oneCell'
end Go.Proofs.Ytjdbknnacaacaaa
namespace Go.Proofs.Ytjdbknnacaacaaa
open Go Go.RowKit
set_option linter.unusedSimpArgs false
set_option linter.unusedVariables false
theorem Try.mix : Try.prog.follows .mixedOrders = true := by kernel_rfl
def gM (N T : Nat) : Nat := T * 4 * (N + 1) + T * (2 * T + 3)
def gsz (N T : Nat) : Nat → Nat
  | 0 => 1 | 1 => 1 | 2 => 5 | 3 => 9 | 4 => 1 | 5 => 4 | 6 => T | 7 => N | 8 => N | 9 => N | 10 => N * 8 | 11 => N * 8
  | 12 => T * 4 * 2 | 13 => T * 4 | 14 => T * 2 | 15 => T | 16 => T * (2 * T + 2) | 17 => gM N T | 18 => gM N T * 8 | _ => 0
def gsum (N T : Nat) : Nat → Nat
  | 0 => 0
  | i + 1 => gsum N T i + gsz N T i
def gb (N T i : Nat) : Nat := if N = 0 then 0 else gsum N T i
def geoC (N T : Nat) : Array Value := #[.int .i64 N, .int .i64 T] ++ ((List.range 20).map fun i => Value.int .i64 (gb N T i)).toArray
theorem geoC_0 (N T : Nat) : (geoC N T)[0]? = some (.int .i64 N) := by simp [geoC]
theorem geoC_1 (N T : Nat) : (geoC N T)[1]? = some (.int .i64 T) := by simp [geoC]
theorem geoC_b (N T i : Nat) (h : i < 20) : (geoC N T)[2 + i]? = some (.int .i64 (gb N T i)) := by
  have e : 2 + i = i + 2 := by omega
  rw [e]; simp [geoC, h]
theorem gsz_le (N T i : Nat) (hN : N ≤ 256) (hT : T ≤ 64) : gsz N T i ≤ 600000 := by
  have h1 : T * 4 * (N + 1) ≤ 64 * 4 * 257 := Nat.mul_le_mul (by omega) (by omega)
  have h2 : T * (2 * T + 3) ≤ 64 * 131 := Nat.mul_le_mul hT (by omega)
  have h3 : T * (2 * T + 2) ≤ 64 * 130 := Nat.mul_le_mul hT (by omega)
  have h4 : gM N T ≤ 74176 := by unfold gM; omega
  unfold gsz; split <;> omega
theorem gsum_le (N T : Nat) (hN : N ≤ 256) (hT : T ≤ 64) : ∀ i, gsum N T i ≤ 600000 * i
  | 0 => Nat.le_refl _
  | i + 1 => by have := gsum_le N T hN hT i; have := gsz_le N T i hN hT; rw [gsum]; omega
theorem gb_le (N T i : Nat) (hN : N ≤ 256) (hT : T ≤ 64) (hi : i < 20) : gb N T i ≤ 12000000 := by
  unfold gb; split
  · omega
  · have := gsum_le N T hN hT i; omega
theorem gb_succ (N T i : Nat) : gb N T (i + 1) = gb N T i + if N = 0 then 0 else gsz N T i := by unfold gb; split <;> rfl
theorem gb_mono (N T i : Nat) : gb N T i ≤ gb N T (i + 1) := by rw [gb_succ]; omega
def gat (N T r : Nat) (n : Int) : Int := if n < 0 ∨ (gb N T (r + 1) : Int) - gb N T r ≤ n then -1 else gb N T r + n
theorem gat_neg (N T r : Nat) {n : Int} (h : n < 0) : gat N T r n = -1 := if_pos (.inl h)
theorem gat_far (N T r : Nat) {n : Int} (h : (gb N T (r + 1) : Int) - gb N T r ≤ n) : gat N T r n = -1 := if_pos (.inr h)
theorem gat_in (N T r : Nat) {n : Int} (h0 : 0 ≤ n) (h : n < (gb N T (r + 1) : Int) - gb N T r) : gat N T r n = gb N T r + n := if_neg (by omega)
def gin (n k many : Int) : Int := if n < 0 ∨ 1073741824 < n ∨ k < 0 ∨ many ≤ k then -1 else n * many + k
@[go_sem] theorem geoC_sizeIs (N T : Nat) : sizeIs (geoC N T) 22 = true := by simp [sizeIs, geoC, Value.oneCell']
theorem loadAt_geo (v : Value) : Instr.loadAt 24 v = oldLoadAt 24 v := rfl
theorem storeAt_geo (v u : Value) : Instr.storeAt 24 v u = oldStoreAt 24 v u := rfl
theorem run_load_geo (w : World) (b : Nat) : (oldLoadAt 24 (.pointer (some ⟨b, 0, none⟩))).run Try.prog w = rowLoad Try.prog 24 22 w b :=
  run_load_row Try.underlying24 rfl (by kernel_rfl) w b
theorem run_store_geo (w : World) (b : Nat) (cs : Array Value) : (oldStoreAt 24 (.pointer (some ⟨b, 0, none⟩)) (.agg cs)).run Try.prog w = rowStore Try.prog 24 22 w b cs :=
  run_store_row (by kernel_rfl) w b cs
attribute [go_sem] run_load_geo run_store_geo
attribute [go_sem ↓] loadAt_geo storeAt_geo
theorem at_cells (N T r : Nat) (w : World) {v : World} (hr : r < 19) (hb : blk v w.heap.size = some (.cells (geoC N T) 24)) :
    v.cell? ⟨w.heap.size, 2 + r, none⟩ = some (.int .i64 (gb N T r)) ∧ v.cell? ⟨w.heap.size, 2 + (r + 1), none⟩ = some (.int .i64 (gb N T (r + 1))) := by
  have c1 := geoC_b N T r (by omega)
  have c2 := geoC_b N T (r + 1) (by omega)
  exact ⟨(blk_cell hb _).trans c1, (blk_cell hb _).trans c2⟩
set_option maxHeartbeats 1000000 in
theorem at_neg (N T r : Nat) (n : Int) (w : World) (hr : r < 19) (hN : N ≤ 256) (hT : T ≤ 64) (h : n < 0) :
    Calls Try.prog 80 #[.agg (geoC N T), .int .i64 r, .int .i64 n] w (Ret (.int .i64 (-1)) (Ext [] w)) := by
  have g1 := gb_le N T r hN hT (by omega)
  have g2 := gb_le N T (r + 1) hN hT (by omega)
  have hE := Ext.refl []
  have h1 : (decide (n < 0)) = true := by simpa using h
  go_enter Try.func80, Try.ntmps80
  go_wp2
  refine wp_region_lit_lin [] [0,1,2,3,4,5,6,7,8,9,10,11,12,13,14,15] (Ext [] (w.alloc (.cells (geoC N T) 24))) (Ext []) Try.mix (by kernel_rfl) (Ext.refl []) (fun _ _ _ => Ext.trans') (fun _ _ => Ext.trans') ((Ext.refl _ _).drew) (fun X _ f hf => ?_)
  have hc1 : ∀ x, (f x).cell? ⟨w.heap.size, 2 + r, none⟩ = some (.int .i64 (gb N T r)) := fun x => (at_cells N T r w hr ((hf x).blk (blk_new _ _) (by simp))).1
  have hc2 : ∀ x, (f x).cell? ⟨w.heap.size, 2 + (r + 1), none⟩ = some (.int .i64 (gb N T (r + 1))) := fun x => (at_cells N T r w hr ((hf x).blk (blk_new _ _) (by simp))).2
  clear hf
  repeat (refine lexX_step rfl rfl (fun K hK => ?_); go_simp; (try go_bits); (try (simp only [↓IntWalk.iteOmega]; go_simp)); (refine hK _ ?_; clear hK K))
  clear hc1 hc2
  refine lexX_nil (fun w1 hw1 => ?_)
  have hx := hw1.of_drew
  have hd1 := (at_cells N T r w hr (hx.blk (blk_new _ _) (by simp))).1
  have H1 := hid hx
  clear hx hw1
  go_wp2
  go_ret
  exact ⟨rfl, ((Ext.refl [] _).alloc _).trans' H1.out⟩
set_option maxHeartbeats 1000000 in
theorem at_far (N T r : Nat) (n : Int) (w : World) (hr : r < 19) (hN : N ≤ 256) (hT : T ≤ 64) (h : 0 ≤ n) (h2 : (gb N T (r + 1) : Int) - gb N T r ≤ n) :
    Calls Try.prog 80 #[.agg (geoC N T), .int .i64 r, .int .i64 n] w (Ret (.int .i64 (-1)) (Ext [] w)) := by
  have g1 := gb_le N T r hN hT (by omega)
  have g2 := gb_le N T (r + 1) hN hT (by omega)
  have hE := Ext.refl []
  have h1 : (decide (n < 0)) = false := by simpa using h
  have h3 : (decide ((gb N T (r + 1) : Int) - gb N T r ≤ n)) = true := by simpa using h2
  go_enter Try.func80, Try.ntmps80
  go_wp2
  refine wp_region_lit_lin [] [0,1,2,3,4,5,6,7,8,9,10,11,12,13,14,15] (Ext [] (w.alloc (.cells (geoC N T) 24))) (Ext []) Try.mix (by kernel_rfl) (Ext.refl []) (fun _ _ _ => Ext.trans') (fun _ _ => Ext.trans') ((Ext.refl _ _).drew) (fun X _ f hf => ?_)
  have hc1 : ∀ x, (f x).cell? ⟨w.heap.size, 2 + r, none⟩ = some (.int .i64 (gb N T r)) := fun x => (at_cells N T r w hr ((hf x).blk (blk_new _ _) (by simp))).1
  have hc2 : ∀ x, (f x).cell? ⟨w.heap.size, 2 + (r + 1), none⟩ = some (.int .i64 (gb N T (r + 1))) := fun x => (at_cells N T r w hr ((hf x).blk (blk_new _ _) (by simp))).2
  clear hf
  repeat (refine lexX_step rfl rfl (fun K hK => ?_); go_simp; (try go_bits); (try (simp only [↓IntWalk.iteOmega]; go_simp)); (refine hK _ ?_; clear hK K))
  clear hc1 hc2
  refine lexX_nil (fun w1 hw1 => ?_)
  have hx := hw1.of_drew
  have hd1 := (at_cells N T r w hr (hx.blk (blk_new _ _) (by simp))).1
  have H1 := hid hx
  clear hx hw1
  go_wp2
  go_ret
  exact ⟨rfl, ((Ext.refl [] _).alloc _).trans' H1.out⟩
set_option maxHeartbeats 1000000 in
theorem at_in (N T r : Nat) (n : Int) (w : World) (hr : r < 19) (hN : N ≤ 256) (hT : T ≤ 64) (h : 0 ≤ n) (h2 : n < (gb N T (r + 1) : Int) - gb N T r) :
    Calls Try.prog 80 #[.agg (geoC N T), .int .i64 r, .int .i64 n] w (Ret (.int .i64 (gb N T r + n)) (Ext [] w)) := by
  have g1 := gb_le N T r hN hT (by omega)
  have g2 := gb_le N T (r + 1) hN hT (by omega)
  have hE := Ext.refl []
  have h1 : (decide (n < 0)) = false := by simpa using h
  have h3 : (decide ((gb N T (r + 1) : Int) - gb N T r ≤ n)) = false := by simpa using h2
  go_enter Try.func80, Try.ntmps80
  go_wp2
  refine wp_region_lit_lin [] [0,1,2,3,4,5,6,7,8,9,10,11,12,13,14,15] (Ext [] (w.alloc (.cells (geoC N T) 24))) (Ext []) Try.mix (by kernel_rfl) (Ext.refl []) (fun _ _ _ => Ext.trans') (fun _ _ => Ext.trans') ((Ext.refl _ _).drew) (fun X _ f hf => ?_)
  have hc1 : ∀ x, (f x).cell? ⟨w.heap.size, 2 + r, none⟩ = some (.int .i64 (gb N T r)) := fun x => (at_cells N T r w hr ((hf x).blk (blk_new _ _) (by simp))).1
  have hc2 : ∀ x, (f x).cell? ⟨w.heap.size, 2 + (r + 1), none⟩ = some (.int .i64 (gb N T (r + 1))) := fun x => (at_cells N T r w hr ((hf x).blk (blk_new _ _) (by simp))).2
  clear hf
  repeat (refine lexX_step rfl rfl (fun K hK => ?_); go_simp; (try go_bits); (try (simp only [↓IntWalk.iteOmega]; go_simp)); (refine hK _ ?_; clear hK K))
  clear hc1 hc2
  refine lexX_nil (fun w1 hw1 => ?_)
  have hx := hw1.of_drew
  have hd1 := (at_cells N T r w hr (hx.blk (blk_new _ _) (by simp))).1
  have H1 := hid hx
  clear hx hw1
  go_wp2
  go_ret
  exact ⟨rfl, ((Ext.refl [] _).alloc _).trans' H1.out⟩
theorem at_any (N T r : Nat) (ri n : Int) (w : World) (hri : ri = r) (hr : r < 19) (hN : N ≤ 256) (hT : T ≤ 64) :
    Calls Try.prog 80 #[.agg (geoC N T), .int .i64 ri, .int .i64 n] w (Ret (.int .i64 (gat N T r n)) (Ext [] w)) := by
  subst hri
  by_cases h : n < 0
  · rw [gat_neg N T r h]; exact at_neg N T r n w hr hN hT h
  by_cases h2 : (gb N T (r + 1) : Int) - gb N T r ≤ n
  · rw [gat_far N T r h2]; exact at_far N T r n w hr hN hT (by omega) h2
  · rw [gat_in N T r (by omega) (by omega)]; exact at_in N T r n w hr hN hT (by omega) (by omega)
set_option maxHeartbeats 1000000 in
theorem in_any (n k many : Int) (w : World) (hk : k ≤ 9223372036854775807) (hm0 : 0 ≤ many) (hm : many ≤ 1000000) :
    Calls Try.prog 81 #[.int .i64 n, .int .i64 k, .int .i64 many] w (Ret (.int .i64 (gin n k many)) (Ext [] w)) := by
  by_cases h1 : n < 0
  · rw [show gin n k many = -1 from if_pos (.inl h1)]
    go_enter Try.func81, Try.ntmps81
    go_wp2
    go_ret
    exact ⟨rfl, Ext.refl _ _⟩
  by_cases h2 : 1073741824 < n
  · rw [show gin n k many = -1 from if_pos (.inr (.inl h2))]
    go_enter Try.func81, Try.ntmps81
    go_wp2
    go_ret
    exact ⟨rfl, Ext.refl _ _⟩
  by_cases h3 : k < 0
  · rw [show gin n k many = -1 from if_pos (.inr (.inr (.inl h3)))]
    go_enter Try.func81, Try.ntmps81
    go_wp2
    go_ret
    exact ⟨rfl, Ext.refl _ _⟩
  by_cases h4 : many ≤ k
  · rw [show gin n k many = -1 from if_pos (.inr (.inr (.inr h4)))]
    go_enter Try.func81, Try.ntmps81
    go_wp2
    go_ret
    exact ⟨rfl, Ext.refl _ _⟩
  rw [show gin n k many = n * many + k from if_neg (by omega)]
  have hb : 0 ≤ n * many := Int.mul_nonneg (by omega) hm0
  have hc : n * many ≤ 1073741824 * 1000000 := Int.mul_le_mul (by omega) hm hm0 (by omega)
  go_enter Try.func81, Try.ntmps81
  go_wp2
  go_ret
  exact ⟨rfl, Ext.refl _ _⟩
set_option maxHeartbeats 400000 in
theorem gBin_any (N T : Nat) (n : Int) (w : World) (hN : N ≤ 256) (hT : T ≤ 64) :
    Calls Try.prog 145 #[.agg (geoC N T), .int .i64 n] w (Ret (.int .i64 (gat N T 3 n)) (Ext [] w)) := by
  go_enter Try.func145, Try.ntmps145
  go_wp2_with fail
  refine (at_any N T 3 3 _ _ rfl (by omega) hN hT).mono ?_
  rintro e w1 ⟨rfl, h1⟩
  have H1 := hid h1
  clear h1
  go_wp2
  go_ret
  exact ⟨rfl, ((Ext.refl [] _).alloc _).trans' H1.out⟩
set_option maxHeartbeats 400000 in
theorem gPool_any (N T : Nat) (w : World) (hN : N ≤ 256) (hT : T ≤ 64) :
    Calls Try.prog 116 #[.agg (geoC N T)] w (Ret (.int .i64 (gat N T 4 0)) (Ext [] w)) := by
  go_enter Try.func116, Try.ntmps116
  go_wp2_with fail
  refine (at_any N T 4 4 _ _ rfl (by omega) hN hT).mono ?_
  rintro e w1 ⟨rfl, h1⟩
  have H1 := hid h1
  clear h1
  go_wp2
  go_ret
  exact ⟨rfl, ((Ext.refl [] _).alloc _).trans' H1.out⟩
set_option maxHeartbeats 400000 in
theorem gAdds_any (N T : Nat) (n : Int) (w : World) (hN : N ≤ 256) (hT : T ≤ 64) :
    Calls Try.prog 27 #[.agg (geoC N T), .int .i64 n] w (Ret (.int .i64 (gat N T 5 n)) (Ext [] w)) := by
  go_enter Try.func27, Try.ntmps27
  go_wp2_with fail
  refine (at_any N T 5 5 _ _ rfl (by omega) hN hT).mono ?_
  rintro e w1 ⟨rfl, h1⟩
  have H1 := hid h1
  clear h1
  go_wp2
  go_ret
  exact ⟨rfl, ((Ext.refl [] _).alloc _).trans' H1.out⟩
set_option maxHeartbeats 400000 in
theorem gPage_any (N T : Nat) (n : Int) (w : World) (hN : N ≤ 256) (hT : T ≤ 64) :
    Calls Try.prog 53 #[.agg (geoC N T), .int .i64 n] w (Ret (.int .i64 (gat N T 7 n)) (Ext [] w)) := by
  go_enter Try.func53, Try.ntmps53
  go_wp2_with fail
  refine (at_any N T 7 7 _ _ rfl (by omega) hN hT).mono ?_
  rintro e w1 ⟨rfl, h1⟩
  have H1 := hid h1
  clear h1
  go_wp2
  go_ret
  exact ⟨rfl, ((Ext.refl [] _).alloc _).trans' H1.out⟩
set_option maxHeartbeats 400000 in
theorem gBits_any (N T : Nat) (n : Int) (w : World) (hN : N ≤ 256) (hT : T ≤ 64) :
    Calls Try.prog 35 #[.agg (geoC N T), .int .i64 n] w (Ret (.int .i64 (gat N T 8 n)) (Ext [] w)) := by
  go_enter Try.func35, Try.ntmps35
  go_wp2_with fail
  refine (at_any N T 8 8 _ _ rfl (by omega) hN hT).mono ?_
  rintro e w1 ⟨rfl, h1⟩
  have H1 := hid h1
  clear h1
  go_wp2
  go_ret
  exact ⟨rfl, ((Ext.refl [] _).alloc _).trans' H1.out⟩
set_option maxHeartbeats 400000 in
theorem gRemote_any (N T : Nat) (n : Int) (w : World) (hN : N ≤ 256) (hT : T ≤ 64) :
    Calls Try.prog 55 #[.agg (geoC N T), .int .i64 n] w (Ret (.int .i64 (gat N T 9 n)) (Ext [] w)) := by
  go_enter Try.func55, Try.ntmps55
  go_wp2_with fail
  refine (at_any N T 9 9 _ _ rfl (by omega) hN hT).mono ?_
  rintro e w1 ⟨rfl, h1⟩
  have H1 := hid h1
  clear h1
  go_wp2
  go_ret
  exact ⟨rfl, ((Ext.refl [] _).alloc _).trans' H1.out⟩
set_option maxHeartbeats 400000 in
theorem gLink_any (N T : Nat) (n : Int) (w : World) (hN : N ≤ 256) (hT : T ≤ 64) :
    Calls Try.prog 60 #[.agg (geoC N T), .int .i64 n] w (Ret (.int .i64 (gat N T 10 n)) (Ext [] w)) := by
  go_enter Try.func60, Try.ntmps60
  go_wp2_with fail
  refine (at_any N T 10 10 _ _ rfl (by omega) hN hT).mono ?_
  rintro e w1 ⟨rfl, h1⟩
  have H1 := hid h1
  clear h1
  go_wp2
  go_ret
  exact ⟨rfl, ((Ext.refl [] _).alloc _).trans' H1.out⟩
set_option maxHeartbeats 400000 in
theorem gGone_any (N T : Nat) (n : Int) (w : World) (hN : N ≤ 256) (hT : T ≤ 64) :
    Calls Try.prog 122 #[.agg (geoC N T), .int .i64 n] w (Ret (.int .i64 (gat N T 15 n)) (Ext [] w)) := by
  go_enter Try.func122, Try.ntmps122
  go_wp2_with fail
  refine (at_any N T 15 15 _ _ rfl (by omega) hN hT).mono ?_
  rintro e w1 ⟨rfl, h1⟩
  have H1 := hid h1
  clear h1
  go_wp2
  go_ret
  exact ⟨rfl, ((Ext.refl [] _).alloc _).trans' H1.out⟩
set_option maxHeartbeats 400000 in
theorem gPages_any (N T : Nat) (w : World) :
    Calls Try.prog 64 #[.agg (geoC N T)] w (Ret (.int .i64 N) (Ext [] w)) := by
  have hc := geoC_0 N T
  go_enter Try.func64, Try.ntmps64
  go_wp2
  go_ret
  exact ⟨rfl, (Ext.refl [] _).alloc _⟩
set_option maxHeartbeats 400000 in
theorem gThreads_any (N T : Nat) (w : World) :
    Calls Try.prog 18 #[.agg (geoC N T)] w (Ret (.int .i64 T) (Ext [] w)) := by
  have hc := geoC_1 N T
  go_enter Try.func18, Try.ntmps18
  go_wp2
  go_ret
  exact ⟨rfl, (Ext.refl [] _).alloc _⟩
set_option maxHeartbeats 400000 in
theorem gWords_any (N T : Nat) (w : World) :
    Calls Try.prog 63 #[.agg (geoC N T)] w (Ret (.int .i64 (gb N T 19)) (Ext [] w)) := by
  have hc := geoC_b N T 19 (by omega)
  go_enter Try.func63, Try.ntmps63
  go_wp2
  go_ret
  exact ⟨rfl, (Ext.refl [] _).alloc _⟩
set_option maxHeartbeats 400000 in
theorem groom_cs (T : Nat) (cs : Array Value) (w : World) (hT : T ≤ 64) (h1 : cs[1]? = some (.int .i64 T)) :
    Calls Try.prog 113 #[.agg cs] w (Ret (.int .i64 (2 * T + 2 : Int)) (Ext [] w)) := by
  go_enter Try.func113, Try.ntmps113
  go_wp2
  go_ret
  exact ⟨rfl, (Ext.refl [] _).alloc _⟩
theorem gM_cast (N T : Nat) : (gM N T : Int) = (T : Int) * 4 * (N + 1) + (T : Int) * (2 * T + 3) := by
  unfold gM; push_cast; rfl
set_option maxHeartbeats 1000000 in
theorem gNodes_cs (N T : Nat) (cs : Array Value) (w : World) (h : 1 ≤ N) (hN : N ≤ 256) (hT : T ≤ 64) (hc : cs[0]? = some (.int .i64 N)) (hc' : cs[1]? = some (.int .i64 T)) :
    Calls Try.prog 77 #[.agg cs] w (Ret (.int .i64 (gM N T : Int)) (Ext [] w)) := by
  have h0 : ((N : Int) == 0) = false := by simp; omega
  have m1 : (T : Int) * 4 * (N + 1) ≤ 64 * 4 * 257 := Int.mul_le_mul (by omega) (by omega) (by omega) (by omega)
  have m2 : (0 : Int) ≤ (T : Int) * 4 * (N + 1) := Int.mul_nonneg (by omega) (by omega)
  have m3 : (T : Int) * (2 * T + 3) ≤ 64 * 131 := Int.mul_le_mul (by omega) (by omega) (by omega) (by omega)
  have m4 : (0 : Int) ≤ (T : Int) * (2 * T + 3) := Int.mul_nonneg (by omega) (by omega)
  rw [gM_cast]
  go_enter Try.func77, Try.ntmps77
  go_wp2
  go_ret
  exact ⟨rfl, (Ext.refl [] _).alloc _⟩
theorem gNodes_any (N T : Nat) (w : World) (h : 1 ≤ N) (hN : N ≤ 256) (hT : T ≤ 64) :
    Calls Try.prog 77 #[.agg (geoC N T)] w (Ret (.int .i64 (gM N T : Int)) (Ext [] w)) := gNodes_cs N T _ w h hN hT (geoC_0 N T) (geoC_1 N T)
def szC (N T : Nat) : Array Value := ((List.range 19).map fun i => Value.int .i64 (gsz N T i)).toArray
def geoP (N T k : Nat) : Array Value := #[.int .i64 N, .int .i64 T] ++ ((List.range 20).map fun i => Value.int .i64 ((if i ≤ k then gsum N T i else 0 : Nat) : Int)).toArray
@[go_sem] theorem geoP_sizeIs (N T k : Nat) : sizeIs (geoP N T k) 22 = true := by simp [sizeIs, geoP, Value.oneCell']
@[go_sem] theorem szC_sizeIs (N T : Nat) : sizeIs (szC N T) 19 = true := by simp [sizeIs, szC, Value.oneCell']
theorem loadAt_sz (v : Value) : Instr.loadAt 158 v = oldLoadAt 158 v := rfl
theorem storeAt_sz (v u : Value) : Instr.storeAt 158 v u = oldStoreAt 158 v u := rfl
theorem run_load_sz (w : World) (b : Nat) : (oldLoadAt 158 (.pointer (some ⟨b, 0, none⟩))).run Try.prog w = rowLoad Try.prog 158 19 w b :=
  run_load_row Try.underlying158 rfl (by kernel_rfl) w b
theorem run_store_sz (w : World) (b : Nat) (cs : Array Value) : (oldStoreAt 158 (.pointer (some ⟨b, 0, none⟩)) (.agg cs)).run Try.prog w = rowStore Try.prog 158 19 w b cs :=
  run_store_row (by kernel_rfl) w b cs
attribute [local go_sem] run_load_sz run_store_sz
attribute [local go_sem ↓] loadAt_sz storeAt_sz
theorem geoP_0 (N T : Nat) : geoP N T 0 = #[.int .i64 N, .int .i64 T, .int .i64 0, .int .i64 0, .int .i64 0, .int .i64 0, .int .i64 0, .int .i64 0, .int .i64 0, .int .i64 0, .int .i64 0, .int .i64 0, .int .i64 0, .int .i64 0, .int .i64 0, .int .i64 0, .int .i64 0, .int .i64 0, .int .i64 0, .int .i64 0, .int .i64 0, .int .i64 0] := by
  simp [geoP, List.range_succ, gsum]
theorem geoP_19 (N T : Nat) (h : 1 ≤ N) : geoP N T 19 = geoC N T := by
  unfold geoP geoC
  have : ((List.range 20).map fun i => Value.int .i64 ((if i ≤ 19 then gsum N T i else 0 : Nat) : Int)) = (List.range 20).map fun i => Value.int .i64 (gb N T i) := by
    refine List.map_congr_left fun i hi => ?_
    have : i < 20 := List.mem_range.1 hi
    rw [if_pos (by omega), gb, if_neg (by omega)]
  rw [this]
theorem geoP_b (N T k i : Nat) (h : i < 20) (hk : i ≤ k) : (geoP N T k)[2 + i]? = some (.int .i64 (gsum N T i)) := by
  have e : 2 + i = i + 2 := by omega
  rw [e]; simp [geoP, h, hk]
theorem geoP_z (N T k i : Nat) (h : i < 20) (hk : k < i) : (geoP N T k)[2 + i]? = some (.int .i64 0) := by
  have e : 2 + i = i + 2 := by omega
  rw [e]; simp [geoP, h]; omega
theorem geoP_01 (N T k : Nat) : (geoP N T k)[0]? = some (.int .i64 N) ∧ (geoP N T k)[1]? = some (.int .i64 T) := by simp [geoP]
theorem geoP_set (N T k : Nat) (hk : k < 19) : (geoP N T k).setIfInBounds (2 + (k + 1)) (.int .i64 (gsum N T (k + 1))) = geoP N T (k + 1) := by
  apply Array.ext_getElem?
  intro j
  rw [Array.getElem?_setIfInBounds]
  split
  · rename_i h; subst h; rw [if_pos (by simp [geoP]; omega), geoP_b N T (k + 1) (k + 1) (by omega) (by omega)]
  · rename_i h
    match j with
    | 0 => simp [geoP]
    | 1 => simp [geoP]
    | j + 2 =>
      simp only [geoP]
      by_cases hj : j < 20
      · simp only [Array.getElem?_append, List.size_toArray, List.length_cons, List.length_nil, show ¬ j + 2 < 0 + 1 + 1 by omega, if_false, show j + 2 - (0 + 1 + 1) = j by omega, List.getElem?_toArray, List.getElem?_map, List.getElem?_range hj, Option.map_some]
        have : (j ≤ k) = (j ≤ k + 1) := by simp; omega
        simp only [this]
      · simp [hj]
theorem szC_lit (N T : Nat) : (#[.int .i64 1, .int .i64 1, .int .i64 5, .int .i64 9, .int .i64 1, .int .i64 4, .int .i64 T, .int .i64 N, .int .i64 N, .int .i64 N, .int .i64 (N * 8), .int .i64 (N * 8), .int .i64 (T * 4 * 2), .int .i64 (T * 4), .int .i64 (T * 2), .int .i64 T, .int .i64 (T * (2 * T + 2)), .int .i64 (gM N T), .int .i64 (gM N T * 8)] : Array Value) = szC N T := by
  simp [szC, List.range_succ, gsz]
theorem szC_at (N T k : Nat) (h : k < 19) : (szC N T)[k]? = some (.int .i64 (gsz N T k)) := by simp [szC, h]
theorem load_geo {w : World} {b N T : Nat} {fr : Nat × Nat} (h : blk w b = some (.cells (geoC N T) 24 fr)) : (loadVar 24 ⟨b, 0, none⟩).run Try.prog w = .ok (.agg (geoC N T)) w := by
  rw [run_load_row (n := 22) Try.underlying24 rfl (by kernel_rfl)]
  simp only [rowLoad, h, geoC_sizeIs, if_true]
theorem run_index_sz (N T k : Nat) (h : k < 19) (w : World) : (Instr.index 158 (.agg (szC N T)) (.int .i64 (k : Int))).run Try.prog w = .ok (.int .i64 (gsz N T k)) w := by
  have h2 := szC_at N T k h
  simp [Instr.index, run_underlying Try.underlying158, asIntOf, part, h2, go_sem]
  intro h3; omega
set_option maxRecDepth 100000 in
set_option maxHeartbeats 2000000 in
theorem gNew_any (N T : Nat) (w : World) (hN1 : 1 ≤ N) (hN : N ≤ 256) (hT1 : 1 ≤ T) (hT : T ≤ 64) :
    Calls Try.prog 61 #[.int .i64 N, .int .i64 T] w (Ret (.tuple #[.agg (geoC N T), .bool true]) (Ext [] w)) := by
  have hE := Ext.refl []
  have m3 : (T : Int) * (2 * T + 2) ≤ 64 * 130 := Int.mul_le_mul (by omega) (by omega) (by omega) (by omega)
  have m4 : (0 : Int) ≤ (T : Int) * (2 * T + 2) := Int.mul_nonneg (by omega) (by omega)
  have m5 : (gM N T : Int) ≤ 74176 := by
    have h1 : T * 4 * (N + 1) ≤ 64 * 4 * 257 := Nat.mul_le_mul (by omega) (by omega)
    have h2 : T * (2 * T + 3) ≤ 64 * 131 := Nat.mul_le_mul hT (by omega)
    unfold gM; omega
  go_enter Try.func61, Try.ntmps61
  go_wp2
  rw [← geoP_0 N T]
  refine wp_region_lit_lin [26,27] [0,1,2,3,4,5,6,7,8,9,10,11,12,13,14,15,16,17,18,19,20,21,22,23,24,25,26,27] (Ext [] _) (Ext []) Try.mix (by kernel_rfl) (Ext.refl []) (fun _ _ _ => Ext.trans') (fun _ _ => Ext.trans') ((Ext.refl _ _).drew) (fun X _ f hf => ?_)
  have hb : ∀ x, blk (f x) (w.heap.size + 1) = some (.cells (geoP N T 0) 24) := fun x => (hf x).blk (by simp [go_sem]) (by simp)
  clear hf
  repeat (refine lexX_step rfl rfl (fun K hK => ?_); go_simp; (try go_bits); (try (simp only [↓IntWalk.iteOmega]; go_simp)); (refine hK _ ?_; clear hK K))
  refine lexX_step rfl rfl (fun K hK => ?_); go_simp; refine ⟨_, fun x => ret_of (groom_cs T (geoP N T 0) (f x) hT (geoP_01 N T 0).2), hK _ ?_⟩; clear hK K
  repeat (refine lexX_step rfl rfl (fun K hK => ?_); go_simp; (try go_bits); (try (simp only [↓IntWalk.iteOmega]; go_simp)); (refine hK _ ?_; clear hK K))
  refine lexX_step rfl rfl (fun K hK => ?_); go_simp; refine ⟨_, fun x => ret_of (gNodes_cs N T (geoP N T 0) (f x) hN1 hN hT (geoP_01 N T 0).1 (geoP_01 N T 0).2), hK _ ?_⟩; clear hK K
  repeat (refine lexX_step rfl rfl (fun K hK => ?_); go_simp; (try go_bits); (try (simp only [↓IntWalk.iteOmega]; go_simp)); (refine hK _ ?_; clear hK K))
  refine lexX_step rfl rfl (fun K hK => ?_); go_simp; refine ⟨_, fun x => ret_of (gNodes_cs N T (geoP N T 0) (f x) hN1 hN hT (geoP_01 N T 0).1 (geoP_01 N T 0).2), hK _ ?_⟩; clear hK K
  repeat (refine lexX_step rfl rfl (fun K hK => ?_); go_simp; (try go_bits); (try (simp only [↓IntWalk.iteOmega]; go_simp)); (refine hK _ ?_; clear hK K))
  refine lexX_effp rfl rfl rfl (fun w1 hw1 K hK => ?_)
  go_simp
  refine ⟨(hw1.of_drew).alloc _, hK _ _ ?_⟩
  clear hK K
  refine lexX_effp rfl rfl rfl (fun w2 hw2 K hK => ?_)
  have hb2 := hw2.blk (blk_new _ _) (by simp)
  go_simp
  rw [szC_lit N T]
  refine ⟨?_, hK _ _ ?_⟩
  · exact ((hw1.of_drew.alloc _).trans' hw2).setRow (.inr hw1.of_drew.size) _
  clear hK K
  refine lexX_nil (fun w3 hw3 => ?_)
  have hsz : w.heap.size + 2 ≤ w1.heap.size := by have := hw1.of_drew.size; simp only [World.size_alloc] at this; omega
  have hx : Ext [] w w3 := ((((((Ext.refl [] w).alloc _).alloc _).trans' hw1.of_drew).alloc _).trans' hw2 |>.setRow (.inr (by omega)) _).trans' hw3
  have k7 : blk w3 w1.heap.size = some (.cells (szC N T) 158 (0, 0)) := hw3.blk (blk_setRow hb2 _) (by simp)
  have k6 : blk w3 (w.heap.size + 1) = some (.cells (geoP N T 0) 24 (0, 0)) := by
    refine hw3.blk ?_ (by simp)
    rw [blk_setRow_ne _ _ _ _ (by omega)]
    refine hw2.blk ?_ (by simp)
    rw [blk_old _ _ _ (by omega)]
    exact hw1.of_drew.blk (blk_at _ _ _ (by simp)) (by simp)
  have k4' := hw3.blk ((blk_setRow_ne w2 w1.heap.size w.heap.size _ (by omega)).trans (hw2.blk ((blk_old _ _ _ (by omega)).trans (hw1.of_drew.blk ((blk_old _ _ _ (by simp)).trans (blk_new _ _)) (by simp))) (by simp))) (by simp)
  obtain ⟨old, ho, k4⟩ : ∃ old, sizeIs old 22 = true ∧ blk w3 w.heap.size = some (.cells old 24 (0, 0)) := ⟨_, by simp [sizeIs, Value.oneCell'], k4'⟩
  clear k4'
  clear hw3 hb2 hw2 hw1 hb hE f
  generalize w1.heap.size = b7 at *
  go_wp2
  have HX := hid hx
  clear hx k7 m3 m4
  go_loopw [8, 9, 55] (fun _ _ i wr => ∃ k : Nat, k ≤ 19 ∧ i = .int .i64 k ∧ blk wr (w.heap.size + 1) = some (.cells (geoP N T k) 24 (0, 0)) ∧ blk wr w.heap.size = some (.cells old 24 (0, 0)) ∧ Ext [w.heap.size + 1] w3 wr) (fun _ _ i _ => 19 - (intOf i).toNat)
  case atStart => exact ⟨0, by omega, rfl, k6, k4, Ext.refl _ _⟩
  case round =>
    obtain ⟨k, hk, rfl, r6, r4, rx⟩ := hrel
    clear k6 k4
    have RX := hid rx
    have R6 := hid r6
    by_cases hlt : k < 19
    · have hix := run_index_sz N T k hlt
      have g1 := gsum_le N T hN hT k
      have g2 := gsz_le N T k hN hT
      have c1 := (blk_cell r6 (2 + k)).trans (geoP_b N T k k (by omega) (Nat.le_refl _))
      have c2 := (blk_cell r6 (2 + (k + 1))).trans (geoP_z N T k (k + 1) (by omega) (by omega))
      have f1 := blk_free r6 (2 + (k + 1))
      have hkk : (2 + (k + 1) : Nat) = 2 + (k + 1) := rfl
      clear r6 rx hkk
      go_wp2
      refine ⟨⟨k + 1, by omega, by go_num, ?_, ?_, ?_⟩, by simp [intOf]; omega⟩
      · refine (blk_setCell R6.out _ _).trans ?_
        have := geoP_set N T k hlt
        rw [← this, gsum]; push_cast; rfl
      · rw [blk_set _ _ _ _ (by simp)]; exact r4
      · exact RX.out.setCell (.inl (by simp)) _
    · have hk19 : k = 19 := by omega
      subst hk19
      rw [geoP_19 N T hN1] at r6 R6
      have hn : w.heap.size ≠ w.heap.size + 1 := by omega
      clear rx
      go_wp2
      refine bodyPost_ret (v := .tuple #[.agg (geoC N T), .bool true]) ?_ rfl ⟨rfl, ?_⟩
      · rw [results_cell_tmp rfl]
        simp only [Array.getD_eq_getD_getElem?, List.getElem?_toArray, List.getElem?_cons_succ, List.getElem?_cons_zero, Option.getD_some, asAddr]
        rw [Sem.run_pure, Result.andThen_ok, load_geo (blk_setRow r4 _)]
        rfl
      · exact (HX.out.trans ((RX.out.mono (Y := [w.heap.size + 1, w.heap.size]) (by simp)).setRow (.inl (by simp)) _) (by simp) (by simp))
end Go.Proofs.Ytjdbknnacaacaaa
