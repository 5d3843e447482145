/-
  The abstract machine, part 7: a region that draws its order: one row of what its operations do serves every order.
  No condition: laws.
-/
import Derived.Test.YtceddijolfpppaaAx6
namespace Go.Proofs.Ytceddijolfpppaa
open Go Go.RowKit
set_option linter.unusedSimpArgs false
set_option linter.unusedVariables false

structure DSpec (W : List Nat) (ops : Array Oper) : Prop where
  sel : Region.noSelect ops = true
  deps : ∀ j oj, ops[j]? = some oj → ∀ d ∈ depsOf oj, d < j
  loud : ∀ j oj, ops[j]? = some oj → wrB W j oj = true → loudB W j oj = true
  meet : ∀ (i j : Nat) oi oj, i < j → ops[i]? = some oi → ops[j]? = some oj →
    ((∃ d, oi.dst = some d ∧ d ∈ namesOf ops oj) ∨ (∃ d, oj.dst = some d ∧ d ∈ namesOf ops oi) ∨ (wrB W i oi = true ∧ loudB W j oj = true) ∨ (loudB W i oi = true ∧ wrB W j oj = true) ∨ (isCallO oi = true ∧ isCallO oj = true)) → ((masksFrom ops.toList []).getD j 0).testBit i = true

theorem drawB_spec {W : List Nat} {ops : Array Oper} (h : drawB W ops = true) : DSpec W ops := by
  simp only [drawB, Bool.and_eq_true, List.all_eq_true, List.mem_range] at h
  obtain ⟨h1, h2⟩ := h
  refine ⟨h1, fun j oj hj => ?_, fun j oj hj hw => ?_, fun i j oi oj hij hi hj hm => ?_⟩
  · have := (h2 j (Array.getElem?_eq_some_iff.1 hj).1).1
    rw [hj] at this
    simp only [Bool.and_eq_true, List.all_eq_true, decide_eq_true_eq] at this
    exact this.1
  · have := (h2 j (Array.getElem?_eq_some_iff.1 hj).1).1
    rw [hj] at this
    simp only [Bool.and_eq_true, hw, Bool.not_true, Bool.false_or] at this
    exact this.2
  · have := (h2 j (Array.getElem?_eq_some_iff.1 hj).1).2 i hij
    unfold pairD at this
    simp only [hi, hj] at this
    rw [Bool.or_eq_true] at this
    rcases this with h | h
    · exfalso
      simp only [Bool.not_eq_true', Bool.or_eq_false_iff, Bool.and_eq_false_iff] at h
      obtain ⟨⟨⟨⟨ha, hb⟩, hc⟩, hd⟩, he⟩ := h
      rcases hm with ⟨d, hd', hin⟩ | ⟨d, hd', hin⟩ | ⟨k1, k2⟩ | ⟨k1, k2⟩ | ⟨k1, k2⟩
      · simp [hd'] at ha; exact ha hin
      · simp [hd'] at hb; exact hb hin
      · simp [k1, k2] at hc
      · simp [k1, k2] at hd
      · simp [k1, k2] at he
    · exact h

theorem valA_next {P : Program} {e : Operand → Value} {h : AHeap} {n : Nat} {o : Op} : valA P e (atN h n) o = valA P e h o := by
  unfold valA loadA sliceA
  cases o <;> rfl
theorem newA_loud {P : Program} {e : Operand → Value} {h : AHeap} {n : Nat} {o : Oper} {x : Value × Option Blk} (hv : newA P e h n o.op = some x) : isNewO o = true := by
  unfold newA at hv
  unfold isNewO
  split at hv <;> simp_all
theorem callA_call {P : Program} {e : Operand → Value} {o : Oper} {x : FuncId × Array Value} (h : callA P e o.op = some x) : isCallO o = true := by
  unfold callA at h
  unfold isCallO
  split at h <;> simp_all
theorem wrA_loud {P : Program} {e : Operand → Value} {h : AHeap} {o : Oper} {x : Value × AHeap} (hv : wrA P e h o.op = some x) : isCallO o = false ∧ (isStoreO o = true ∨ isNewO o = true) := by
  unfold wrA at hv
  unfold isNewO isStoreO isCallO
  split at hv <;> simp_all
theorem valA_still {P : Program} {e : Operand → Value} {h : AHeap} {o : Oper} {x : Value} (hv : valA P e h o.op = some x) : isCallO o = false := by
  unfold valA at hv
  unfold isCallO
  split at hv <;> simp_all
  unfold builtA at hv
  split at hv <;> simp_all

theorem loud_of_store {o : Oper} (h : isStoreO o = true) : loudO o = true := by simp [loudO, h]
theorem loud_of_new {o : Oper} (h : isNewO o = true) : loudO o = true := by simp [loudO, h]
theorem loud_of_call {o : Oper} (h : isCallO o = true) : loudO o = true := by simp [loudO, h]
theorem loud_of_load {o : Oper} (h : isLoadO o = true) : loudO o = true := by simp [loudO, h]

theorem valA_heap {P : Program} {e : Operand → Value} {h h' : AHeap} {o : Oper} (hl : isLoadO o = false) : valA P e h o.op = valA P e h' o.op := by
  unfold isLoadO at hl
  unfold valA
  split <;> first | rfl | (simp_all; done)

/-- A heap without rows. -/
def bareH (n : Nat) : AHeap := ⟨fun _ => none, n⟩

section
variable {P : Program} {σ : Type} {X : Face P σ} {W : List Nat} {ops : Array Oper} {n0 : Nat} {hf : AHeap} {rec : Nat → DRec σ}

theorem op0_facts {o : Oper} {e : Operand → Value} {h h' : AHeap} {S S' : σ} {v : Value} (H : Op0 X o e h S v h' S') :
    h.next ≤ h'.next ∧ (isCallO o = false → S' = S) ∧ ((∀ n b, h.get n = some b → n < h.next) → ∀ n b, h'.get n = some b → n < h'.next) ∧ (loudO o = false → h' = h ∧ S' = S ∧ ∀ (h2 : AHeap) (S2 : σ), Op0 X o e h2 S2 v h2 S2) ∧ (isCallO o = false → ∀ S2 : σ, Op0 X o e h S2 v h' S2) := by
  have hs := op0_sem H
  refine ⟨hs.1, ?_, ?_, ?_, ?_⟩
  · intro hc
    rcases H with ⟨_, _, h3⟩ | ⟨ob, _, _, h3⟩ | ⟨_, h3⟩ | ⟨f, g, args, hca, _⟩
    · exact h3
    · exact h3
    · exact h3
    · rw [callA_call hca] at hc; cases hc
  · intro hlow
    rcases H with ⟨_, h2, _⟩ | ⟨ob, _, h2, _⟩ | ⟨hv, _⟩ | ⟨f, g, args, _, _, _, _, h2⟩
    · rw [h2]; exact hlow
    · rw [h2]
      intro n b hb
      rw [AHeap.addO_get] at hb
      show n < h.next + 1
      split at hb
      · omega
      · have := hlow n b hb; omega
    · unfold wrA at hv
      repeat' split at hv
      all_goals first
        | (cases hv; done)
        | (cases hv; exact hlow)
        | (rename_i bk _ _ hbk _; cases hv; intro n b hb; rw [AHeap.put_get] at hb; show n < h.next; split at hb; (rename_i he; rw [he]; exact hlow _ _ ‹h.get _ = some _›); exact hlow n b hb)
        | (cases hv; intro n b hb; rw [AHeap.addO_get] at hb; show n < h.next + 1; split at hb; (rename_i he; rw [he]; exact Nat.lt_succ_self _); rw [AHeap.putO_get] at hb; split at hb; cases hb; have := hlow n b hb; omega)
        | (rename_i a _; cases hs' : storeA P h _ a _ with
            | none => rw [hs'] at hv; cases hv
            | some h1 =>
              rw [hs'] at hv
              cases hv
              obtain ⟨b0, s, hb0, _, _, _, _, _, _, rfl⟩ := storeA_spec hs'
              intro n b hb; rw [AHeap.put_get] at hb; show n < h.next; split at hb
              · rename_i he; rw [he]; exact hlow _ _ hb0
              · exact hlow n b hb)
    · rw [h2]; exact hlow
  · intro hl
    have hn1 : isNewO o = false := by cases h : isNewO o with | false => rfl | true => rw [loud_of_new h] at hl; cases hl
    have hn2 : isStoreO o = false := by cases h : isStoreO o with | false => rfl | true => rw [loud_of_store h] at hl; cases hl
    have hn3 : isCallO o = false := by cases h : isCallO o with | false => rfl | true => rw [loud_of_call h] at hl; cases hl
    have hn4 : isLoadO o = false := by cases h : isLoadO o with | false => rfl | true => rw [loud_of_load h] at hl; cases hl
    rcases H with ⟨hv, h2, h3⟩ | ⟨ob, hv, _⟩ | ⟨hv, _⟩ | ⟨f, g, args, hca, _⟩
    · exact ⟨h2, h3, fun h2 S2 => .inl ⟨by rw [valA_heap (h' := h) hn4]; exact hv, rfl, rfl⟩⟩
    · rw [newA_loud hv] at hn1; cases hn1
    · rcases (wrA_loud hv).2 with h | h
      · rw [h] at hn2; cases hn2
      · rw [h] at hn1; cases hn1
    · rw [callA_call hca] at hn3; cases hn3
  · intro hc S2
    rcases H with ⟨h1, h2, _⟩ | ⟨ob, h1, h2, _⟩ | ⟨h1, _⟩ | ⟨f, g, args, hca, _⟩
    · exact .inl ⟨h1, h2, rfl⟩
    · exact .inr (.inl ⟨ob, h1, h2, rfl⟩)
    · exact .inr (.inr (.inl ⟨h1, rfl⟩))
    · rw [callA_call hca] at hc; cases hc

/-- Where no function is called the state is of no concern. -/
def OpSems (X : Face P σ) (o : Oper) (e : Operand → Value) (h : AHeap) (S : σ) (v : Value) (h' : AHeap) (S' : σ) : Prop :=
  (isCallO o = true → OpSem X o e h S v h' S') ∧ (isCallO o = false → ∀ S2, OpSem X o e h S2 v h' S2)
theorem op0_sems {o : Oper} {e : Operand → Value} {h h' : AHeap} {S S' : σ} {v : Value} (H : Op0 X o e h S v h' S') : OpSems X o e h S v h' S' :=
  ⟨fun _ => op0_sem H, fun hc S2 => op0_sem ((op0_facts H).2.2.2.2 hc S2)⟩
theorem call_sems {o : Oper} {e : Operand → Value} {h h' : AHeap} {S S' : σ} {v : Value} {f : FuncId} {g : Func} {c : Code} {zs : Array Value} {E Q : Emb} {hc h1 : AHeap} {ex : List Nat} {v0 : Value}
    (C : CallOK X o e h S v h' S' f g c zs E Q hc h1 ex v0) (hcn : X.cnt S ≤ X.cnt S') (hrun : Simul X g (fun x => x = .done v0 h1 S') (.run (enterL g c zs).1 (enterL g c zs).2 hc S)) : OpSems X o e h S v h' S' :=
  ⟨fun _ => call_sem C hcn hrun, fun h => by rw [callA_call C.call] at h; cases h⟩

/-- What becomes of the heap. -/
structure HStep (X : Face P σ) (W : List Nat) (i : Nat) (o : Oper) (p q : DRec σ) : Prop where
  tmps : q.tmps = putL o.dst p.v p.tmps
  next : p.h.next ≤ q.h.next
  born : q.born = bornN i p.h.next q.h.next ++ p.born
  stay : wrB W i o = false → ∀ n, n < p.h.next → q.h.get n = p.h.get n
  low : (∀ n b, p.h.get n = some b → n < p.h.next) → ∀ n b, q.h.get n = some b → n < q.h.next
  loud : loudB W i o = false → q.h.next = p.h.next
  lim : q.h.next = p.h.next ∨ q.h.next ≤ VB
  state : isCallO o = false → q.S = p.S

/-- What an operation does, as it is seen from its own place. -/
def Sem1 (X : Face P σ) (W : List Nat) (ops : Array Oper) (n0 : Nat) (hf : AHeap) (i : Nat) (o : Oper) (p q : DRec σ) : Prop :=
  (Region.wanted o (yieldedL ops p.tmps) = false ∧ p.v = undef ∧ q.h = p.h ∧ q.S = p.S) ∨
  (Region.wanted o (yieldedL ops p.tmps) = true ∧ o.op.operands.all operB = true ∧ wrB W i o = true ∧ OpSems X o (evA p.tmps) p.h p.S p.v q.h q.S) ∨
  (Region.wanted o (yieldedL ops p.tmps) = true ∧ o.op.operands.all operB = true ∧ wrB W i o = false ∧ ∃ hv, OpSems X o (evA p.tmps) (if loudB W i o = true then visH n0 p.born ((masksFrom ops.toList []).getD i 0) p.h else if farB W i = true then atN hf p.h.next else bareH p.h.next) p.S p.v hv q.S ∧ q.h = glueH p.h hv)

structure Chain (X : Face P σ) (W : List Nat) (ops : Array Oper) (n0 : Nat) (hf : AHeap) (rec : Nat → DRec σ) : Prop where
  still : ∀ n b, hf.get n = some b → n < n0 ∧ ∃ b0, b = { b0 with ro := true } ∧ ∀ j, j ≤ ops.size → (rec j).h.get n = some b0
  step : ∀ i o, ops[i]? = some o → HStep X W i o (rec i) (rec (i + 1))
  sem : ∀ i o, ops[i]? = some o → Sem1 X W ops n0 hf i o (rec i) (rec (i + 1))
  born0 : (rec 0).born = []
  next0 : (rec 0).h.next = n0
  low0 : ∀ n b, (rec 0).h.get n = some b → n < n0

theorem glue_low {h hv : AHeap} (hn : h.next ≤ hv.next) (hl : ∀ n b, h.get n = some b → n < h.next) : ∀ n b, (glueH h hv).get n = some b → n < (glueH h hv).next := by
  intro n b hb
  show n < hv.next
  unfold glueH at hb
  simp only at hb
  split at hb
  · split at hb
    · assumption
    · cases hb
  · have := hl n b hb; omega
theorem glue_stay {h hv : AHeap} {n : Nat} (hn : n < h.next) : (glueH h hv).get n = h.get n := by
  unfold glueH
  simp only
  rw [if_neg (by omega)]
theorem glue_same {h : AHeap} (hl : ∀ n b, h.get n = some b → n < h.next) : glueH h h = h := by
  unfold glueH
  cases h with
  | mk get next =>
    congr 1
    funext n
    simp only
    split
    · rw [if_neg (by omega)]
      cases hg : get n with
      | none => rfl
      | some b => have := hl n b hg; simp only at this; omega
    · rfl

theorem bornN_nil (i a : Nat) : bornN i a a = [] := by simp [bornN]
theorem mem_bornN {i a b j n : Nat} : (j, n) ∈ bornN i a b ↔ j = i ∧ a ≤ n ∧ n < b := by
  unfold bornN
  simp only [List.mem_map, List.mem_range'_1, Prod.mk.injEq]
  constructor
  · rintro ⟨x, hx, rfl, rfl⟩
    exact ⟨rfl, by omega, by omega⟩
  · rintro ⟨rfl, h1, h2⟩
    exact ⟨n, ⟨h1, by omega⟩, rfl, rfl⟩

theorem back_low {o : Oper} {e : Operand → Value} {h h' : AHeap} {S S' : σ} {v : Value} {f : FuncId} {g : Func} {c : Code} {zs : Array Value} {E Q : Emb} {hc h1 : AHeap} {ex : List Nat} {v0 : Value}
    (C : CallOK X o e h S v h' S' f g c zs E Q hc h1 ex v0) (hl : ∀ n b, h.get n = some b → n < h.next) : ∀ n b, h'.get n = some b → n < h'.next := by
  intro n b hb
  rcases Nat.lt_or_ge n h'.next with hm | hm
  · exact hm
  · exfalso
    have hnx := C.back.next
    rcases C.back.old n (.inr hm) with ⟨h2, _⟩ | ⟨n', b0, h2, _, h4, _⟩
    · rw [h2] at hb; have := hl n b hb; omega
    · obtain ⟨b1, e1, _⟩ := C.lends.row n' b0 h2
      rw [h4] at e1
      have := hl n b1 e1; omega

theorem chain_mk (hst : ∀ n b, hf.get n = some b → n < n0 ∧ ∃ b0, b = { b0 with ro := true } ∧ ∀ j, j ≤ ops.size → (rec j).h.get n = some b0) (hgood : ∀ i o, ops[i]? = some o → GoodK X W ops n0 hf i o (rec i) (rec (i + 1))) (hb : (rec 0).born = []) (hn : (rec 0).h.next = n0) (hl : ∀ n b, (rec 0).h.get n = some b → n < n0)
    (hcs : ∀ i wr f g c zs E Q hc h1 ex v0, i < ops.size → (rec i).kind = .call wr f g c zs E Q hc h1 ex v0 → X.cnt (rec i).S ≤ X.cnt (rec (i + 1)).S ∧ Simul X g (fun x => x = .done v0 h1 (rec (i + 1)).S) (.run (enterL g c zs).1 (enterL g c zs).2 hc (rec i).S)) : Chain X W ops n0 hf rec := by
  have hl0 := hl
  have hsteps : ∀ i o, ops[i]? = some o → HStep X W i o (rec i) (rec (i + 1)) := by
    intro i o ho
    have hlt := (Array.getElem?_eq_some_iff.1 ho).1
    obtain ⟨g0, hg⟩ := hgood i o ho
    split at hg
    · obtain ⟨_, _, g3, g4, g5⟩ := hg
      exact ⟨g0, by rw [g3]; exact Nat.le_refl _, by rw [g5, g3, bornN_nil]; rfl, fun _ n _ => by rw [g3], fun h => by rw [g3]; exact h, fun _ => by rw [g3], .inl (by rw [g3]), fun _ => g4⟩
    · obtain ⟨_, _, _, _, _, g3, g4, g5⟩ := hg
      exact ⟨g0, by rw [g3]; exact Nat.le_refl _, by rw [g5, g3, bornN_nil]; rfl, fun _ n _ => by rw [g3], fun h => by rw [g3]; exact h, fun _ => by rw [g3], .inl (by rw [g3]), fun _ => g4⟩
    · obtain ⟨gf, g1, g2, g3, g4, g5⟩ := hg
      have hloud : loudB W i o = loudO o := by unfold loudB; rw [gf]; simp
      split at g5
      · obtain ⟨g6, g7⟩ := g5
        obtain ⟨f1, f2, f3, f4, _⟩ := op0_facts g7
        exact ⟨g0, f1, g4, fun h => (by rw [g6] at h; cases h), f3, fun h => by rw [hloud] at h; rw [(f4 h).1], g3, f2⟩
      · obtain ⟨g6, hv, g7, g8⟩ := g5
        obtain ⟨f1, f2, f3, f4, _⟩ := op0_facts g7
        have hnx : (rec (i + 1)).h.next = hv.next := by rw [g8]; rfl
        exact ⟨g0, by rw [hnx]; exact f1, g4, fun _ n hn => by rw [g8]; exact glue_stay hn, fun h => by rw [g8]; exact glue_low f1 h, fun h => by rw [hloud] at h; rw [hnx, (f4 h).1]; rfl, g3, f2⟩
    · rename_i hkind
      obtain ⟨gf, g1, g2, g3, g4, g5⟩ := hg
      have hloud : loudB W i o = loudO o := by unfold loudB; rw [gf]; simp
      obtain ⟨c1, c2⟩ := hcs i _ _ _ _ _ _ _ _ _ _ _ hlt hkind
      split at g5
      · obtain ⟨g6, g7⟩ := g5
        have := call_sem g7 c1 c2
        exact ⟨g0, this.1, g4, fun h => (by rw [g6] at h; cases h), back_low g7, fun h => (by rw [hloud, loud_of_call (callA_call g7.call)] at h; cases h), g3, fun h => (by rw [callA_call g7.call] at h; cases h)⟩
      · obtain ⟨g6, hv, g7, g8⟩ := g5
        have := call_sem g7 c1 c2
        have hnx : (rec (i + 1)).h.next = hv.next := by rw [g8]; rfl
        exact ⟨g0, by rw [hnx]; exact this.1, g4, fun _ n hn => by rw [g8]; exact glue_stay hn, fun h => by rw [g8]; exact glue_low this.1 h, fun h => (by rw [hloud, loud_of_call (callA_call g7.call)] at h; cases h), g3, fun h => (by rw [callA_call g7.call] at h; cases h)⟩
  refine ⟨hst, hsteps, fun i o ho => ?_, hb, hn, hl⟩
  · have hlt := (Array.getElem?_eq_some_iff.1 ho).1
    obtain ⟨g0, hg⟩ := hgood i o ho
    split at hg
    · obtain ⟨g1, g2, g3, g4, g5⟩ := hg
      exact .inl ⟨g1, g2, g3, g4⟩
    · obtain ⟨g1, g2, g6, gf, g7, g3, g4, g5⟩ := hg
      have hl : ¬ loudB W i o = true := by unfold loudB; rw [gf]; simp
      have hz : Op0 X o (evA (rec i).tmps) (atN hf (rec i).h.next) (rec i).S (rec i).v (atN hf (rec i).h.next) (rec (i + 1)).S := .inl ⟨by
        rw [← g7]
        exact valA_next, rfl, g4⟩
      refine .inr (.inr ⟨g1, g2, g6, atN hf (rec i).h.next, by rw [if_neg hl, if_pos gf]; exact op0_sems hz, ?_⟩)
      rw [g3]
      unfold glueH atN
      cases hh : (rec i).h with
      | mk get next =>
        congr 1
        funext n
        simp only
        split
        · rename_i hle
          rw [if_neg (by omega)]
          cases hg : get n with
          | none => rfl
          | some b =>
            exfalso
            have hlow : ∀ (j : Nat), j ≤ i → ∀ n b, (rec j).h.get n = some b → n < (rec j).h.next := by
              intro j
              induction j with
              | zero => intro _ n b hb; rw [hn]; exact hl0 n b hb
              | succ j ih =>
                intro hj
                have hjs : j < ops.size := by omega
                exact (hsteps j _ (Array.getElem?_eq_getElem hjs)).low (ih (by omega))
            have := hlow i (Nat.le_refl _) n b (by rw [hh]; exact hg)
            rw [hh] at this
            simp only at this
            omega
        · rfl
    · obtain ⟨gf, g1, g2, g3, g4, g5⟩ := hg
      have hloud : loudB W i o = loudO o := by unfold loudB; rw [gf]; simp
      split at g5
      · exact .inr (.inl ⟨g1, g2, g5.1, op0_sems g5.2⟩)
      · obtain ⟨g6, hv, g7, g8⟩ := g5
        by_cases hl : loudB W i o = true
        · exact .inr (.inr ⟨g1, g2, g6, hv, by rw [if_pos hl]; exact op0_sems g7, g8⟩)
        · obtain ⟨_, _, _, f4, _⟩ := op0_facts g7
          obtain ⟨f5, f6, f7⟩ := f4 (by rw [← hloud]; simpa using hl)
          refine .inr (.inr ⟨g1, g2, g6, bareH (rec i).h.next, by rw [if_neg hl, if_neg (by rw [gf]; decide), f6]; exact op0_sems (f7 _ _), ?_⟩)
          rw [g8, f5]
          unfold glueH bareH visH
          congr 1
          funext n
          simp only
          split
          · rw [if_neg (by omega), if_neg (by omega)]
          · rfl
    · rename_i hkind
      obtain ⟨gf, g1, g2, g3, g4, g5⟩ := hg
      have hloud : loudB W i o = loudO o := by unfold loudB; rw [gf]; simp
      obtain ⟨c1, c2⟩ := hcs i _ _ _ _ _ _ _ _ _ _ _ hlt hkind
      split at g5
      · exact .inr (.inl ⟨g1, g2, g5.1, call_sems g5.2 c1 c2⟩)
      · obtain ⟨g6, hv, g7, g8⟩ := g5
        exact .inr (.inr ⟨g1, g2, g6, hv, by rw [hloud, if_pos (loud_of_call (callA_call g7.call))]; exact call_sems g7 c1 c2, g8⟩)

theorem Chain.next_le (C : Chain X W ops n0 hf rec) : ∀ (d i : Nat), i + d ≤ ops.size → (rec i).h.next ≤ (rec (i + d)).h.next
  | 0, _, _ => Nat.le_refl _
  | d + 1, i, h => by
    have ih := C.next_le d i (by omega)
    have ho : ops[i + d]? = some ops[i + d] := Array.getElem?_eq_getElem (by omega)
    exact Nat.le_trans ih (C.step _ _ ho).next
theorem Chain.next_le' (C : Chain X W ops n0 hf rec) {i j : Nat} (h : i ≤ j) (hj : j ≤ ops.size) : (rec i).h.next ≤ (rec j).h.next := by
  obtain ⟨d, rfl⟩ := Nat.exists_eq_add_of_le h
  exact C.next_le d i hj

theorem Chain.low (C : Chain X W ops n0 hf rec) : ∀ (i : Nat), i ≤ ops.size → ∀ n b, (rec i).h.get n = some b → n < (rec i).h.next
  | 0, _, n, b, h => by rw [C.next0]; exact C.low0 n b h
  | i + 1, hi, n, b, h => by
    have ho : ops[i]? = some ops[i] := Array.getElem?_eq_getElem (by omega)
    exact (C.step _ _ ho).low (C.low i (by omega)) n b h

/-- Who was born, where and when. -/
theorem Chain.born (C : Chain X W ops n0 hf rec) : ∀ (i : Nat), i ≤ ops.size → ∀ j n, (j, n) ∈ (rec i).born → j < i ∧ (rec j).h.next ≤ n ∧ n < (rec (j + 1)).h.next ∧ n < (rec i).h.next ∧ n < VB ∧ ∃ o, ops[j]? = some o ∧ loudB W j o = true
  | 0, _, j, n, h => by rw [C.born0] at h; cases h
  | i + 1, hi, j, n, h => by
    have ih := C.born i (by omega)
    have ho : ops[i]? = some ops[i] := Array.getElem?_eq_getElem (by omega)
    have st := C.step _ _ ho
    rw [st.born, List.mem_append, mem_bornN] at h
    rcases h with ⟨rfl, h1, h2⟩ | h
    · refine ⟨by omega, h1, h2, h2, ?_, _, ho, ?_⟩
      · rcases st.lim with h3 | h3
        · omega
        · omega
      · cases hl : loudB W j ops[j] with
        | true => rfl
        | false => have := st.loud hl; omega
    · obtain ⟨k1, k2, k3, k4, k5⟩ := ih j n h
      exact ⟨by omega, k2, k3, by have := st.next; omega, k5⟩

theorem Chain.born_mono (C : Chain X W ops n0 hf rec) : ∀ (d i : Nat), i + d ≤ ops.size → ∀ x ∈ (rec i).born, x ∈ (rec (i + d)).born
  | 0, _, _, _, h => h
  | d + 1, i, hi, x, h => by
    have ih := C.born_mono d i (by omega) x h
    have ho : ops[i + d]? = some ops[i + d] := Array.getElem?_eq_getElem (by omega)
    rw [show i + (d + 1) = i + d + 1 by omega, (C.step _ _ ho).born]
    exact List.mem_append_right _ ih
theorem Chain.born_le (C : Chain X W ops n0 hf rec) {i j : Nat} (h : i ≤ j) (hj : j ≤ ops.size) {x : Nat × Nat} (hx : x ∈ (rec i).born) : x ∈ (rec j).born := by
  obtain ⟨d, rfl⟩ := Nat.exists_eq_add_of_le h
  exact C.born_mono d i hj x hx

/-- Each name of the region's own was born. -/
theorem Chain.all_born (C : Chain X W ops n0 hf rec) : ∀ (i : Nat), i ≤ ops.size → ∀ n, n0 ≤ n → n < (rec i).h.next → ∃ j, (j, n) ∈ (rec i).born
  | 0, _, n, h1, h2 => by rw [C.next0] at h2; omega
  | i + 1, hi, n, h1, h2 => by
    have ih := C.all_born i (by omega) n h1
    have ho : ops[i]? = some ops[i] := Array.getElem?_eq_getElem (by omega)
    have st := C.step _ _ ho
    by_cases hn : n < (rec i).h.next
    · obtain ⟨j, hj⟩ := ih hn
      exact ⟨j, by rw [st.born]; exact List.mem_append_right _ hj⟩
    · exact ⟨i, by rw [st.born, List.mem_append, mem_bornN]; exact .inl ⟨rfl, by omega, h2⟩⟩

/-- Where nothing is written, what is there stays. -/
theorem Chain.stays (C : Chain X W ops n0 hf rec) : ∀ (d i : Nat), i + d ≤ ops.size → (∀ j o, i ≤ j → j < i + d → ops[j]? = some o → wrB W j o = false) → ∀ n, n < (rec i).h.next → (rec (i + d)).h.get n = (rec i).h.get n
  | 0, _, _, _, _, _ => rfl
  | d + 1, i, hi, hno, n, hn => by
    have ih := C.stays d i (by omega) (fun j o h1 h2 => hno j o h1 (by omega)) n hn
    have ho : ops[i + d]? = some ops[i + d] := Array.getElem?_eq_getElem (by omega)
    rw [show i + (d + 1) = i + d + 1 by omega, ← ih]
    exact (C.step _ _ ho).stay (hno _ _ (by omega) (by omega) ho) n (by have := C.next_le d i (by omega); omega)
theorem Chain.stays' (C : Chain X W ops n0 hf rec) {i e : Nat} (h : i ≤ e) (he : e ≤ ops.size) (hno : ∀ j o, i ≤ j → j < e → ops[j]? = some o → wrB W j o = false) {n : Nat} (hn : n < (rec i).h.next) : (rec e).h.get n = (rec i).h.get n := by
  obtain ⟨d, rfl⟩ := Nat.exists_eq_add_of_le h
  exact C.stays d i he hno n hn

theorem Chain.states (C : Chain X W ops n0 hf rec) : ∀ (d i : Nat), i + d ≤ ops.size → (∀ j o, i ≤ j → j < i + d → ops[j]? = some o → isCallO o = false) → (rec (i + d)).S = (rec i).S
  | 0, _, _, _ => rfl
  | d + 1, i, hi, hno => by
    have ih := C.states d i (by omega) (fun j o h1 h2 => hno j o h1 (by omega))
    have ho : ops[i + d]? = some ops[i + d] := Array.getElem?_eq_getElem (by omega)
    rw [show i + (d + 1) = i + d + 1 by omega, (C.step _ _ ho).state (hno (i + d) _ (by omega) (by omega) ho), ih]
theorem Chain.states' (C : Chain X W ops n0 hf rec) {i e : Nat} (h : i ≤ e) (he : e ≤ ops.size) (hno : ∀ j o, i ≤ j → j < e → ops[j]? = some o → isCallO o = false) : (rec e).S = (rec i).S := by
  obtain ⟨d, rfl⟩ := Nat.exists_eq_add_of_le h
  exact C.states d i he hno

/-- The next of a kind, from a place on. -/
theorem next_of (p : Nat → Oper → Bool) (ops : Array Oper) : ∀ (d i : Nat), i + d = ops.size → ∃ e, i ≤ e ∧ e ≤ ops.size ∧ (∀ j o, i ≤ j → j < e → ops[j]? = some o → p j o = false) ∧ (e = ops.size ∨ ∃ o, ops[e]? = some o ∧ p e o = true)
  | 0, i, h => ⟨i, Nat.le_refl _, by omega, fun j o h1 h2 => by omega, .inl (by omega)⟩
  | d + 1, i, h => by
    have ho : ops[i]? = some ops[i] := Array.getElem?_eq_getElem (by omega)
    cases hp : p i ops[i] with
    | true => exact ⟨i, Nat.le_refl _, by omega, fun j o h1 h2 => by omega, .inr ⟨_, ho, hp⟩⟩
    | false =>
      obtain ⟨e, h1, h2, h3, h4⟩ := next_of p ops d (i + 1) (by omega)
      refine ⟨e, by omega, h2, fun j o k1 k2 hj => ?_, h4⟩
      by_cases hji : j = i
      · subst hji; rw [ho] at hj; cases hj; exact hp
      · exact h3 j o (by omega) k2 hj

/-! ### what holds while the region is under way -/

variable (rec) in
def bornD (ops : Array Oper) (listed : Array Bool) (n : Nat) : Bool := (rec ops.size).born.any fun p => p.2 == n && listed.getD p.1 false
variable (X rec) in
def KD (ops : Array Oper) (n0 : Nat) (listed : Array Bool) (c : Nat) (n : Nat) : Prop := n < n0 ∨ bornD rec ops listed n = true ∨ (VB ≤ n ∧ n < VB + X.cnt (rec c).S)
variable (rec) in
def hD (ops : Array Oper) (n0 : Nat) (listed : Array Bool) (e : Nat) : AHeap := ⟨fun n => if n < n0 ∨ bornD rec ops listed n = true then (rec e).h.get n else none, (rec ops.size).h.next⟩
def dstD (ops : Array Oper) (p : Nat) : Option Tmp := (ops[p]?).bind (·.dst)
variable (rec) in
def slotD (ops : Array Oper) (listed : Array Bool) (t : Nat) : Value := slotAt (dstD ops) (fun j => (rec j).v) (fun j => listed.getD j false) ⟨(rec 0).tmps.toArray, []⟩ t ops.size

structure DInv (X : Face P σ) (W : List Nat) (ops : Array Oper) (n0 : Nat) (rec : Nat → DRec σ) (F0 : Emb) (w0 : World) (M : Nat → Prop) (listed : Array Bool) (a : Act) (w : World) (F : Emb) (e c : Nat) : Prop where
  size : listed.size = ops.size
  down : ∀ i o, ops[i]? = some o → listed.getD i false = true → ∀ d ∈ depsOf o, listed.getD d false = true
  tmps : a.tmps.size = (rec 0).tmps.length
  defers : a.defers = []
  slots : ∀ t, t < (rec 0).tmps.length → a.tmps.getD t undef = ren F (slotD rec ops listed t)
  vst : ∀ j, listed.getD j false = true → Stab (KD X rec ops n0 listed c) F (rec j).v
  tst : ∀ v ∈ (rec 0).tmps, Stab (KD X rec ops n0 listed c) F v
  ele : e ≤ ops.size
  edone : ∀ i o, i < e → ops[i]? = some o → wrB W i o = true → listed.getD i false = true
  eopen : ∀ i o, e ≤ i → ops[i]? = some o → wrB W i o = true → listed.getD i false = false
  eat : e = ops.size ∨ ∃ o, ops[e]? = some o ∧ wrB W e o = true
  cle : c ≤ ops.size
  cdone : ∀ i o, i < c → ops[i]? = some o → isCallO o = true → listed.getD i false = true
  copen : ∀ i o, c ≤ i → ops[i]? = some o → isCallO o = true → listed.getD i false = false
  holds : Holds F (hD rec ops n0 listed e) w
  nVB : n0 ≤ VB
  hst : ∀ n b, (hD rec ops n0 listed e).get n = some b → ∀ v ∈ b.cells, Stab (KD X rec ops n0 listed c) F v
  rep : X.rep F (rec c).S w
  kept : Kept w0 M w
  own : ∀ n b, (hD rec ops n0 listed e).get n = some b → b.ro = false → F.blk n < w0.heap.size → M (F.blk n)
  fown : ∀ b, X.fp F (rec c).S b → b < w0.heap.size → M b
  sep : ∀ n b, (hD rec ops n0 listed e).get n = some b → ¬ X.fp F (rec c).S (F.blk n)
  same : Same (Kn n0 (X.cnt (rec 0).S)) F0 F
  cnt : X.cnt (rec 0).S ≤ X.cnt (rec c).S

theorem hD_get {listed : Array Bool} {e n : Nat} {b : Blk} (h : (hD rec ops n0 listed e).get n = some b) : (n < n0 ∨ bornD rec ops listed n = true) ∧ (rec e).h.get n = some b := by
  unfold hD at h
  simp only at h
  split at h
  · rename_i hc; exact ⟨hc, h⟩
  · cases h
theorem hD_mk {listed : Array Bool} {e n : Nat} {b : Blk} (hc : n < n0 ∨ bornD rec ops listed n = true) (h : (rec e).h.get n = some b) : (hD rec ops n0 listed e).get n = some b := by
  unfold hD
  simp only [if_pos hc, h]

theorem bornD_iff {listed : Array Bool} {n : Nat} : bornD rec ops listed n = true ↔ ∃ j, (j, n) ∈ (rec ops.size).born ∧ listed.getD j false = true := by
  unfold bornD
  rw [List.any_eq_true]
  constructor
  · rintro ⟨⟨j, m⟩, h1, h2⟩
    simp only [Bool.and_eq_true, beq_iff_eq] at h2
    exact ⟨j, by rw [← h2.1]; exact h1, h2.2⟩
  · rintro ⟨j, h1, h2⟩
    exact ⟨(j, n), h1, by simpa using h2⟩

end
end Go.Proofs.Ytceddijolfpppaa
