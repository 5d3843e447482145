/-
  The abstract machine, part 8: one operation of a region that draws its order, at whatever time it comes.
  No condition: laws.
-/
import Derived.Test.YtceddijolfpppaaAx7
namespace Go.Proofs.Ytceddijolfpppaa
open Go Go.RowKit
set_option linter.unusedSimpArgs false
set_option linter.unusedVariables false

section
variable {P : Program} {σ : Type} {X : Face P σ} {W : List Nat} {ops : Array Oper} {n0 : Nat} {hf : AHeap} {rec : Nat → DRec σ} {F0 : Emb} {w0 : World} {M : Nat → Prop}

theorem Holds.sub {F : Emb} {h h1 : AHeap} {w : World} (H : Holds F h w) (hs : ∀ n b, h1.get n = some b → h.get n = some b) : Holds F h1 w :=
  ⟨fun n b hb => H.row n b (hs n b hb), fun n m b c hb hc hne hro => H.apart n m b c (hs n b hb) (hs m c hc) hne hro⟩

theorem slotAt_stab {K : Nat → Prop} {F : Emb} {dst : Nat → Option Tmp} {val : Nat → Value} {D : Nat → Bool} {a0 : Act} {t : Nat} (h0 : Stab K F (a0.tmps.getD t undef)) : ∀ n, (∀ j, j < n → D j = true → Stab K F (val j)) → Stab K F (slotAt dst val D a0 t n)
  | 0, _ => h0
  | n + 1, h => by
    rw [slotAt]
    split
    · rename_i hc; exact h n (Nat.lt_succ_self n) hc.1
    · exact slotAt_stab h0 n (fun j hj => h j (Nat.lt_succ_of_lt hj))

/-- Two operations that keep their row. -/
def MeetD (W : List Nat) (ops : Array Oper) (i : Nat) (x : Oper) (j : Nat) (y : Oper) : Prop :=
  (∃ d, x.dst = some d ∧ d ∈ namesOf ops y) ∨ (∃ d, y.dst = some d ∧ d ∈ namesOf ops x) ∨ (wrB W i x = true ∧ loudB W j y = true) ∨ (loudB W i x = true ∧ wrB W j y = true) ∨ (isCallO x = true ∧ isCallO y = true)
theorem MeetD.symm {i j : Nat} {x y : Oper} (h : MeetD W ops i x j y) : MeetD W ops j y i x := by
  rcases h with h | h | h | h | h
  · exact .inr (.inl h)
  · exact .inl h
  · exact .inr (.inr (.inr (.inl ⟨h.2, h.1⟩)))
  · exact .inr (.inr (.inl ⟨h.2, h.1⟩))
  · exact .inr (.inr (.inr (.inr ⟨h.2, h.1⟩)))

/-- An operation that is ready: what is done of those that it meets. -/
structure Ready (W : List Nat) (ops : Array Oper) (listed : Array Bool) (i : Nat) (o : Oper) : Prop where
  at' : ops[i]? = some o
  lt : i < ops.size
  un : listed.getD i false = false
  deps : ∀ d ∈ depsOf o, listed.getD d false = true
  mask : ∀ k, ((masksFrom ops.toList []).getD i 0).testBit k = true → listed.getD k false = true
  meet : ∀ j oj, j ≠ i → ops[j]? = some oj → MeetD W ops j oj i o → listed.getD j false = decide (j < i)
  loud : wrB W i o = true → loudB W i o = true

theorem ready_of (L : DSpec W ops) {listed : Array Bool} (hsize : listed.size = ops.size) (hdown : ∀ i o, ops[i]? = some o → listed.getD i false = true → ∀ d ∈ depsOf o, listed.getD d false = true) {i : Nat} (hi : i ∈ Region.ready .any ops listed) : ∃ o, Ready W ops listed i o := by
  obtain ⟨hun, o, ho, hall⟩ := mem_ready.1 hi
  have hlt : i < ops.size := (Array.getElem?_eq_some_iff.1 ho).1
  have hunf : listed.getD i false = false := by rw [getD_ff (by rw [hsize]; exact hlt) false true]; exact hun
  have hdeps : ∀ d ∈ depsOf o, listed.getD d false = true := fun d hd => by
    obtain ⟨e, he, hb, rfl⟩ := deps_mem hd
    exact hall e he hb
  have hmask := mask_done (D := fun x => listed.getD x false = true) hdown i o ho hdeps
  refine ⟨o, ho, hlt, hunf, hdeps, hmask, fun j oj hne hj hm => ?_, L.loud i o ho⟩
  rcases Nat.lt_or_gt_of_ne hne with h | h
  · have := hmask j (L.meet j i oj o h hj ho hm)
    simpa [h] using this
  · have hb := L.meet i j o oj h ho hj hm.symm
    have hnd : ¬ listed.getD j false = true := fun hl => by
      have := mask_done (D := fun x => listed.getD x false = true) hdown j oj hj (hdown j oj hj hl) i hb
      rw [hunf] at this; exact Bool.noConfusion this
    have : ¬ j < i := by omega
    simpa [this] using hnd

theorem getD_set {listed : Array Bool} {i : Nat} (hi : i < listed.size) (j : Nat) : (listed.setIfInBounds i true).getD j false = (listed.getD j false || j == i) := by
  by_cases hji : j = i
  · subst hji; simp [hi]
  · rw [getD_set_ne false (Ne.symm hji)]
    have : (j == i) = false := by simpa using hji
    rw [this]; simp

theorem Chain.rows (C : Chain X W ops n0 hf rec) : ∀ p, p < ops.size → (⟨(rec (p + 1)).tmps.toArray, []⟩ : Act) = (⟨(rec p).tmps.toArray, []⟩ : Act).put (dstD ops p) (rec p).v := by
  intro p hp
  have ho : ops[p]? = some ops[p] := Array.getElem?_eq_getElem hp
  have h := (C.step p _ ho).tmps
  unfold dstD
  rw [ho]
  simp only [Option.bind_some]
  rw [h]
  cases ops[p].dst <;> simp [Act.put, putL]

/-- A slot that the operation names. -/
theorem slot_of (C : Chain X W ops n0 hf rec) {listed : Array Bool} {i : Nat} {o : Oper} (R : Ready W ops listed i o) {t : Nat} (ht : t ∈ namesOf ops o) :
    (rec i).tmps.length = (rec 0).tmps.length ∧ (t < (rec 0).tmps.length → (rec i).tmps.getD t undef = slotD rec ops listed t) := by
  have hw := walk_slots (dst := dstD ops) (r := fun p => ⟨true, (rec p).v, ⟨(rec p).tmps.toArray, []⟩⟩) (a0 := ⟨(rec 0).tmps.toArray, []⟩) (n := ops.size) rfl (fun p hp => C.rows p hp) i (Nat.le_of_lt R.lt)
  obtain ⟨h1, _, h3⟩ := hw
  simp only [List.size_toArray] at h1 h3
  refine ⟨h1, fun htl => ?_⟩
  have := h3 t htl
  have e1 : ((rec i).tmps.toArray).getD t undef = (rec i).tmps.getD t undef := by simp [List.getD]
  rw [e1] at this
  rw [this]
  unfold slotD
  rw [slotAt_cut (m := i) ops.size (Nat.le_of_lt R.lt)]
  · refine slotAt_congr i fun j hj hd => ⟨?_, rfl⟩
    unfold dstD at hd
    cases hoj : ops[j]? with
    | none => rw [hoj] at hd; cases hd
    | some oj =>
      rw [hoj] at hd
      have := R.meet j oj (by omega) hoj (.inl ⟨t, hd, ht⟩)
      simpa [hj] using this.symm
  · intro j h1 h2 hd
    by_cases hji : j = i
    · subst hji; exact R.un
    · unfold dstD at hd
      cases hoj : ops[j]? with
      | none => rw [hoj] at hd; cases hd
      | some oj =>
        rw [hoj] at hd
        have h0 : ¬ j < i := by omega
        have := R.meet j oj hji hoj (.inl ⟨t, hd, ht⟩)
        simpa [h0] using this

theorem DInv.slot_stab {listed : Array Bool} {a : Act} {w : World} {F : Emb} {e c : Nat} (I : DInv X W ops n0 rec F0 w0 M listed a w F e c) (t : Nat) : Stab (KD X rec ops n0 listed c) F (slotD rec ops listed t) := by
  unfold slotD
  refine slotAt_stab ?_ _ fun j _ hj => I.vst j hj
  simp only [Array.getD_eq_getD_getElem?, List.getElem?_toArray]
  cases h : (rec 0).tmps[t]? with
  | none => exact Stab.undef
  | some v => exact I.tst v (List.mem_of_getElem? h)

/-- What the operation meets in the model is what it meets in the row. -/
theorem DInv.same_at {listed : Array Bool} {a : Act} {w : World} {F : Emb} {e c : Nat} (I : DInv X W ops n0 rec F0 w0 M listed a w F e c) (C : Chain X W ops n0 hf rec) (L : DSpec W ops) {i : Nat} {o : Oper} (R : Ready W ops listed i o) {F' : Emb} (hs : Same (KD X rec ops n0 listed c) F F') :
    execOp a.eval o = execOp (actF F' (rec i).tmps).eval o ∧ Region.wanted o (yielded ops a.tmps) = Region.wanted o (yieldedL ops (rec i).tmps) := by
  have key : ∀ t, t ∈ o.looksAt ops → a.tmps.getD t undef = (actF F' (rec i).tmps).tmps.getD t undef := by
    intro t ht
    obtain ⟨h1, h2⟩ := slot_of C R (t := t) (List.mem_append_left _ ht)
    have e1 : (actF F' (rec i).tmps).tmps.getD t undef = ren F' ((rec i).tmps.getD t undef) := actF_eval F' (rec i).tmps (.tmp t) rfl
    by_cases htl : t < (rec 0).tmps.length
    · rw [e1, h2 htl, I.slots t htl, I.slot_stab t F' hs]
    · have g1 : (rec 0).tmps.length ≤ t := Nat.le_of_not_lt htl
      have g2 : (rec i).tmps.length ≤ t := by rw [h1]; exact g1
      have g3 : a.tmps.size ≤ t := by rw [I.tmps]; exact g1
      rw [e1, show (rec i).tmps.getD t undef = undef by simp [List.getD, List.getElem?_eq_none g2], ren_undef]
      simp [Array.getElem?_eq_none g3]
  obtain ⟨h1, h2⟩ := same_op L.sel R.at' key
  exact ⟨h1, h2.trans (actF_wanted _ _ _ _)⟩

/-- The bookkeeping behind an operation. -/
theorem DInv.mk' {listed : Array Bool} {a : Act} {w w' : World} {F F' : Emb} {e c e' c' : Nat} (I : DInv X W ops n0 rec F0 w0 M listed a w F e c) {i : Nat} {o : Oper} (R : Ready W ops listed i o)
    (hF : Same (KD X rec ops n0 listed c) F F') (hK : ∀ n, KD X rec ops n0 listed c n → KD X rec ops n0 (listed.setIfInBounds i true) c' n) (hv : Stab (KD X rec ops n0 (listed.setIfInBounds i true) c') F' (rec i).v)
    (he : e' ≤ ops.size ∧ (∀ j o, j < e' → ops[j]? = some o → wrB W j o = true → (listed.setIfInBounds i true).getD j false = true) ∧ (∀ j o, e' ≤ j → ops[j]? = some o → wrB W j o = true → (listed.setIfInBounds i true).getD j false = false) ∧ (e' = ops.size ∨ ∃ o, ops[e']? = some o ∧ wrB W e' o = true))
    (hc : c' ≤ ops.size ∧ (∀ j o, j < c' → ops[j]? = some o → isCallO o = true → (listed.setIfInBounds i true).getD j false = true) ∧ (∀ j o, c' ≤ j → ops[j]? = some o → isCallO o = true → (listed.setIfInBounds i true).getD j false = false))
    (hholds : Holds F' (hD rec ops n0 (listed.setIfInBounds i true) e') w') (hhst : ∀ n b, (hD rec ops n0 (listed.setIfInBounds i true) e').get n = some b → ∀ v ∈ b.cells, Stab (KD X rec ops n0 (listed.setIfInBounds i true) c') F' v)
    (hrep : X.rep F' (rec c').S w') (hkept : Kept w0 M w') (hown : ∀ n b, (hD rec ops n0 (listed.setIfInBounds i true) e').get n = some b → b.ro = false → F'.blk n < w0.heap.size → M (F'.blk n)) (hfown : ∀ b, X.fp F' (rec c').S b → b < w0.heap.size → M b)
    (hsep : ∀ n b, (hD rec ops n0 (listed.setIfInBounds i true) e').get n = some b → ¬ X.fp F' (rec c').S (F'.blk n)) (hcnt : X.cnt (rec c).S ≤ X.cnt (rec c').S) :
    DInv X W ops n0 rec F0 w0 M (listed.setIfInBounds i true) (a.put o.dst (ren F' (rec i).v)) w' F' e' c' := by
  have hset := getD_set (listed := listed) (i := i) (by rw [I.size]; exact R.lt)
  refine ⟨by simp [I.size], ?_, by rw [put_size, I.tmps], by rw [put_defers', I.defers], ?_, ?_, fun v hv => (I.tst v hv).move hF hK, he.1, he.2.1, he.2.2.1, he.2.2.2, hc.1, hc.2.1, hc.2.2, hholds, I.nVB, hhst, hrep, hkept, hown, hfown, hsep, I.same.trans (hF.mono ?_), Nat.le_trans I.cnt hcnt⟩
  · intro j oj hj hl d hd
    rw [hset] at hl ⊢
    simp only [Bool.or_eq_true, beq_iff_eq] at hl ⊢
    rcases hl with hl | rfl
    · exact .inl (I.down j oj hj hl d hd)
    · rw [R.at'] at hj; injection hj with hj; subst hj; exact .inl (R.deps d hd)
  · intro t htl
    rw [put_getD _ _ _ _ (by rw [I.tmps]; exact htl), I.slots t htl]
    unfold slotD
    have h1 := slotAt_set (dst := dstD ops) (val := fun j => (rec j).v) (D := fun j => listed.getD j false) (a0 := ⟨(rec 0).tmps.toArray, []⟩) (i := i) (t := t) (fun j hij hd hdi => by
      unfold dstD at hd hdi
      cases hoj : ops[j]? with
      | none => rw [hoj] at hd; cases hd
      | some oj =>
        rw [hoj] at hd
        rw [R.at'] at hdi
        have h0 : ¬ j < i := by omega
        have := R.meet j oj (by omega) hoj (.inl ⟨t, hd, List.mem_append_right _ (by simpa using hdi)⟩)
        simpa [h0] using this) ops.size R.lt
    rw [slotAt_congr (D := fun j => (listed.setIfInBounds i true).getD j false) (D' := fun j => listed.getD j false || j == i) (val' := fun j => (rec j).v) ops.size (fun j _ _ => ⟨hset j, rfl⟩), h1]
    have hdst : dstD ops i = o.dst := by unfold dstD; rw [R.at']; rfl
    rw [hdst]
    by_cases hd : o.dst = some t
    · rw [if_pos hd, if_pos hd]
    · rw [if_neg hd, if_neg hd]
      exact (I.slot_stab t F' hF).symm
  · intro j hj
    rw [hset] at hj
    by_cases hji : j = i
    · rw [hji]; exact hv
    · have h0 : (j == i) = false := by simpa using hji
      rw [h0, Bool.or_false] at hj
      exact (I.vst j hj).move hF hK
  · intro n hn
    rcases hn with hn | hn
    · exact .inl hn
    · exact .inr (.inr ⟨hn.1, by have := I.cnt; omega⟩)

end
end Go.Proofs.Ytceddijolfpppaa
