/-
  The abstract machine, part 9: a region that draws its order: each operation, whenever it comes.
  No condition: laws.
-/
import Derived.Test.YtceddijolfpppaaAx8
namespace Go.Proofs.Ytceddijolfpppaa
open Go Go.RowKit
set_option linter.unusedSimpArgs false
set_option linter.unusedVariables false

section
variable {P : Program} {σ : Type} {X : Face P σ} {W : List Nat} {ops : Array Oper} {n0 : Nat} {hf : AHeap} {rec : Nat → DRec σ} {F0 F : Emb} {w0 w : World} {M : Nat → Prop} {listed : Array Bool} {a : Act} {e c i : Nat} {o : Oper}

theorem DInv.ge (I : DInv X W ops n0 rec F0 w0 M listed a w F e c) (R : Ready W ops listed i o) (hl : loudB W i o = true) : i ≤ e := by
  rcases Nat.lt_or_ge e i with h | h
  · exfalso
    rcases I.eat with he | ⟨oe, hoe, hse⟩
    · have := R.lt; omega
    · have h1 := R.meet e oe (by omega) hoe (.inr (.inr (.inl ⟨hse, hl⟩)))
      rw [I.eopen e oe (Nat.le_refl _) hoe hse] at h1
      simp [h] at h1
  · exact h

theorem DInv.wr_at (I : DInv X W ops n0 rec F0 w0 M listed a w F e c) (R : Ready W ops listed i o) (hs : wrB W i o = true) : i = e := by
  have h := I.ge R (R.loud hs)
  rcases Nat.lt_or_ge i e with h1 | h1
  · have := I.edone i o h1 R.at' hs
    rw [R.un] at this; cases this
  · omega

theorem DInv.free (I : DInv X W ops n0 rec F0 w0 M listed a w F e c) (R : Ready W ops listed i o) (hl : loudB W i o = true) (hs : wrB W i o = false) : ∀ j oj, i ≤ j → j < e → ops[j]? = some oj → wrB W j oj = false := by
  intro j oj h1 h2 hj
  cases hst : wrB W j oj with
  | false => rfl
  | true =>
    exfalso
    have h3 := I.edone j oj h2 hj hst
    have hji : j ≠ i := by rintro rfl; rw [R.at'] at hj; cases hj; rw [hs] at hst; cases hst
    have h4 := R.meet j oj hji hj (.inr (.inr (.inl ⟨hst, hl⟩)))
    rw [h3] at h4
    have : ¬ j < i := by omega
    simp [this] at h4

theorem DInv.lt_e (I : DInv X W ops n0 rec F0 w0 M listed a w F e c) (R : Ready W ops listed i o) (hl : loudB W i o = true) (hs : wrB W i o = false) : i + 1 ≤ e := by
  have h3 := I.ge R hl
  rcases Nat.lt_or_ge i e with h4 | h4
  · exact h4
  · exfalso
    rcases I.eat with h5 | ⟨oe, h5, h6⟩
    · have := R.lt; omega
    · obtain rfl : i = e := by omega
      rw [R.at'] at h5; cases h5; rw [hs] at h6; cases h6

theorem DInv.call_at (I : DInv X W ops n0 rec F0 w0 M listed a w F e c) (R : Ready W ops listed i o) (hc : isCallO o = true) : c ≤ i ∧ ∀ j oj, c ≤ j → j < i → ops[j]? = some oj → isCallO oj = false := by
  constructor
  · rcases Nat.lt_or_ge i c with h1 | h1
    · have := I.cdone i o h1 R.at' hc
      rw [R.un] at this; cases this
    · exact h1
  · intro j oj h1 h2 hj
    cases hst : isCallO oj with
    | false => rfl
    | true =>
      exfalso
      have h3 := R.meet j oj (by omega) hj (.inr (.inr (.inr (.inr ⟨hst, hc⟩))))
      rw [I.copen j oj h1 hj hst] at h3
      simp [h2] at h3

/-- The next one that writes, the next call behind it. -/
theorem DInv.turn_e (I : DInv X W ops n0 rec F0 w0 M listed a w F e c) (R : Ready W ops listed i o) : ∃ e', (wrB W i o = false → e' = e) ∧ (wrB W i o = true → i + 1 ≤ e' ∧ ∀ j oj, i + 1 ≤ j → j < e' → ops[j]? = some oj → wrB W j oj = false) ∧
    (e' ≤ ops.size ∧ (∀ j o, j < e' → ops[j]? = some o → wrB W j o = true → (listed.setIfInBounds i true).getD j false = true) ∧ (∀ j o, e' ≤ j → ops[j]? = some o → wrB W j o = true → (listed.setIfInBounds i true).getD j false = false) ∧ (e' = ops.size ∨ ∃ o, ops[e']? = some o ∧ wrB W e' o = true)) := by
  have hset := getD_set (listed := listed) (i := i) (by rw [I.size]; exact R.lt)
  cases hs : wrB W i o with
  | false =>
    refine ⟨e, fun _ => rfl, fun h => (by cases h), I.ele, fun j oj h1 hj hst => by rw [hset, I.edone j oj h1 hj hst]; rfl, fun j oj h1 hj hst => ?_, I.eat⟩
    rw [hset, I.eopen j oj h1 hj hst]
    have : j ≠ i := by rintro rfl; rw [R.at'] at hj; cases hj; rw [hs] at hst; cases hst
    simpa using this
  | true =>
    have hie := I.wr_at R hs
    obtain ⟨e', h1, h2, h3, h4⟩ := next_of (wrB W) ops (ops.size - (i + 1)) (i + 1) (by have := R.lt; omega)
    refine ⟨e', fun h => (by cases h), fun _ => ⟨h1, h3⟩, h2, fun j oj k1 hj hst => ?_, fun j oj k1 hj hst => ?_, h4⟩
    · rw [hset]
      by_cases hji : j = i
      · simp [hji]
      · by_cases hlt : j < i
        · rw [I.edone j oj (by omega) hj hst]; rfl
        · rw [h3 j oj (by omega) k1 hj] at hst; cases hst
    · rw [hset, I.eopen j oj (by omega) hj hst]
      have : j ≠ i := by omega
      simpa using this

theorem DInv.turn_c (I : DInv X W ops n0 rec F0 w0 M listed a w F e c) (R : Ready W ops listed i o) : ∃ c', (isCallO o = false → c' = c) ∧ (isCallO o = true → c' = i + 1) ∧
    (c' ≤ ops.size ∧ (∀ j o, j < c' → ops[j]? = some o → isCallO o = true → (listed.setIfInBounds i true).getD j false = true) ∧ (∀ j o, c' ≤ j → ops[j]? = some o → isCallO o = true → (listed.setIfInBounds i true).getD j false = false)) := by
  have hset := getD_set (listed := listed) (i := i) (by rw [I.size]; exact R.lt)
  cases hs : isCallO o with
  | false =>
    refine ⟨c, fun _ => rfl, fun h => (by cases h), I.cle, fun j oj h1 hj hst => by rw [hset, I.cdone j oj h1 hj hst]; rfl, fun j oj h1 hj hst => ?_⟩
    rw [hset, I.copen j oj h1 hj hst]
    have : j ≠ i := by rintro rfl; rw [R.at'] at hj; cases hj; rw [hs] at hst; cases hst
    simpa using this
  | true =>
    obtain ⟨h1, h2⟩ := I.call_at R hs
    refine ⟨i + 1, fun h => (by cases h), fun _ => rfl, by have := R.lt; omega, fun j oj k1 hj hst => ?_, fun j oj k1 hj hst => ?_⟩
    · rw [hset]
      by_cases hji : j = i
      · simp [hji]
      · by_cases hlt : j < c
        · rw [I.cdone j oj hlt hj hst]; rfl
        · rw [h2 j oj (by omega) (by omega) hj] at hst; cases hst
    · rw [hset, I.copen j oj (by omega) hj hst]
      have : j ≠ i := by omega
      simpa using this

theorem bornD_set (hsize : listed.size = ops.size) (R : Ready W ops listed i o) (n : Nat) : bornD rec ops (listed.setIfInBounds i true) n = true ↔ bornD rec ops listed n = true ∨ (i, n) ∈ (rec ops.size).born := by
  have hset := getD_set (listed := listed) (i := i) (by rw [hsize]; exact R.lt)
  rw [bornD_iff, bornD_iff]
  constructor
  · rintro ⟨j, h1, h2⟩
    rw [hset] at h2
    by_cases hji : j = i
    · exact .inr (hji ▸ h1)
    · have h0 : (j == i) = false := by simpa using hji
      rw [h0, Bool.or_false] at h2
      exact .inl ⟨j, h1, h2⟩
  · rintro (⟨j, h1, h2⟩ | h)
    · exact ⟨j, h1, by rw [hset, h2]; rfl⟩
    · exact ⟨i, h, by rw [hset]; simp⟩

theorem bornD_next (C : Chain X W ops n0 hf rec) {n : Nat} (h : bornD rec ops listed n = true) : n < (rec ops.size).h.next ∧ n < VB := by
  obtain ⟨j, h1, _⟩ := bornD_iff.1 h
  have := C.born ops.size (Nat.le_refl _) j n h1
  exact ⟨this.2.2.2.1, this.2.2.2.2.1⟩

theorem born_at (C : Chain X W ops n0 hf rec) (hi : i < ops.size) (n : Nat) : (i, n) ∈ (rec ops.size).born ↔ (rec i).h.next ≤ n ∧ n < (rec (i + 1)).h.next := by
  constructor
  · intro h
    obtain ⟨_, h1, h2, _⟩ := C.born ops.size (Nat.le_refl _) i n h
    exact ⟨h1, h2⟩
  · rintro ⟨h1, h2⟩
    have ho : ops[i]? = some ops[i] := Array.getElem?_eq_getElem hi
    refine C.born_le (i := i + 1) hi (Nat.le_refl _) ?_
    rw [(C.step i _ ho).born]
    exact List.mem_append_left _ (mem_bornN.2 ⟨rfl, h1, h2⟩)

/-- The names of an operation that is not done are new. -/
theorem DInv.fresh (_ : DInv X W ops n0 rec F0 w0 M listed a w F e c) (C : Chain X W ops n0 hf rec) (R : Ready W ops listed i o) {n : Nat} (h1 : (rec i).h.next ≤ n) (h2 : n < (rec (i + 1)).h.next) : ¬ KD X rec ops n0 listed c n ∧ n < VB := by
  have hb := (born_at C R.lt n).2 ⟨h1, h2⟩
  have hV := (C.born ops.size (Nat.le_refl _) i n hb).2.2.2.2.1
  refine ⟨fun hk => ?_, hV⟩
  have hge : n0 ≤ n := by have := C.next_le' (Nat.zero_le i) (Nat.le_of_lt R.lt); rw [C.next0] at this; omega
  rcases hk with hk | hk | hk
  · omega
  · obtain ⟨j, k1, k2⟩ := bornD_iff.1 hk
    obtain ⟨k3, k4, k5, _⟩ := C.born ops.size (Nat.le_refl _) j n k1
    have hji : j = i := by
      rcases Nat.lt_trichotomy j i with h | h | h
      · have := C.next_le' (i := j + 1) (j := i) (by omega) (Nat.le_of_lt R.lt); omega
      · exact h
      · have := C.next_le' (i := i + 1) (j := j) (by omega) (Nat.le_of_lt k3); omega
    rw [hji, R.un] at k2; cases k2
  · omega

/-- Ahead of one that writes all that was born was born ahead of it. -/
theorem DInv.born_ahead (_ : DInv X W ops n0 rec F0 w0 M listed a w F e c) (C : Chain X W ops n0 hf rec) (R : Ready W ops listed i o) (hs : wrB W i o = true) {n : Nat} (h : n < n0 ∨ bornD rec ops listed n = true) : n < (rec i).h.next := by
  rcases h with h | h
  · have := C.next_le' (Nat.zero_le i) (Nat.le_of_lt R.lt)
    rw [C.next0] at this; omega
  · obtain ⟨j, h1, h2⟩ := bornD_iff.1 h
    obtain ⟨k1, k2, k3, _, _, oj, k4, k5⟩ := C.born ops.size (Nat.le_refl _) j n h1
    have hji : j ≠ i := by rintro rfl; rw [R.un] at h2; cases h2
    have := R.meet j oj hji k4 (.inr (.inr (.inr (.inl ⟨k5, hs⟩))))
    rw [h2] at this
    have hlt : j < i := by simpa using this
    have h3 := C.next_le' (i := j + 1) (j := i) (by omega) (Nat.le_of_lt R.lt)
    omega

/-- Where heap and state stay: the operation's value is all. -/
theorem DInv.still (I : DInv X W ops n0 rec F0 w0 M listed a w F e c) (C : Chain X W ops n0 hf rec) (R : Ready W ops listed i o) (hh : (rec (i + 1)).h = (rec i).h) (hS : (rec (i + 1)).S = (rec i).S) (hv : Stab (KD X rec ops n0 listed c) F (rec i).v) :
    ∃ e' c', DInv X W ops n0 rec F0 w0 M (listed.setIfInBounds i true) (a.put o.dst (ren F (rec i).v)) w F e' c' := by
  obtain ⟨e', he1, he2, he⟩ := I.turn_e R
  obtain ⟨c', hc1, hc2, hc⟩ := I.turn_c R
  have hnb : ∀ n, (i, n) ∉ (rec ops.size).born := fun n h => by
    have := (born_at C R.lt n).1 h
    rw [hh] at this; omega
  have hborn : ∀ n, bornD rec ops (listed.setIfInBounds i true) n = bornD rec ops listed n := fun n => by
    rw [Bool.eq_iff_iff, bornD_set I.size R]
    exact ⟨fun h => h.resolve_right (hnb n), .inl⟩
  have hcS : (rec c').S = (rec c).S := by
    cases hs : isCallO o with
    | false => rw [hc1 hs]
    | true =>
      obtain ⟨k1, k2⟩ := I.call_at R hs
      rw [hc2 hs, hS, C.states' k1 (Nat.le_of_lt R.lt) k2]
  have hK : ∀ n, KD X rec ops n0 listed c n → KD X rec ops n0 (listed.setIfInBounds i true) c' n := fun n hn => by
    unfold KD at hn ⊢
    rw [hborn, hcS]; exact hn
  have hget : ∀ n, (hD rec ops n0 (listed.setIfInBounds i true) e').get n = (hD rec ops n0 listed e).get n := fun n => by
    unfold hD
    simp only [hborn]
    split
    · rename_i hn
      cases hs : wrB W i o with
      | false => rw [he1 hs]
      | true =>
        have hie := I.wr_at R hs
        have hlt := I.born_ahead C R hs hn
        obtain ⟨k1, k2⟩ := he2 hs
        rw [C.stays' k1 he.1 k2 (by rw [hh]; exact hlt), hh, hie]
    · rfl
  have hD' : hD rec ops n0 (listed.setIfInBounds i true) e' = hD rec ops n0 listed e := by
    have h1 : (hD rec ops n0 (listed.setIfInBounds i true) e').get = (hD rec ops n0 listed e).get := funext hget
    have h2 : (hD rec ops n0 (listed.setIfInBounds i true) e').next = (hD rec ops n0 listed e).next := rfl
    cases h3 : hD rec ops n0 (listed.setIfInBounds i true) e'
    cases h4 : hD rec ops n0 listed e
    rw [h3, h4] at h1 h2
    simp only at h1 h2
    rw [h1, h2]
  refine ⟨e', c', I.mk' R (Same.refl _ _) hK (hv.move (Same.refl _ _) hK) he hc ?_ ?_ ?_ I.kept ?_ ?_ ?_ (by rw [hcS]; exact Nat.le_refl _)⟩
  · rw [hD']; exact I.holds
  · rw [hD']; exact fun n b hb v hv => (I.hst n b hb v hv).move (Same.refl _ _) hK
  · rw [hcS]; exact I.rep
  · rw [hD']; exact I.own
  · rw [hcS]; exact I.fown
  · rw [hD', hcS]; exact I.sep

theorem hD_K : ∀ n b, (hD rec ops n0 listed e).get n = some b → KD X rec ops n0 listed c n := by
  intro n b hb
  rcases (hD_get hb).1 with h | h
  · exact .inl h
  · exact .inr (.inl h)

theorem KD_lim (C : Chain X W ops n0 hf rec) (hn0 : n0 ≤ VB) {n : Nat} (h : KD X rec ops n0 listed c n) : n < VB + X.cnt (rec c).S := by
  rcases h with h | h | h
  · omega
  · have := (bornD_next C h).2; omega
  · exact h.2
theorem hD_VB (C : Chain X W ops n0 hf rec) (hn0 : n0 ≤ VB) {n : Nat} {b : Blk} (h : (hD rec ops n0 listed e).get n = some b) : n < VB := by
  rcases (hD_get h).1 with h | h
  · omega
  · exact (bornD_next C h).2

theorem DInv.oper_stab (I : DInv X W ops n0 rec F0 w0 M listed a w F e c) (C : Chain X W ops n0 hf rec) (R : Ready W ops listed i o) {x : Operand} (hx : x ∈ o.op.operands) (hb : operB x = true) : Stab (KD X rec ops n0 listed c) F (evA (rec i).tmps x) := by
  cases x with
  | tmp t =>
    have ht : t ∈ namesOf ops o := by
      unfold namesOf Oper.looksAt
      exact List.mem_append_left _ (List.mem_append_left _ (List.mem_filterMap.2 ⟨.tmp t, by simpa using hx, rfl⟩))
    obtain ⟨h1, h2⟩ := slot_of C R ht
    simp only [evA]
    by_cases htl : t < (rec 0).tmps.length
    · rw [h2 htl]; exact I.slot_stab t
    · have g2 : (rec i).tmps.length ≤ t := by rw [h1]; exact Nat.le_of_not_lt htl
      rw [show (rec i).tmps.getD t undef = undef by simp [List.getD, List.getElem?_eq_none g2]]
      exact Stab.undef
  | const v => exact Stab.plain hb
  | global g => cases hb
  | func f => intro F' _; simp [evA]

theorem opers_at {tmps : List Value} {o : Oper} (hb : o.op.operands.all operB = true) (F' : Emb) : ∀ x ∈ o.op.operands, (actF F' tmps).eval x = ren F' (evA tmps x) :=
  fun x hx => actF_eval F' tmps x (by simpa using (Array.all_eq_true_iff_forall_mem.1 hb) x hx)

theorem opers_stab (I : DInv X W ops n0 rec F0 w0 M listed a w F e c) (C : Chain X W ops n0 hf rec) (R : Ready W ops listed i o) (hb : o.op.operands.all operB = true) : ∀ v, (∃ x ∈ o.op.operands, v = evA (rec i).tmps x) → Stab (KD X rec ops n0 listed c) F v := by
  rintro v ⟨x, hx, rfl⟩
  exact I.oper_stab C R hx (by simpa using (Array.all_eq_true_iff_forall_mem.1 hb) x hx)

/-- What there is, to be looked at. -/
theorem DInv.view (I : DInv X W ops n0 rec F0 w0 M listed a w F e c) (C : Chain X W ops n0 hf rec) {vs : Value → Prop} (hv : ∀ v, vs v → Stab (KD X rec ops n0 listed c) F v) {h : AHeap} (hs : ∀ n b, h.get n = some b → ∃ b0, (hD rec ops n0 listed e).get n = some b0 ∧ b = { b0 with ro := true }) :
    AInv X F w (fun b => X.fp F (rec c).S b) (KD X rec ops n0 listed c) vs h (rec c).S w := by
  refine ⟨⟨?_, ?_⟩, I.rep, hv, ?_, ?_, fun n h1 h2 => .inr (.inr ⟨h1, h2⟩), fun n hn => KD_lim C I.nVB hn, Kept.refl _ _, ?_, fun b hb _ => hb, ?_⟩
  · intro n b hb
    obtain ⟨b0, h0, rfl⟩ := hs n b hb
    obtain ⟨pre, post, fr, r1, r2, r3, r4⟩ := I.holds.row n b0 h0
    exact ⟨pre, post, fr, r1, r2, fun h => (by cases h), r4⟩
  · intro n m b c' hb hc hne hr
    obtain ⟨b0, h0, rfl⟩ := hs n b hb
    cases hr
  · intro n b hb v hv
    obtain ⟨b0, h0, rfl⟩ := hs n b hb
    exact I.hst n b0 h0 v hv
  · intro n b hb
    obtain ⟨b0, h0, rfl⟩ := hs n b hb
    exact ⟨hD_K n b0 h0, hD_VB C I.nVB h0⟩
  · intro n b hb hr
    obtain ⟨b0, h0, rfl⟩ := hs n b hb
    cases hr
  · intro n b hb
    obtain ⟨b0, h0, rfl⟩ := hs n b hb
    exact I.sep n b0 h0

/-- What a loud operation may look at is there. -/
theorem DInv.vis (I : DInv X W ops n0 rec F0 w0 M listed a w F e c) (C : Chain X W ops n0 hf rec) (R : Ready W ops listed i o) (hl : loudB W i o = true) (hs : wrB W i o = false) :
    ∀ n b, (visH n0 (rec i).born ((masksFrom ops.toList []).getD i 0) (rec i).h).get n = some b → ∃ b0, (hD rec ops n0 listed e).get n = some b0 ∧ b = { b0 with ro := true } := by
  intro n b hb
  unfold visH at hb
  simp only at hb
  split at hb
  · rename_i hc
    cases hg : (rec i).h.get n with
    | none => rw [hg] at hb; cases hb
    | some b0 =>
      rw [hg] at hb
      cases hb
      have hlow := C.low i (Nat.le_of_lt R.lt) n b0 hg
      refine ⟨b0, hD_mk ?_ ?_, rfl⟩
      · rcases hc with hc | hc
        · exact .inl hc
        · rw [List.any_eq_true] at hc
          obtain ⟨⟨j, m⟩, h1, h2⟩ := hc
          simp only [Bool.and_eq_true, beq_iff_eq] at h2
          refine .inr (bornD_iff.2 ⟨j, ?_, R.mask j h2.2⟩)
          rw [← h2.1]
          exact C.born_le (Nat.le_of_lt R.lt) (Nat.le_refl _) h1
      · rw [C.stays' (I.ge R hl) I.ele (I.free R hl hs) hlow]; exact hg
  · cases hb

/-- The states ahead and behind, where it is now. -/
theorem DInv.sems (I : DInv X W ops n0 rec F0 w0 M listed a w F e c) (C : Chain X W ops n0 hf rec) (R : Ready W ops listed i o) {c' : Nat} (hc1 : isCallO o = false → c' = c) (hc2 : isCallO o = true → c' = i + 1) {ev : Operand → Value} {h h' : AHeap} {v : Value} (hS : OpSems X o ev h (rec i).S v h' (rec (i + 1)).S) :
    OpSem X o ev h (rec c).S v h' (rec c').S := by
  cases hs : isCallO o with
  | false => rw [hc1 hs]; exact hS.2 hs _
  | true =>
    obtain ⟨k1, k2⟩ := I.call_at R hs
    rw [hc2 hs, ← C.states' k1 (Nat.le_of_lt R.lt) k2]
    exact hS.1 hs

/-- An operation that writes none of the rows that are there. -/
theorem DInv.quiet (I : DInv X W ops n0 rec F0 w0 M listed a w F e c) (C : Chain X W ops n0 hf rec) (L : DSpec W ops) (R : Ready W ops listed i o) (hb : o.op.operands.all operB = true) (hs : wrB W i o = false) {hv : AHeap}
    (hS : OpSems X o (evA (rec i).tmps) (if loudB W i o = true then visH n0 (rec i).born ((masksFrom ops.toList []).getD i 0) (rec i).h else if farB W i = true then atN hf (rec i).h.next else bareH (rec i).h.next) (rec i).S (rec i).v hv (rec (i + 1)).S) (hh : (rec (i + 1)).h = glueH (rec i).h hv) :
    OpWp P o a.eval w fun u w' => ∃ F' e' c', DInv X W ops n0 rec F0 w0 M (listed.setIfInBounds i true) (a.put o.dst u) w' F' e' c' := by
  obtain ⟨e', he1, _, he⟩ := I.turn_e R
  obtain ⟨c', hc1, hc2, hc⟩ := I.turn_c R
  obtain rfl := he1 hs
  have hsem := I.sems C R hc1 hc2 hS
  have hnx : (rec (i + 1)).h.next = hv.next := by rw [hh]; rfl
  have hqn : (if loudB W i o = true then visH n0 (rec i).born ((masksFrom ops.toList []).getD i 0) (rec i).h else if farB W i = true then atN hf (rec i).h.next else bareH (rec i).h.next).next = (rec i).h.next := by (repeat' split) <;> rfl
  obtain ⟨hn1, hcn, hro, hsem⟩ := hsem
  rw [hqn] at hn1 hro
  have hview : ∀ n b, (if loudB W i o = true then visH n0 (rec i).born ((masksFrom ops.toList []).getD i 0) (rec i).h else if farB W i = true then atN hf (rec i).h.next else bareH (rec i).h.next).get n = some b → ∃ b0, (hD rec ops n0 listed e').get n = some b0 ∧ b = { b0 with ro := true } := by
    intro n b hb
    split at hb
    · rename_i hl; exact I.vis C R hl hs n b hb
    · split at hb
      · obtain ⟨k1, b0, rfl, k2⟩ := C.still n b hb
        exact ⟨b0, hD_mk (.inl k1) (k2 _ I.ele), rfl⟩
      · cases hb
  have hvlow : ∀ m c, (if loudB W i o = true then visH n0 (rec i).born ((masksFrom ops.toList []).getD i 0) (rec i).h else if farB W i = true then atN hf (rec i).h.next else bareH (rec i).h.next).get m = some c → m < (rec i).h.next := by
    intro m c hm
    split at hm
    · unfold visH at hm
      simp only at hm
      split at hm
      · cases hg : (rec i).h.get m with
        | none => rw [hg] at hm; cases hm
        | some b0 => exact C.low i (Nat.le_of_lt R.lt) m b0 hg
      · cases hm
    · split at hm
      · obtain ⟨k1, b0, _, k2⟩ := C.still m c hm
        exact C.low i (Nat.le_of_lt R.lt) m b0 (k2 i (Nat.le_of_lt R.lt))
      · cases hm
  have IV := I.view C (opers_stab I C R hb) hview
  have hfr : ∀ x, (rec i).h.next ≤ x → x < hv.next → ¬ KD X rec ops n0 listed c x ∧ x < VB := fun x h1 h2 => I.fresh C R h1 (by rw [hnx]; exact h2)
  have hmain := hsem (KD X rec ops n0 listed c) F w w (fun b => X.fp F (rec c).S b) (actF F (rec i).tmps).eval (by rw [hqn]; exact hfr) (opers_at hb F) IV
  rw [hqn] at hmain
  have hrun := (I.same_at C L R (Same.refl _ F)).1
  refine (hmain.congr hrun).mono ?_
  rintro u w' ⟨F', rfl, hF, J⟩
  have hKK : ∀ n, KAdd (KD X rec ops n0 listed c) (rec i).h.next hv.next (X.cnt (rec c).S) (X.cnt (rec c').S) n → KD X rec ops n0 (listed.setIfInBounds i true) c' n := by
    intro n hn
    rcases hn with (hn | hn | hn) | hn | hn
    · exact .inl hn
    · exact .inr (.inl ((bornD_set I.size R n).2 (.inl hn)))
    · exact .inr (.inr ⟨hn.1, by omega⟩)
    · exact .inr (.inl ((bornD_set I.size R n).2 (.inr ((born_at C R.lt n).2 ⟨hn.1, by rw [hnx]; exact hn.2⟩))))
    · exact .inr (.inr ⟨by omega, hn.2⟩)
  have hK : ∀ n, KD X rec ops n0 listed c n → KD X rec ops n0 (listed.setIfInBounds i true) c' n := fun n hn => hKK n (.inl hn)
  have hget : ∀ n b, (hD rec ops n0 (listed.setIfInBounds i true) e').get n = some b → ((rec i).h.next ≤ n ∧ hv.get n = some b ∧ b.ro = false) ∨ (hD rec ops n0 listed e').get n = some b := by
    intro n b hb
    obtain ⟨h1, h2⟩ := hD_get hb
    rw [bornD_set I.size R n] at h1
    by_cases hin : (i, n) ∈ (rec ops.size).born
    · obtain ⟨k1, k2⟩ := (born_at C R.lt n).1 hin
      have hl : loudB W i o = true := by
        cases hl : loudB W i o with
        | true => rfl
        | false => have := (C.step i o R.at').loud hl; omega
      rw [C.stays' (I.lt_e R hl hs) I.ele (fun j oj q1 q2 => I.free R hl hs j oj (by omega) q2) k2, hh] at h2
      unfold glueH at h2
      simp only at h2
      rw [if_pos k1, if_pos (by rw [← hnx]; exact k2)] at h2
      exact .inl ⟨k1, h2, hro n b k1 h2 hvlow⟩
    · exact .inr (hD_mk (by rcases h1 with h1 | h1; exact .inl h1; exact .inr (h1.resolve_right hin)) h2)
  have hsame := I.holds.same (fun n b hb => hD_K n b hb) I.hst hF
  have hblk : ∀ n b, (hD rec ops n0 listed e').get n = some b → F'.blk n = F.blk n ∧ F.blk n < w.heap.size := fun n b hb => ⟨(hF n (hD_K n b hb)).1.symm, I.holds.blk_lt hb⟩
  have hnewB : ∀ n b, hv.get n = some b → b.ro = false → F'.blk n < w.heap.size → X.fp F (rec c).S (F'.blk n) := fun n b hb hr hx => J.own n b hb hr hx
  refine ⟨F', e', c', I.mk' R hF hK ((J.vst _ rfl).move (Same.refl _ _) hKK) he hc ⟨?_, ?_⟩ ?_ J.rep (I.kept.trans J.kept (fun b hb hf => I.fown b hf hb)) ?_ ?_ ?_ hcn⟩
  · intro n b hb
    rcases hget n b hb with ⟨k1, k2, k3⟩ | hb
    · exact J.holds.row n b k2
    · obtain ⟨pre, post, fr, r1, r2⟩ := hsame.row n b hb
      refine ⟨pre, post, fr, ?_, r2⟩
      obtain ⟨q1, q2⟩ := hblk n b hb
      rw [q1] at r1 ⊢
      rw [J.kept.block _ q2 (I.sep n b hb)]
      exact r1
  · intro n m b d hb hd hnm hr
    rcases hget n b hb with ⟨k1, k2, k3⟩ | hb <;> rcases hget m d hd with ⟨k1', k2', k3'⟩ | hd
    · exact J.holds.apart n m b d k2 k2' hnm hr
    · obtain ⟨q1, q2⟩ := hblk m d hd
      intro he
      rw [q1] at he
      have := hnewB n b k2 k3 (by rw [he]; exact q2)
      rw [he] at this
      exact I.sep m d hd this
    · obtain ⟨q1, q2⟩ := hblk n b hb
      intro he
      rw [q1] at he
      have := hnewB m d k2' k3' (by rw [← he]; exact q2)
      rw [← he] at this
      exact I.sep n b hb this
    · exact hsame.apart n m b d hb hd hnm hr
  · intro n b hb v hv'
    rcases hget n b hb with ⟨k1, k2, k3⟩ | hb
    · exact (J.hst n b k2 v hv').move (Same.refl _ _) hKK
    · exact (I.hst n b hb v hv').move hF hK
  · intro n b hb hr hx
    rcases hget n b hb with ⟨k1, k2, k3⟩ | hb
    · exact I.fown _ (hnewB n b k2 k3 (Nat.lt_of_lt_of_le hx I.kept.size)) hx
    · obtain ⟨q1, q2⟩ := hblk n b hb
      rw [q1] at hx ⊢
      exact I.own n b hb hr hx
  · intro b hb hx
    exact I.fown b (J.fown b hb (Nat.lt_of_lt_of_le hx I.kept.size)) hx
  · intro n b hb hx
    rcases hget n b hb with ⟨k1, k2, k3⟩ | hb
    · exact J.sep n b k2 hx
    · obtain ⟨q1, q2⟩ := hblk n b hb
      rw [q1] at hx
      exact I.sep n b hb (J.fown _ hx q2)

/-- An operation that writes. -/
theorem DInv.writes (I : DInv X W ops n0 rec F0 w0 M listed a w F e c) (C : Chain X W ops n0 hf rec) (L : DSpec W ops) (R : Ready W ops listed i o) (hb : o.op.operands.all operB = true) (hs : wrB W i o = true)
    (hS : OpSems X o (evA (rec i).tmps) (rec i).h (rec i).S (rec i).v (rec (i + 1)).h (rec (i + 1)).S) :
    OpWp P o a.eval w fun u w' => ∃ F' e' c', DInv X W ops n0 rec F0 w0 M (listed.setIfInBounds i true) (a.put o.dst u) w' F' e' c' := by
  obtain ⟨e', _, he2, he⟩ := I.turn_e R
  obtain ⟨c', hc1, hc2, hc⟩ := I.turn_c R
  obtain ⟨he3, he4⟩ := he2 hs
  have hie := I.wr_at R hs
  have hsem := I.sems C R hc1 hc2 hS
  obtain ⟨hn1, hcn, hro, hsem⟩ := hsem
  have hvisb : ∀ n z, (rec i).h.get n = some z → n < n0 ∨ bornD rec ops listed n = true := by
    intro n z hz
    by_cases hn : n < n0
    · exact .inl hn
    · obtain ⟨j, hj⟩ := C.all_born i (Nat.le_of_lt R.lt) n (Nat.le_of_not_lt hn) (C.low i (Nat.le_of_lt R.lt) n z hz)
      obtain ⟨k1, _, _, _, _, oj, k4, k5⟩ := C.born i (Nat.le_of_lt R.lt) j n hj
      refine .inr (bornD_iff.2 ⟨j, C.born_le (Nat.le_of_lt R.lt) (Nat.le_refl _) hj, ?_⟩)
      have := R.meet j oj (by omega) k4 (.inr (.inr (.inr (.inl ⟨k5, hs⟩))))
      simpa [k1] using this
  have hDb : ∀ n z, (rec i).h.get n = some z → (hD rec ops n0 listed e).get n = some z := fun n z hz => hD_mk (hvisb n z hz) (by rw [← hie]; exact hz)
  have IV : AInv X F w0 M (KD X rec ops n0 listed c) (fun v => ∃ x ∈ o.op.operands, v = evA (rec i).tmps x) (rec i).h (rec c).S w :=
    ⟨I.holds.sub hDb, I.rep, opers_stab I C R hb, fun n b hb => I.hst n b (hDb n b hb), fun n b hb => ⟨hD_K n b (hDb n b hb), hD_VB C I.nVB (hDb n b hb)⟩, fun n h1 h2 => .inr (.inr ⟨h1, h2⟩), fun n hn => KD_lim C I.nVB hn, I.kept, fun n b hb => I.own n b (hDb n b hb), I.fown, fun n b hb => I.sep n b (hDb n b hb)⟩
  have hmain := hsem (KD X rec ops n0 listed c) F w0 w M (actF F (rec i).tmps).eval (fun x h1 h2 => I.fresh C R h1 h2) (opers_at hb F) IV
  have hrun := (I.same_at C L R (Same.refl _ F)).1
  refine (hmain.congr hrun).mono ?_
  rintro u w' ⟨F', rfl, hF, J⟩
  have hKK : ∀ n, KAdd (KD X rec ops n0 listed c) (rec i).h.next (rec (i + 1)).h.next (X.cnt (rec c).S) (X.cnt (rec c').S) n → KD X rec ops n0 (listed.setIfInBounds i true) c' n := by
    intro n hn
    rcases hn with (hn | hn | hn) | hn | hn
    · exact .inl hn
    · exact .inr (.inl ((bornD_set I.size R n).2 (.inl hn)))
    · exact .inr (.inr ⟨hn.1, by omega⟩)
    · exact .inr (.inl ((bornD_set I.size R n).2 (.inr ((born_at C R.lt n).2 hn))))
    · exact .inr (.inr ⟨by omega, hn.2⟩)
  have hget : ∀ n b, (hD rec ops n0 (listed.setIfInBounds i true) e').get n = some b → (rec (i + 1)).h.get n = some b := by
    intro n b hb
    obtain ⟨h1, h2⟩ := hD_get hb
    rw [bornD_set I.size R n] at h1
    have hlt : n < (rec (i + 1)).h.next := by
      rcases h1 with h1 | h1 | h1
      · have := I.born_ahead C R hs (.inl h1); omega
      · have := I.born_ahead C R hs (.inr h1); omega
      · exact ((born_at C R.lt n).1 h1).2
    rw [C.stays' he3 he.1 he4 hlt] at h2
    exact h2
  exact ⟨F', e', c', I.mk' R hF (fun n hn => hKK n (.inl hn)) ((J.vst _ rfl).move (Same.refl _ _) hKK) he hc (J.holds.sub hget) (fun n b hb v hv => (J.hst n b (hget n b hb) v hv).move (Same.refl _ _) hKK) J.rep J.kept (fun n b hb => J.own n b (hget n b hb)) J.fown (fun n b hb => J.sep n b (hget n b hb)) hcn⟩

end
end Go.Proofs.Ytceddijolfpppaa
