/-
  The abstract machine, part 10: a region that draws its order, whole; THE SIMULATION.
  No condition: laws.
-/
import Derived.Test.YtceddijolfpppaaAx9
namespace Go.Proofs.Ytceddijolfpppaa
open Go Go.RowKit
set_option linter.unusedSimpArgs false
set_option linter.unusedVariables false

section
variable {P : Program} {σ : Type} {X : Face P σ} {W : List Nat} {ops : Array Oper} {n0 : Nat} {hf : AHeap} {rec : Nat → DRec σ} {F0 : Emb} {w0 : World} {M : Nat → Prop}

theorem dinv_step (C : Chain X W ops n0 hf rec) (L : DSpec W ops) {Q' : Exit → Act → World → Prop} {listed : Array Bool} {a : Act} {w : World} (hI : ∃ F e c, DInv X W ops n0 rec F0 w0 M listed a w F e c) {i : Nat} (hi : i ∈ Region.ready .any ops listed) :
    wpOp P ops Q' i (fun a' w' => ∃ F e c, DInv X W ops n0 rec F0 w0 M (listed.setIfInBounds i true) a' w' F e c) a w := by
  obtain ⟨F, e, c, I⟩ := hI
  obtain ⟨o, R⟩ := ready_of L I.size I.down hi
  obtain ⟨hexec, hwant⟩ := I.same_at C L R (Same.refl _ F)
  unfold wpOp
  simp only [R.at']
  rw [hwant]
  rcases C.sem i o R.at' with ⟨g1, g2, g3, g4⟩ | ⟨g1, g2, g3, g4⟩ | ⟨g1, g2, g3, hv, g4, g5⟩
  · obtain ⟨e', c', h⟩ := I.still C R g3 g4 (by rw [g2]; exact Stab.undef)
    rw [g2, ren_undef] at h
    rw [g1]
    simp only [Bool.false_eq_true, if_false]
    exact ⟨F, e', c', h⟩
  · rw [g1]
    simp only [if_true]
    exact .inl (OpWp.wp (I.writes C L R g2 g3 g4))
  · rw [g1]
    simp only [if_true]
    exact .inl (OpWp.wp (I.quiet C L R g2 g3 g4 g5))

theorem Chain.lim (C : Chain X W ops n0 hf rec) (hn0 : n0 ≤ VB) : ∀ i, i ≤ ops.size → (rec i).h.next ≤ VB
  | 0, _ => by rw [C.next0]; exact hn0
  | i + 1, hi => by
    have ih := C.lim hn0 i (by omega)
    have ho : ops[i]? = some ops[i] := Array.getElem?_eq_getElem (by omega)
    rcases (C.step i _ ho).lim with h | h
    · rw [h]; exact ih
    · exact h

/-- All is done. -/
theorem DInv.end' (C : Chain X W ops n0 hf rec) (hn0 : n0 ≤ VB) {listed : Array Bool} {a : Act} {w : World} (hall : ∀ i, i < ops.size → listed.getD i false = true) (hI : ∃ F e c, DInv X W ops n0 rec F0 w0 M listed a w F e c) :
    ∃ F', a = actF F' (rec ops.size).tmps ∧ AInv X F' w0 M (Kn (rec ops.size).h.next (X.cnt (rec ops.size).S)) (fun v => v ∈ (rec ops.size).tmps) (rec ops.size).h (rec ops.size).S w ∧ Same (Kn n0 (X.cnt (rec 0).S)) F0 F' ∧ X.cnt (rec 0).S ≤ X.cnt (rec ops.size).S := by
  obtain ⟨F, e, c, I⟩ := hI
  have hlt : ∀ {i o}, ops[i]? = some o → i < ops.size := fun h => (Array.getElem?_eq_some_iff.1 h).1
  obtain rfl : e = ops.size := by
    rcases I.eat with h | ⟨o, h1, h2⟩
    · exact h
    · have := I.eopen e o (Nat.le_refl _) h1 h2
      rw [hall e (hlt h1)] at this; cases this
  have hS : (rec ops.size).S = (rec c).S := C.states' I.cle (Nat.le_refl _) fun j o h1 h2 hj => by
    cases h : isCallO o with
    | false => rfl
    | true => have := I.copen j o h1 hj h; rw [hall j h2] at this; cases this
  have hbd : ∀ n, n < (rec ops.size).h.next → n < n0 ∨ bornD rec ops listed n = true := fun n hn => by
    by_cases h : n < n0
    · exact .inl h
    · obtain ⟨j, hj⟩ := C.all_born ops.size (Nat.le_refl _) n (Nat.le_of_not_lt h) hn
      exact .inr (bornD_iff.2 ⟨j, hj, hall j (C.born ops.size (Nat.le_refl _) j n hj).1⟩)
  have hK : ∀ n, KD X rec ops n0 listed c n → Kn (rec ops.size).h.next (X.cnt (rec ops.size).S) n := fun n hn => by
    rcases hn with hn | hn | hn
    · have := C.next_le' (Nat.zero_le ops.size) (Nat.le_refl _)
      rw [C.next0] at this
      exact .inl (by omega)
    · exact .inl (bornD_next C hn).1
    · rw [hS]; exact .inr hn
  have hget : ∀ n b, (rec ops.size).h.get n = some b → (hD rec ops n0 listed ops.size).get n = some b := fun n b hb => hD_mk (hbd n (C.low ops.size (Nat.le_refl _) n b hb)) hb
  obtain ⟨hw1, _, hw3⟩ := walk_slots (dst := dstD ops) (r := fun p => ⟨true, (rec p).v, ⟨(rec p).tmps.toArray, []⟩⟩) (a0 := ⟨(rec 0).tmps.toArray, []⟩) (n := ops.size) rfl (fun p hp => C.rows p hp) ops.size (Nat.le_refl _)
  simp only [List.size_toArray] at hw1 hw3
  have hslot : ∀ t, t < (rec 0).tmps.length → (rec ops.size).tmps.getD t undef = slotD rec ops listed t := fun t ht => by
    have := hw3 t ht
    rw [show ((rec ops.size).tmps.toArray).getD t undef = (rec ops.size).tmps.getD t undef by simp [List.getD]] at this
    rw [this]
    unfold slotD
    exact slotAt_congr _ fun j hj _ => ⟨(hall j hj).symm, rfl⟩
  refine ⟨F, ?_, ⟨I.holds.sub hget, by rw [hS]; exact I.rep, ?_, fun n b hb v hv => (I.hst n b (hget n b hb) v hv).move (Same.refl _ _) hK, fun n b hb => ⟨hK n (hD_K n b (hget n b hb)), hD_VB C I.nVB (hget n b hb)⟩, fun n h1 h2 => .inr ⟨h1, h2⟩, fun n hn => ?_, I.kept, fun n b hb => I.own n b (hget n b hb), by rw [hS]; exact I.fown, fun n b hb => by rw [hS]; exact I.sep n b (hget n b hb)⟩, I.same, by rw [hS]; exact I.cnt⟩
  · refine act_ext (by rw [I.tmps]; simp [actF, hw1]) I.defers fun t ht => ?_
    have ht' : t < (rec 0).tmps.length := by rw [← I.tmps]; exact ht
    rw [I.slots t ht', ← hslot t ht']
    exact (actF_eval F (rec ops.size).tmps (.tmp t) rfl).symm
  · intro v hv
    obtain ⟨t, ht⟩ := List.mem_iff_getElem?.1 hv
    have h1 := (List.getElem?_eq_some_iff.1 ht).1
    have h2 : (rec ops.size).tmps.getD t undef = v := by simp [List.getD, ht]
    rw [hslot t (by rw [← hw1]; exact h1)] at h2
    rw [← h2]
    exact (I.slot_stab t).move (Same.refl _ _) hK
  · rcases hn with hn | hn
    · have := C.lim hn0 ops.size (Nat.le_refl _); omega
    · exact hn.2

theorem ready_someD (L : DSpec W ops) {listed : Array Bool} (hnil : Region.ready .any ops listed = []) : ∀ i, i < ops.size → listed.getD i true = true := by
  intro i
  induction i using Nat.strongRecOn with
  | _ i ih =>
    intro hlt
    cases hb : listed.getD i true
    · exfalso
      have : i ∈ Region.ready .any ops listed := mem_ready.2 ⟨hb, _, Array.getElem?_eq_getElem hlt, fun e he hbd => by
        have hd := L.deps i _ (Array.getElem?_eq_getElem hlt) e.on (mem_deps he hbd)
        have := ih e.on hd (by omega)
        cases hf : listed.getD e.on false
        · rcases Nat.lt_or_ge e.on listed.size with h | h
          · rw [getD_ff h false true, this] at hf; exact Bool.noConfusion hf
          · have hli : listed.size ≤ i := by omega
            simp [Array.getElem?_eq_none hli] at hb
        · rfl⟩
      rw [hnil] at this
      cases this
    · rfl

/-- A region that draws its order, in the model. -/
theorem draw_step {id : Nat} {k : List Item} (hB : drawB W ops = true) (hst : ∀ n b, hf.get n = some b → n < (rec 0).h.next ∧ ∃ b0, b = { b0 with ro := true } ∧ ∀ j, j ≤ ops.size → (rec j).h.get n = some b0) (hgood : ∀ i o, ops[i]? = some o → GoodK X W ops (rec 0).h.next hf i o (rec i) (rec (i + 1))) (hb0 : (rec 0).born = [])
    (hcs : ∀ i wr f g c zs E Q hc h1 ex v0, i < ops.size → (rec i).kind = .call wr f g c zs E Q hc h1 ex v0 → X.cnt (rec i).S ≤ X.cnt (rec (i + 1)).S ∧ Simul X g (fun x => x = .done v0 h1 (rec (i + 1)).S) (.run (enterL g c zs).1 (enterL g c zs).2 hc (rec i).S))
    (b : Frame) (cs : List Frame) (F : Emb) (w0 w : World) (M : Nat → Prop) (I : AInv X F w0 M (Kn (rec 0).h.next (X.cnt (rec 0).S)) (fun v => v ∈ (rec 0).tmps) (rec 0).h (rec 0).S w) (hlim : (rec 0).h.next ≤ VB) :
    ∃ F' w' m', Steps P (lone (b.at (actF F (rec 0).tmps) (.code (.region id ops true) :: k)) cs w) m' ∧ Stands P F' b cs (Conf.run k (rec ops.size).tmps (rec ops.size).h (rec ops.size).S) w' m' ∧ InvC X F' w0 M (.run k (rec ops.size).tmps (rec ops.size).h (rec ops.size).S) w' ∧
      Same (Kn (rec 0).h.next (X.cnt (rec 0).S)) F F' ∧ X.cnt (rec 0).S ≤ X.cnt (rec ops.size).S ∧ (rec 0).h.next ≤ (rec ops.size).h.next := by
  have L := drawB_spec hB
  have hlow0 : ∀ n b, (rec 0).h.get n = some b → n < (rec 0).h.next := fun n b hb => by
    obtain ⟨h1, h2⟩ := I.hk n b hb
    rcases h1 with h1 | h1
    · exact h1
    · omega
  have C : Chain X W ops (rec 0).h.next hf rec := chain_mk hst hgood hb0 rfl hlow0 hcs
  let Q : Exit → Act → World → Prop := fun ex a w => ex = .normal ∧ ∃ F', a = actF F' (rec ops.size).tmps ∧ AInv X F' w0 M (Kn (rec ops.size).h.next (X.cnt (rec ops.size).S)) (fun v => v ∈ (rec ops.size).tmps) (rec ops.size).h (rec ops.size).S w ∧ Same (Kn (rec 0).h.next (X.cnt (rec 0).S)) F F' ∧ X.cnt (rec 0).S ≤ X.cnt (rec ops.size).S
  have hend : ∀ (listed : Array Bool) (a : Act) (w : World), (∀ i, i < ops.size → listed.getD i true = true) → (∃ F' e c, DInv X W ops (rec 0).h.next rec F w0 M listed a w F' e c) → Q .normal a w := by
    intro listed a w hall hI
    refine ⟨rfl, DInv.end' C hlim (fun i hi => ?_) hI⟩
    obtain ⟨F', e, c, I'⟩ := hI
    rw [getD_ff (by rw [I'.size]; exact hi) false true]; exact hall i hi
  have hany : ∀ (fuel : Nat) (listed : Array Bool) (a : Act) (w : World), undone listed ops.size ≤ fuel → (∃ F' e c, DInv X W ops (rec 0).h.next rec F w0 M listed a w F' e c) → wpAny P .any ops Q fuel listed a w := by
    intro fuel
    induction fuel with
    | zero =>
      intro listed a w hf hI
      have hall := undone_zero ops.size (Nat.le_zero.1 hf)
      refine ⟨?_, hend listed a w hall hI⟩
      cases hrd : Region.ready .any ops listed with
      | nil => rfl
      | cons x xs =>
        exfalso
        obtain ⟨hx, o, ho, _⟩ := mem_ready.1 (show x ∈ Region.ready .any ops listed by rw [hrd]; exact List.mem_cons_self)
        rw [hall x (Array.getElem?_eq_some_iff.1 ho).1] at hx
        exact Bool.noConfusion hx
    | succ fuel ih =>
      intro listed a w hf hI
      refine ⟨fun hnil => hend listed a w (ready_someD L hnil) hI, fun i hi => ?_⟩
      refine wpOp_mono (fun a' w' h => ih _ a' w' ?_ h) (dinv_step C L hI hi)
      obtain ⟨hun, o, ho, _⟩ := mem_ready.1 hi
      have hlt := (Array.getElem?_eq_some_iff.1 ho).1
      obtain ⟨F', e, c, I'⟩ := hI
      have := undone_le_set hun ops.size hlt (by rw [I'.size]; exact hlt)
      omega
  have hno : ∀ i, (Array.replicate ops.size false).getD i false = false := fun i => by
    rcases Nat.lt_or_ge i ops.size with h | h <;> simp [h]
  have hbn : ∀ n, bornD rec ops (Array.replicate ops.size false) n = false := fun n => by
    cases h : bornD rec ops (Array.replicate ops.size false) n with
    | false => rfl
    | true => obtain ⟨j, _, h2⟩ := bornD_iff.1 h; rw [hno] at h2; cases h2
  obtain ⟨e, _, he2, he3, he4⟩ := next_of (wrB W) ops ops.size 0 (by omega)
  have hKn : ∀ n, Kn (rec 0).h.next (X.cnt (rec 0).S) n → KD X rec ops (rec 0).h.next (Array.replicate ops.size false) 0 n := fun n hn => by
    rcases hn with hn | hn
    · exact .inl hn
    · exact .inr (.inr hn)
  have hget : ∀ n b, (hD rec ops (rec 0).h.next (Array.replicate ops.size false) e).get n = some b → (rec 0).h.get n = some b := fun n b hb => by
    obtain ⟨h1, h2⟩ := hD_get hb
    rw [hbn] at h1
    have h1 : n < (rec 0).h.next := by rcases h1 with h | h; exact h; cases h
    rw [C.stays' (Nat.zero_le e) he2 (fun j o _ h hj => he3 j o (Nat.zero_le _) h hj) h1] at h2
    exact h2
  have hdr : Kept w0 M w.drew := ⟨I.kept.os, I.kept.tape, I.kept.output, I.kept.size, I.kept.block⟩
  have hH : Holds F (rec 0).h w.drew := ⟨I.holds.row, I.holds.apart⟩
  have hD0 : DInv X W ops (rec 0).h.next rec F w0 M (Array.replicate ops.size false) (actF F (rec 0).tmps) w.drew F e 0 := by
    refine ⟨by simp, fun i o _ hl => (by rw [hno] at hl; cases hl), by simp [actF], rfl, fun t ht => ?_, fun j hj => (by rw [hno] at hj; cases hj), fun v hv => (I.vst v hv).move (Same.refl _ _) hKn, he2, fun i o h1 h2 h3 => (by rw [he3 i o (Nat.zero_le _) h1 h2] at h3; cases h3), fun i o _ _ _ => hno i, he4,
      Nat.zero_le _, fun i o h => (by omega), fun i o _ _ _ => hno i, hH.sub hget, hlim, fun n b hb v hv => (I.hst n b (hget n b hb) v hv).move (Same.refl _ _) hKn, X.rep_kept _ _ _ _ I.rep (Nat.le_refl _) (fun _ _ => rfl), hdr, fun n b hb => I.own n b (hget n b hb), I.fown, fun n b hb => I.sep n b (hget n b hb), Same.refl _ _, Nat.le_refl _⟩
    have : ∀ n, slotAt (dstD ops) (fun j => (rec j).v) (fun j => (Array.replicate ops.size false).getD j false) ⟨(rec 0).tmps.toArray, []⟩ t n = (rec 0).tmps.getD t undef := by
      intro n
      induction n with
      | zero => simp [slotAt, List.getD]
      | succ n ih => rw [slotAt, if_neg, ih]; rintro ⟨h1, _⟩; rw [hno] at h1; cases h1
    unfold slotD
    rw [this]
    exact actF_eval F (rec 0).tmps (.tmp t) rfl
  have hwp : (Code.region id ops true).wp P Q (actF F (rec 0).tmps) w := wp_region_any X.mix (hany ops.size _ _ _ (undone_replicate _ _) ⟨F, e, 0, hD0⟩)
  obtain ⟨ex, a', w', ⟨rfl, F', rfl, I', hs, hc⟩, harr⟩ := hwp b k cs
  exact ⟨F', w', _, harr, rfl, ⟨I', C.lim hlim ops.size (Nat.le_refl _)⟩, hs, hc, C.next_le' (Nat.zero_le _) (Nat.le_refl _)⟩

theorem op0_cnt {o : Oper} {e : Operand → Value} {h h' : AHeap} {S S' : σ} {v : Value} (H : Op0 X o e h S v h' S') : X.cnt S ≤ X.cnt S' := (op0_sem H).2.1

/-- The count of handles never falls. -/
theorem Goes.cnt' {fn : Func} {A : Conf σ → Prop} {c : Conf σ} (G : Goes X fn A c) : ∃ c', A c' ∧ X.cnt (st c) ≤ X.cnt (st c') := by
  induction G with
  | here h => exact ⟨_, h, Nat.le_refl _⟩
  | ctl _ _ ih => exact ih
  | ret _ _ _ ih => exact ih
  | skip _ _ _ ih => exact ih
  | op _ _ _ hop _ _ ih =>
    obtain ⟨c', h1, h2⟩ := ih
    exact ⟨c', h1, Nat.le_trans (op0_cnt hop) h2⟩
  | call _ _ _ _ _ _ _ _ _ _ _ _ _ _ _ _ _ ihc ih =>
    obtain ⟨c', h1, h2⟩ := ih
    obtain ⟨c2, rfl, h4⟩ := ihc
    exact ⟨c', h1, Nat.le_trans h4 h2⟩
  | @draw fn A id ops k tmps h S W rec hB h0 hf hstill hgood hcalls hk ihc ih =>
    obtain ⟨c', h1, h2⟩ := ih
    refine ⟨c', h1, Nat.le_trans ?_ h2⟩
    obtain ⟨_, _, rfl, _⟩ := h0
    have key : ∀ i, i ≤ ops.size → X.cnt (rec 0).S ≤ X.cnt (rec i).S := by
      intro i
      induction i with
      | zero => exact fun _ => Nat.le_refl _
      | succ i ih' =>
        intro hi
        refine Nat.le_trans (ih' (by omega)) ?_
        have ho : ops[i]? = some ops[i] := Array.getElem?_eq_getElem (by omega)
        have hg := (hgood i _ ho).2
        split at hg
        · rw [hg.2.2.2.1]; exact Nat.le_refl _
        · obtain ⟨_, _, _, _, _, _, hg, _⟩ := hg
          rw [hg]; exact Nat.le_refl _
        · obtain ⟨_, _, _, _, _, hg⟩ := hg
          split at hg
          · exact op0_cnt hg.2
          · obtain ⟨_, hv, hg, _⟩ := hg
            exact op0_cnt hg
        · rename_i hkind
          obtain ⟨c2, rfl, h4⟩ := ihc i _ _ _ _ _ _ _ _ _ _ _ (by omega) hkind
          exact h4
    exact key ops.size (Nat.le_refl _)
  | weak _ _ _ ih => exact ih

theorem Goes.cnt {fn : Func} {c : Conf σ} {v : Value} {h1 : AHeap} {S' : σ} (G : Goes X fn (fun x => x = .done v h1 S') c) : X.cnt (st c) ≤ X.cnt S' := by
  obtain ⟨c', rfl, h⟩ := G.cnt'
  exact h

/-- The step of an operation. -/
theorem op_step {fn : Func} {ops : Array Oper} {i : Nat} {rest : List Nat} {k : List Item} {tmps : List Value} {h h' : AHeap} {S S' : σ} {o : Oper} {v : Value} (ho : ops[i]? = some o) (hw : Region.wanted o (yieldedL ops tmps) = true) (hb' : o.op.operands.all operB = true) (hl : h'.next = h.next ∨ h'.next ≤ VB) (hsem : OpSem X o (evA tmps) h S v h' S')
    (b : Frame) (cs : List Frame) (F : Emb) (w0 w : World) (M : Nat → Prop) (m : Machine) (_ : P.funcs[b.fn]? = some fn) (_ : b.kind = .normal) (hS : Stands P F b cs (.run (.inRegion ops (i :: rest) :: k) tmps h S) w m) (hI : InvC X F w0 M (.run (.inRegion ops (i :: rest) :: k) tmps h S) w) :
    ∃ F' w' m', Steps P m m' ∧ Stands P F' b cs (.run (.inRegion ops rest :: k) (putL o.dst v tmps) h' S') w' m' ∧ InvC X F' w0 M (.run (.inRegion ops rest :: k) (putL o.dst v tmps) h' S') w' ∧ Same (Kn h.next (X.cnt S)) F F' ∧ X.cnt S ≤ X.cnt S' ∧ h.next ≤ h'.next := by
  subst hS
  obtain ⟨I, hlim⟩ := hI
  have I : AInv X F w0 M (Kn h.next (X.cnt S)) (fun v => v ∈ tmps) h S w := I
  obtain ⟨hn, hcn, _, hsem⟩ := hsem
  have hlim : h.next ≤ VB := hlim
  have hl : h'.next ≤ VB := by omega
  have hop : ∀ x ∈ o.op.operands, operB x = true := fun x hx => by simpa using (Array.all_eq_true_iff_forall_mem.1 hb') x hx
  have hmain := hsem (Kn h.next (X.cnt S)) F w0 w M (actF F tmps).eval (fun x h1 h2 => ⟨fun hk => by
    rcases hk with hk | hk
    · omega
    · omega, by omega⟩) (fun x hx => actF_eval F tmps x (hop x hx)) (I.vals' (by rintro _ ⟨x, hx, rfl⟩; exact evals_stab I.vst x (hop x hx)))
  obtain ⟨u, w', ⟨F', rfl, hs, J⟩, hst⟩ := OpWp.steps (b := b) (rest := rest) (k := k) (cs := cs) ho (by rw [actF_wanted]; exact hw) hmain
  rw [← actF_congr I.vst hs, actF_put, actF_congr I.vst hs] at hst
  have hKK : ∀ x, KAdd (Kn h.next (X.cnt S)) h.next h'.next (X.cnt S) (X.cnt S') x → Kn h'.next (X.cnt S') x := fun x hx => by
    rcases hx with (hx | hx) | hx | hx
    · exact .inl (by omega)
    · exact .inr ⟨hx.1, by omega⟩
    · exact .inl hx.2
    · exact .inr ⟨by omega, hx.2⟩
  have J2 := J.kmono hKK (fun x hx => by
    rcases hx with hx | hx
    · omega
    · exact hx.2)
  refine ⟨F', w', _, hst, rfl, ⟨J2.vals' (putL_stab (fun u hu => (I.vst u hu).move hs (fun x hx => hKK x (.inl hx))) (J2.vst _ rfl) o.dst), hl⟩, hs, hcn, hn⟩

/-- THE SIMULATION. -/
theorem Goes.simul {fn : Func} {A : Conf σ → Prop} {c : Conf σ} (G : Goes X fn A c) : Simul X fn A c := by
  induction G with
  | here h => exact fun b cs F w0 w M m hb hkd hS hI => ⟨_, F, w, m, h, .refl P m, hS, hI, .refl _ _, Nat.le_refl _, Nat.le_refl _⟩
  | ctl hc hk ih =>
    refine ih.step fun b cs F w0 w M m hb hkd hS hI => ?_
    subst hS
    exact ⟨F, w, _, .one (step_ctl F hc b cs w), rfl, hI, .refl _ _, Nat.le_refl _, Nat.le_refl _⟩
  | @ret fn A todo tmps h S v ht hv hk ih =>
    refine ih.step fun b cs F w0 w M m hb hkd hS hI => ?_
    subst hS
    obtain ⟨I, hlim⟩ := hI
    have I : AInv X F w0 M (Kn h.next (X.cnt S)) (fun v => v ∈ tmps) h S w := I
    have hres := resA_run I.holds hv
    have hstab : Stab (Kn h.next (X.cnt S)) F v := by
      intro F' hs
      have h2 := resA_run (I.holds.same (fun n b hb => (I.hk n b hb).1) I.hst hs) hv
      rw [actF_congr I.vst hs, hres] at h2
      simpa using h2.symm
    have hI2 : InvC X F w0 M (.done v h S) w := ⟨I.vals' (fun u hu => by rw [List.mem_singleton.1 hu]; exact hstab), hlim⟩
    have hlv : ∀ todo, Stands P F b cs (.done v h S) w (lone { b.at (actF F tmps) todo with mode := .returning } cs w) :=
      fun todo => ⟨_, rfl, rfl, rfl, rfl, hkd, fn, hb, hres⟩
    unfold retB at ht
    split at ht
    · exact ⟨F, w, _, .one step_end, hlv _, hI2, .refl _ _, Nat.le_refl _, Nat.le_refl _⟩
    · exact ⟨F, w, _, .one step_ret, hlv _, hI2, .refl _ _, Nat.le_refl _, Nat.le_refl _⟩
    · cases ht
  | @skip fn A ops i rest k tmps h S o ho hw hk ih =>
    refine ih.step fun b cs F w0 w M m hb hkd hS hI => ?_
    subst hS
    obtain ⟨I, hlim⟩ := hI
    have I : AInv X F w0 M (Kn h.next (X.cnt S)) (fun v => v ∈ tmps) h S w := I
    have hst := step_op_skip (P := P) (b := b) (a := actF F tmps) (k := k) (cs := cs) (w := w) (ops := ops) (i := i) (rest := rest) (by rw [ho]; simp only [Option.map_some, Option.getD_some, actF_wanted, hw])
    rw [show ((ops[i]?).bind (·.dst)) = o.dst by rw [ho]; rfl, actF_undef] at hst
    exact ⟨F, w, _, .one hst, rfl, ⟨I.vals' (putL_stab I.vst Stab.undef o.dst), hlim⟩, .refl _ _, Nat.le_refl _, Nat.le_refl _⟩
  | op ho hw hb' hop hl hk ih =>
    exact ih.step (op_step ho hw hb' hl (op0_sem hop))
  | call f g c zs E Q hc h1 ex v0 ho hw hb' hok hl hrun0 hk ihc ih =>
    exact ih.step (op_step ho hw hb' hl (call_sem hok hrun0.cnt ihc))
  | @draw fn A id ops k tmps h S W rec hB h0 hf hstill hgood hcalls hk ihc ih =>
    obtain ⟨rfl, rfl, rfl, hb0⟩ := h0
    refine ih.step fun b cs F w0 w M m hb hkd hS hI => ?_
    subst hS
    exact draw_step hB hstill hgood hb0 (fun i wr f g c zs E Q hc h1 ex v0 hi hk => ⟨(hcalls i wr f g c zs E Q hc h1 ex v0 hi hk).cnt, ihc i wr f g c zs E Q hc h1 ex v0 hi hk⟩) b cs F w0 w M hI.1 hI.2
  | @weak fn A todo tmps h h0 S hs hn hk ih =>
    refine ih.step fun b cs F w0 w M m hb hkd hS hI => ?_
    subst hS
    obtain ⟨I, hlim⟩ := hI
    have I : AInv X F w0 M (Kn h.next (X.cnt S)) (fun v => v ∈ tmps) h S w := I
    have hlim : h.next ≤ VB := hlim
    have J : AInv X F w0 M (Kn h0.next (X.cnt S)) (fun v => v ∈ tmps) h0 S w := by
      rw [hn]
      refine ⟨⟨fun n b hb => ?_, fun n m b c hb hc hne hro => ?_⟩, I.rep, I.vst, fun n b hb v hv => ?_, fun n b hb => ?_, I.hand, I.klim, I.kept, fun n b hb hro hlt => ?_, I.fown, fun n b hb => ?_⟩
      · obtain ⟨b', k1, k2, k3, k4, k5⟩ := hs n b hb
        obtain ⟨pre, post, fr, g1, g2, g3, g4, g5⟩ := I.holds.row n b' k1
        rw [k2, k3] at g1
        refine ⟨pre, post, fr, g1, g2, fun h => g3 (k4 h), fun h => g4 ?_, fun s h => g5 s ?_⟩
        · rcases k5 with k5 | k5
          · rw [← k5]; exact h
          · rw [h] at k5; cases k5
        · rcases k5 with k5 | k5
          · rw [← k5]; exact h
          · rw [h] at k5; cases k5
      · obtain ⟨b', k1, _, _, k4, _⟩ := hs n b hb
        obtain ⟨c', k1', _⟩ := hs m c hc
        exact I.holds.apart n m b' c' k1 k1' hne (k4 hro)
      · obtain ⟨b', k1, k2, _⟩ := hs n b hb
        exact I.hst n b' k1 v (by rw [k2]; exact hv)
      · obtain ⟨b', k1, _⟩ := hs n b hb
        exact I.hk n b' k1
      · obtain ⟨b', k1, _, _, k4, _⟩ := hs n b hb
        exact I.own n b' k1 (k4 hro) hlt
      · obtain ⟨b', k1, _⟩ := hs n b hb
        exact I.sep n b' k1
    exact ⟨F, w, _, .refl P _, rfl, ⟨J, by show h0.next ≤ VB; omega⟩, .refl _ _, Nat.le_refl _, Nat.le_of_eq hn.symm⟩

end
end Go.Proofs.Ytceddijolfpppaa
