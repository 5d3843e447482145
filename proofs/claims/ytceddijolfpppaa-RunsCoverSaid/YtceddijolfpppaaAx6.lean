/-
  The abstract machine, part 6: what an operation does, in whatever world it comes.
  No condition: laws.
-/
import Derived.Test.YtceddijolfpppaaAx5
namespace Go.Proofs.Ytceddijolfpppaa
open Go Go.RowKit
set_option linter.unusedSimpArgs false
set_option linter.unusedVariables false

def Emb.comp (F E : Emb) : Emb := ⟨fun n => F.blk (E.blk n), fun n => F.base (E.blk n) + E.base n, fun n => E.slack n + F.slack (E.blk n)⟩

theorem ren_comp (F E : Emb) : ∀ v : Value, ren F (ren E v) = ren (F.comp E) v
  | .pointer (some a) => by simp [adr, Emb.comp, Nat.add_assoc]
  | .pointer none => by simp
  | .slice (some a) n c => by simp [adr, Emb.comp, Nat.add_assoc]
  | .slice none n c => by simp
  | .iface t v => by simp [ren_comp F E v]
  | .agg cs => by
    simp only [ren_agg, Array.map_map]
    congr 1
    exact Array.map_congr_left fun x hx => ren_comp F E x
  | .tuple cs => by
    simp only [ren_tuple, Array.map_map]
    congr 1
    exact Array.map_congr_left fun x hx => ren_comp F E x
  | .func fn xs ys => by
    simp only [ren_func, Array.map_map]
    congr 1
    · exact Array.map_congr_left fun x hx => ren_comp F E x
    · exact Array.map_congr_left fun x hx => ren_comp F E x
  | .bool b => by simp
  | .int k n => by simp
  | .float k n => by simp [ren]
  | .complex k n m => by simp [ren]
  | .string s => by simp
  | .map r => by simp [ren]
  | .chan r => by simp [ren]
  | .nilFunc => by simp
  | .nilIface => by simp
termination_by v => SizeOf.sizeOf v
decreasing_by all_goals (simp_wf; first | omega | (have := Array.sizeOf_lt_of_mem hx; omega))

section
variable {P : Program} {σ : Type} {X : Face P σ}

theorem step_callx {b : Frame} {a : Act} {ops : Array Oper} {i : Nat} {rest : List Nat} {k : List Item} {cs : List Frame} {w w1 : World} {o : Oper} {f : FuncId} {args : Array Value} {R : Ending → World → Prop} {Q : Value → World → Prop} (ho : ops[i]? = some o) (hw : Region.wanted o (yielded ops a.tmps) = true)
    (hr : (execOp a.eval o).run P w = .ok (.enter f args) w1) (hc : Calls P f args w1 R) (hR : ∀ e w', R e w' → ∃ v, e = .returned v ∧ Q v w') :
    ∃ v w', Q v w' ∧ Steps P (lone (b.at a (.inRegion ops (i :: rest) :: k)) cs w) (lone (b.at (a.put o.dst v) (.inRegion ops rest :: k)) cs w') := by
  have hg := stepG_op (P := P) (b := b) (k := k) (cs := cs) (w := w) (rest := rest) ho hw
  obtain ⟨e, w'', fr, hq, hsteps, _, hleave⟩ := hc (b.at a (.inRegion ops (i :: rest) :: k) :: cs)
  obtain ⟨v, rfl, hq2⟩ := hR _ _ hq
  have hfin : (b.at a (.inRegion ops (i :: rest) :: k)).finish v = b.at (a.put o.dst v) (.inRegion ops rest :: k) := by
    rw [Frame.finish_at, ho]; rfl
  have henter : step P (lone (b.at a (.inRegion ops (i :: rest) :: k)) cs w) = .next (lone (Frame.enter P f args .normal) (b.at a (.inRegion ops (i :: rest) :: k) :: cs) w1) :=
    step_lone_go (by rw [hg]; simp [stepG.apply, hr, Frame.at])
  refine ⟨v, w'', hq2, .head henter (Steps.trans hsteps (.one ?_))⟩
  rw [← hfin]; exact step_leave_returned hleave

/-- An operation that ends with a value. -/
def OpWp (P : Program) (o : Oper) (ρ : Operand → Value) (w : World) (Q : Value → World → Prop) : Prop :=
  (∃ u w', ((execOp ρ o).run P w = .ok (.value u) w' ∨ ((execOp ρ o).run P w = .ok .skip w' ∧ u = undef)) ∧ Q u w') ∨
  (∃ f args w1, (execOp ρ o).run P w = .ok (.enter f args) w1 ∧ Calls P f args w1 fun en w' => ∃ u, en = .returned u ∧ Q u w')

theorem OpWp.wp {o : Oper} {a : Act} {w : World} {R : Act → World → Prop} {Q : Exit → Act → World → Prop} (h : OpWp P o a.eval w fun u w' => R (a.put o.dst u) w') : o.wp P a w R Q := by
  unfold Oper.wp
  rcases h with ⟨u, w', hr, hq⟩ | ⟨f, args, w1, hr, hq⟩
  · rcases hr with hr | ⟨hr, rfl⟩
    · rw [hr]; exact hq
    · rw [hr]; exact hq
  · rw [hr]
    exact hq.mono (by rintro en w' ⟨u, rfl, h'⟩; exact h')

theorem OpWp.mono {o : Oper} {ρ : Operand → Value} {w : World} {Q Q' : Value → World → Prop} (h : OpWp P o ρ w Q) (hq : ∀ u w', Q u w' → Q' u w') : OpWp P o ρ w Q' := by
  rcases h with ⟨u, w', hr, h'⟩ | ⟨f, args, w1, hr, h'⟩
  · exact .inl ⟨u, w', hr, hq _ _ h'⟩
  · exact .inr ⟨f, args, w1, hr, h'.mono (by rintro en w' ⟨u, rfl, h2⟩; exact ⟨u, rfl, hq _ _ h2⟩)⟩

theorem OpWp.congr {o : Oper} {ρ ρ' : Operand → Value} {w : World} {Q : Value → World → Prop} (h : OpWp P o ρ w Q) (he : execOp ρ' o = execOp ρ o) : OpWp P o ρ' w Q := by
  unfold OpWp at h ⊢
  rw [he]; exact h

theorem OpWp.steps {b : Frame} {a : Act} {ops : Array Oper} {i : Nat} {rest : List Nat} {k : List Item} {cs : List Frame} {w : World} {o : Oper} {Q : Value → World → Prop} (ho : ops[i]? = some o) (hw : Region.wanted o (yielded ops a.tmps) = true) (h : OpWp P o a.eval w Q) :
    ∃ v w', Q v w' ∧ Steps P (lone (b.at a (.inRegion ops (i :: rest) :: k)) cs w) (lone (b.at (a.put o.dst v) (.inRegion ops rest :: k)) cs w') := by
  rcases h with ⟨u, w', hr, h'⟩ | ⟨f, args, w1, hr, h'⟩
  · rcases hr with hr | ⟨hr, rfl⟩
    · exact ⟨u, w', h', .one (step_value ho hw hr)⟩
    · exact ⟨undef, w', h', .one (step_skipv ho hw hr)⟩
  · exact step_callx ho hw hr h' (fun en w' h => h)

/-- Names that are known behind it. -/
def KAdd (K : Nat → Prop) (n m c c' : Nat) (x : Nat) : Prop := K x ∨ (n ≤ x ∧ x < m) ∨ (VB + c ≤ x ∧ x < VB + c')

/-- What an operation does to heap and state, whatever the world. -/
def OpSem (X : Face P σ) (o : Oper) (e : Operand → Value) (h : AHeap) (S : σ) (v : Value) (h' : AHeap) (S' : σ) : Prop :=
  h.next ≤ h'.next ∧ X.cnt S ≤ X.cnt S' ∧ (∀ n b, h.next ≤ n → h'.get n = some b → (∀ m c, h.get m = some c → m < h.next) → b.ro = false) ∧ ∀ (K : Nat → Prop) (F : Emb) (w0 w : World) (M : Nat → Prop) (ρ : Operand → Value), (∀ x, h.next ≤ x → x < h'.next → ¬ K x ∧ x < VB) → (∀ x ∈ o.op.operands, ρ x = ren F (e x)) →
    AInv X F w0 M K (fun v => ∃ x ∈ o.op.operands, v = e x) h S w → OpWp P o ρ w fun u w' => ∃ F', u = ren F' v ∧ Same K F F' ∧ AInv X F' w0 M (KAdd K h.next h'.next (X.cnt S) (X.cnt S')) (fun x => x = v) h' S' w'

theorem kadd_same {K : Nat → Prop} {n c : Nat} {x : Nat} (h : KAdd K n n c c x) : K x := by
  rcases h with h | h | h
  · exact h
  · omega
  · omega

theorem newA_ro {e : Operand → Value} {h : AHeap} {n : Nat} {o : Op} {v : Value} {ob : Option Blk} (hv : newA P e h n o = some (v, ob)) : ∀ b, ob = some b → b.ro = false := by
  intro b hb
  subst hb
  unfold newA endA at hv
  repeat' split at hv
  all_goals first
    | (cases hv; done)
    | (cases hv; rfl)
    | (cases hf : fillA _ _ _ with
        | none => rw [hf] at hv; cases hv
        | some cs => rw [hf] at hv; cases hv; rfl)
theorem wrA_ro {e : Operand → Value} {h h' : AHeap} {o : Op} {v : Value} (hv : wrA P e h o = some (v, h')) (hl : ∀ m c, h.get m = some c → m < h.next) : ∀ n b, h.next ≤ n → h'.get n = some b → b.ro = false := by
  intro n b hn hb
  unfold wrA at hv
  repeat' split at hv
  all_goals first
    | (cases hv; done)
    | (cases hv; have := hl n b hb; omega)
    | (cases hv; rw [AHeap.addO_get] at hb; split at hb; (cases hb; rfl); rw [AHeap.putO_get] at hb; split at hb; cases hb; have := hl n b hb; omega)
    | (cases hv; rw [AHeap.put_get] at hb; split at hb; (rename_i he; have := hl _ _ ‹h.get _ = some _›; omega); have := hl n b hb; omega)
    | (rename_i a _; cases hs' : storeA P h _ a _ with
        | none => rw [hs'] at hv; cases hv
        | some h1 =>
          rw [hs'] at hv
          cases hv
          obtain ⟨b0, s, hb0, _, _, _, _, _, _, rfl⟩ := storeA_spec hs'
          rw [AHeap.put_get] at hb; split at hb
          · rename_i he; have := hl _ _ hb0; omega
          · have := hl n b hb; omega)

theorem op0_sem {o : Oper} {e : Operand → Value} {h h' : AHeap} {S S' : σ} {v : Value} (H : Op0 X o e h S v h' S') : OpSem X o e h S v h' S' := by
  rcases H with ⟨hv, rfl, rfl⟩ | ⟨ob, hv, rfl, rfl⟩ | ⟨hv, rfl⟩ | ⟨f, g, args, hca, hf, hg, hp, rfl⟩
  · refine ⟨Nat.le_refl _, Nat.le_refl _, fun n b hn hb hl => (by have := hl n b hb; omega), fun K F w0 w M ρ hn hρ I => .inl ⟨ren F v, w, .inl (valA_run I.holds hρ hv), F, rfl, Same.refl _ _, (I.vals' ?_).kmono (fun x hx => .inl hx) (fun x hx => I.klim x (kadd_same hx))⟩⟩
    rintro _ rfl F' hs
    have h1 := valA_run (P := P) I.holds hρ hv
    have h2 := valA_run (P := P) (ρ := ρ) (I.holds.same (fun n b hb => (I.hk n b hb).1) I.hst hs) (fun x hx => by rw [hρ x hx, I.vst _ ⟨x, hx, rfl⟩ F' hs]) hv
    rw [h1] at h2
    simpa using h2.symm
  · refine ⟨Nat.le_succ _, Nat.le_refl _, fun n b hn hb hl => ?_, fun K F w0 w M ρ hn hρ I => ?_⟩
    · rw [AHeap.addO_get] at hb
      split at hb
      · exact newA_ro hv b hb
      · have := hl n b hb; omega
    have hnew := hn h.next (Nat.le_refl _) (Nat.lt_succ_self _)
    obtain ⟨u, w', bk, bs, sl, hr, hu, hw⟩ := newA_run (P := P) (ρ := ρ) I.holds hρ hv
    have hcells : ∀ b, ob = some b → ∀ c ∈ b.cells, Stab K F c := by
      rintro b rfl c hc
      intro F' hs
      obtain ⟨u', w'', bk', bs', sl', hr', hu', hw'⟩ := newA_run (P := P) (ρ := ρ) (I.holds.same (fun n b hb => (I.hk n b hb).1) I.hst hs) (fun x hx => by rw [hρ x hx, I.vst _ ⟨x, hx, rfl⟩ F' hs]) hv
      rw [hr] at hr'
      simp only [Result.ok.injEq, Next.value.injEq] at hr'
      rcases hw with ⟨h0, _⟩ | ⟨b1, post, h0, _, _, _, hg, _⟩
      · cases h0
      · cases h0
        rcases hw' with ⟨h0, _⟩ | ⟨b1, post', h0, _, _, _, hg', _⟩
        · cases h0
        · cases h0
          rw [← hr'.2] at hg'
          have h3 := hg.heap.symm.trans hg'.heap
          have h4 : (b.cells.map (ren F)).toArray ++ post = (b.cells.map (ren F')).toArray ++ post' := by
            have := congrArg (fun A : Array Obj => A[w.heap.size]?) h3
            simpa using this
          obtain ⟨i, hi, rfl⟩ := List.mem_iff_getElem.1 hc
          have h5 := congrArg (fun A : Array Value => A[i]?) h4
          simp only [Array.getElem?_append, List.size_toArray, List.length_map, hi, if_true, List.getElem?_toArray, List.getElem?_map, List.getElem?_eq_getElem hi, Option.map_some, Option.some.injEq] at h5
          exact h5.symm
    have I' := I.add (n := h.next) hnew.1 hnew.2 (h' := h.addO ob) (ob := ob) (bk := bk) (bs := bs) (sl := sl) (fun m => rfl) hcells hw
    obtain ⟨e1, e2, e3⟩ := F.set_at h.next bk bs sl
    refine .inl ⟨u, w', .inl hr, F.set h.next bk bs sl, (hu _ e1 e2 e3).symm, F.set_same hnew.1, (I'.kmono (fun x hx => ?_) (fun x hx => ?_)).vals' ?_⟩
    · rcases hx with hx | rfl
      · exact .inl hx
      · exact .inr (.inl ⟨Nat.le_refl _, Nat.lt_succ_self _⟩)
    · rcases hx with hx | hx | hx
      · exact I.klim x hx
      · have : x < h.next + 1 := hx.2
        have := hnew.2
        omega
      · omega
    · rintro _ rfl F' hs
      have := hs h.next (.inr (.inl ⟨Nat.le_refl _, Nat.lt_succ_self _⟩))
      rw [hu _ e1 e2 e3]
      exact hu F' (by rw [← this.1, e1]) (by rw [← this.2.1, e2]) (by rw [← this.2.2, e3])
  · have hle : h.next ≤ h'.next := wrA_next hv
    refine ⟨hle, Nat.le_refl _, fun n b hn hb hl => wrA_ro hv hl n b hn hb, fun K F w0 w M ρ hn hρ I => ?_⟩
    obtain ⟨u, w', hr, hW⟩ := wrA_run (P := P) (ρ := ρ) I.holds hρ hv
    obtain ⟨_, F', hu, hs, I'⟩ := I.wrote' (fun x hx => I.vst _ ⟨x, hx, rfl⟩) hW hn
    refine .inl ⟨u, w', hr, F', hu, hs, I'.kmono (fun x hx => ?_) (fun x hx => ?_)⟩
    · rcases hx with hx | hx
      · exact .inl hx
      · exact .inr (.inl hx)
    · rcases hx with hx | hx | hx
      · exact I.klim x hx
      · have := (hn x hx.1 hx.2).2; omega
      · omega
  · obtain ⟨hcn, hhand⟩ := X.prim_hand f args S v S' hp
    refine ⟨Nat.le_refl _, hcn, fun n b hn hb hl => (by have := hl n b hb; omega), fun K F w0 w M ρ hn hρ I => ?_⟩
    unfold goB at hg
    rw [Bool.and_eq_true] at hg
    have hrun := callA_run (P := P) (ρ := ρ) (F := F) (w := w) hρ hca hf hg.1 (by simpa using hg.2)
    refine .inr ⟨f, _, w, hrun, (X.prim_ok f args S v S' F w hp I.rep).mono ?_⟩
    rintro en w' ⟨F', hs0, rfl, hrep, hkept, hfp⟩
    have hs : Same K F F' := hs0.mono (fun x hx => I.klim x hx)
    have I1 := I.same hs
    have he : ∀ n b, h'.get n = some b → F'.blk n = F.blk n := fun n b hb => (hs n (I.hk n b hb).1).1.symm
    have hK : ∀ x, K x → KAdd K h'.next h'.next (X.cnt S) (X.cnt S') x := fun x hx => .inl hx
    refine ⟨_, rfl, F', rfl, hs, I1.holds.kept (fun n b hb => by rw [he n b hb]; exact hkept.block _ (I.holds.blk_lt hb) (I.sep n b hb)), hrep, ?_, fun n b hb v hv => (I1.hst n b hb v hv).move (Same.refl _ _) hK, fun n b hb => ⟨.inl (I.hk n b hb).1, (I.hk n b hb).2⟩, fun n h1 h2 => ?_, fun x hx => ?_, I.kept.trans hkept (fun b hb hf => I.fown b hf hb), I1.own, fun b hb hx => ?_, fun n b hb hx => ?_⟩
    · rintro _ rfl
      exact Clo.stab (fun G G' hG => hhand G G' (hG.mono (fun n hn => by
        by_cases h : n < VB + X.cnt S
        · exact .inl (I.hand n hn.1 h)
        · exact .inr (.inr ⟨by omega, hn.2⟩)))) F'
    · by_cases h : n < VB + X.cnt S
      · exact .inl (I.hand n h1 h)
      · exact .inr (.inr ⟨by omega, h2⟩)
    · rcases hx with hx | hx | hx
      · have := I.klim x hx; omega
      · omega
      · omega
    · rcases hfp b hb with hb | hb
      · exact I.fown b hb hx
      · have := I.kept.size; omega
    · rw [he n b hb] at hx
      rcases hfp _ hx with hx | hx
      · exact I.sep n b hb hx
      · have := I.holds.blk_lt hb; omega

/-- What a run of the abstract machine is, in the model. -/
def Simul (X : Face P σ) (fn : Func) (A : Conf σ → Prop) (c : Conf σ) : Prop :=
  ∀ (b : Frame) (cs : List Frame) (F : Emb) (w0 w : World) (M : Nat → Prop) (m : Machine), P.funcs[b.fn]? = some fn → b.kind = .normal → Stands P F b cs c w m → InvC X F w0 M c w →
    ∃ c' F' w' m', A c' ∧ Steps P m m' ∧ Stands P F' b cs c' w' m' ∧ InvC X F' w0 M c' w' ∧ Same (Kn (heap c).next (X.cnt (st c))) F F' ∧ X.cnt (st c) ≤ X.cnt (st c') ∧ (heap c).next ≤ (heap c').next

/-- A function's body that goes to its end is a call of the model's. -/
theorem calls_of_simul {f : FuncId} {g : Func} {c : Code} {zs : Array Value} {hc h1 : AHeap} {S S' : σ} {v : Value} {F : Emb} {w : World} {M : Nat → Prop} (hf : P.funcs[f]? = some g) (hbody : g.body = some c)
    (hrun : Simul X g (fun x => x = .done v h1 S') (.run (enterL g c zs).1 (enterL g c zs).2 hc S)) (I : AInv X F w M (Kn hc.next (X.cnt S)) (fun u => u ∈ (enterL g c zs).2) hc S w) (hl : hc.next ≤ VB) :
    Calls P f (zs.map (ren F)) w fun e w' => ∃ F', e = .returned (ren F' v) ∧ AInv X F' w M (Kn h1.next (X.cnt S')) (fun u => u ∈ [v]) h1 S' w' ∧ Same (Kn hc.next (X.cnt S)) F F' ∧ X.cnt S ≤ X.cnt S' ∧ hc.next ≤ h1.next := by
  intro cs
  let b : Frame := { (default : Frame) with fn := f, kind := .normal }
  have henter : Frame.enter P f (zs.map (ren F)) .normal = b.at (actF F (enterL g c zs).2) (enterL g c zs).1 := by
    simp [Frame.enter, Frame.at, hf, hbody, b, actF, enterL, ren_undef]
  obtain ⟨c', F', w', m', hA, hst, hS, hI, hs, hcn, hnx⟩ := hrun b cs F w w M _ hf rfl rfl ⟨I, hl⟩
  subst hA
  obtain ⟨fr, rfl, hfn, hleave⟩ := hS
  exact ⟨.returned (ren F' v), w', fr, ⟨F', rfl, hI.1, hs, hcn, hnx⟩, by rw [henter]; exact hst, hfn, hleave⟩

/-- What was lent is what the function finds. -/
theorem lent_inv {E F : Emb} {h hc : AHeap} {S : σ} {w0 w : World} {M K : Nat → Prop} {vs vs' : Value → Prop} (I : AInv X F w0 M K vs h S w) (L : Lends (X.cnt S) E h hc) (hv : ∀ v, vs' v → Clo (Kn hc.next (X.cnt S)) v) :
    AInv X (F.comp E) w (fun b => X.fp F S b ∨ ∃ n b0, hc.get n = some b0 ∧ b0.ro = false ∧ (F.comp E).blk n = b) (Kn hc.next (X.cnt S)) vs' hc S w := by
  have hsr : Same (fun n => VB ≤ n ∧ n < VB + X.cnt S) F (F.comp E) := fun n hn => by
    obtain ⟨e1, e2, e3⟩ := L.hand n hn.1
    simp [Emb.comp, e1, e2, e3]
  have hrs := X.rep_same F (F.comp E) S w hsr I.rep
  have hro : ∀ n b, hc.get n = some b → b.ro = false → ∃ b0, h.get (E.blk n) = some b0 ∧ b0.ro = false := fun n b hb hr => by
    obtain ⟨b0, h0, _, h2 | h2⟩ := L.row n b hb
    · exact ⟨b0, h0, h2.2.2.2.2 hr⟩
    · rw [h2.1] at hr; cases hr
  refine ⟨⟨?_, ?_⟩, hrs.1, fun v h => (hv v h).stab _, fun n b hb u hu => (L.clo n b hb u hu).stab _, fun n b hb => ⟨.inl (L.low n b hb), by have := L.low n b hb; have := L.lim; omega⟩, fun n h1 h2 => .inr ⟨h1, h2⟩, fun n hn => ?_, Kept.refl _ _, fun n b hb hr _ => .inr ⟨n, b, hb, hr, rfl⟩, fun b hb _ => .inl (hrs.2 b hb), ?_⟩
  · intro n b hb
    obtain ⟨b0, h0, he, hcase⟩ := L.row n b hb
    obtain ⟨pre, post, fr, r1, r2, r3, r4, r5⟩ := I.holds.row _ _ h0
    rcases hcase with ⟨hcs, hbs, hsl, hgr, hrw⟩ | ⟨hr, hgr, l, r, hcs, hl⟩
    · refine ⟨pre, post, fr, ?_, by simp only [Emb.comp, hbs, Nat.add_zero]; exact r2, fun h => r3 (hrw h), fun h => ?_, fun s h => ?_⟩
      · show w.heap[F.blk (E.blk n)]? = _
        rw [r1, he, hcs, List.map_map]
        congr 5
        exact List.map_congr_left fun u _ => ren_comp F E u
      · rcases hgr with hgr | hgr
        · simp only [Emb.comp, hsl, Nat.zero_add]; exact r4 (hgr ▸ h)
        · rw [hgr] at h; cases h
      · rcases hgr with hgr | hgr
        · simp only [Emb.comp, hsl, Nat.zero_add]; exact r5 s (hgr ▸ h)
        · rw [hgr] at h; cases h
    · refine ⟨pre ++ (l.map (ren F)).toArray, (r.map (ren F)).toArray ++ post, fr, ?_, ?_, fun h => (by rw [hr] at h; cases h), fun h => (by rw [hgr] at h; cases h), fun s h => (by rw [hgr] at h; cases h)⟩
      · show w.heap[F.blk (E.blk n)]? = _
        rw [r1, he, hcs]
        congr 2
        have : (b.cells.map (ren E)).map (ren F) = b.cells.map (ren (F.comp E)) := by
          rw [List.map_map]; exact List.map_congr_left fun u _ => ren_comp F E u
        rw [List.map_append, List.map_append, this]
        apply Array.ext'
        simp [List.append_assoc]
      · simp [Emb.comp, r2, hl]
  · intro n m b c hb hc' hne hr
    obtain ⟨b0, h0, hr0⟩ := hro n b hb hr
    obtain ⟨c0, h1, _⟩ := L.row m c hc'
    exact I.holds.apart _ _ b0 c0 h0 h1 (L.apart n m b c hb hc' hne hr) hr0
  · rcases hn with hn | hn
    · have := L.lim; omega
    · exact hn.2
  · intro n b hb hx
    obtain ⟨b0, h0, _⟩ := L.row n b hb
    exact I.sep _ _ h0 (hrs.2 _ hx)

theorem call_sem {o : Oper} {e : Operand → Value} {h h' : AHeap} {S S' : σ} {v : Value} {f : FuncId} {g : Func} {c : Code} {zs : Array Value} {E Q : Emb} {hc h1 : AHeap} {ex : List Nat} {v0 : Value}
    (C : CallOK X o e h S v h' S' f g c zs E Q hc h1 ex v0) (hcn : X.cnt S ≤ X.cnt S') (hrun : Simul X g (fun x => x = .done v0 h1 S') (.run (enterL g c zs).1 (enterL g c zs).2 hc S)) : OpSem X o e h S v h' S' := by
  obtain ⟨hca, hf, hg, hbody, L, hclo, B⟩ := C
  have hnx : h.next ≤ h'.next := by rw [B.next]; omega
  refine ⟨hnx, hcn, fun n b hn hb hl => ?_, fun K F w0 w M ρ hn hρ I => ?_⟩
  · have hm : n < h'.next := by
      rcases Nat.lt_or_ge n h'.next with hm | hm
      · exact hm
      · exfalso
        rcases B.old n (.inr hm) with ⟨h2, _⟩ | ⟨n', b0, h2, _, h4, _⟩
        · rw [h2] at hb; have := hl n b hb; omega
        · obtain ⟨b1, e1, _⟩ := L.row n' b0 h2
          rw [h4] at e1
          have := hl n b1 e1; omega
    rw [B.next] at hm
    obtain ⟨j, rfl⟩ := Nat.exists_eq_add_of_le hn
    have hj : ex[j]? = some ex[j] := List.getElem?_eq_getElem (by omega)
    rw [B.fresh j _ hj] at hb
    cases h6 : h1.get ex[j] with
    | none => rw [h6] at hb; cases hb
    | some b1 =>
      rw [h6] at hb
      cases hb
      exact B.own _ b1 h6 (.inr (List.mem_of_getElem? hj))
  unfold goB at hg
  rw [Bool.and_eq_true] at hg
  have hop := callA_run (P := P) (ρ := ρ) (F := F) (w := w) hρ hca hf hg.1 (by simpa using hg.2)
  have hzs : (zs.map (ren E)).map (ren F) = zs.map (ren (F.comp E)) := by
    rw [Array.map_map]; exact Array.map_congr_left fun u _ => ren_comp F E u
  have Ic := lent_inv I L (vs' := fun u => u ∈ (enterL g c zs).2) (fun u hu => by
    simp only [enterL, List.mem_append] at hu
    rcases hu with hu | hu
    · exact hclo u hu
    · rw [List.eq_of_mem_replicate hu]; exact Clo.plain (by simp [undef, plainB]))
  have hcalls := calls_of_simul hf hbody hrun Ic L.lim
  refine .inr ⟨f, _, w, hop, ?_⟩
  rw [hzs]
  refine hcalls.mono ?_
  rintro en w' ⟨F1, rfl, I1, hs1, _, hnx1⟩
  -- the embedding then
  let F2 : Emb := ⟨fun x => if h.next ≤ x ∧ x < h'.next then F1.blk (ex.getD (x - h.next) 0) else if VB ≤ x then F1.blk x else F.blk x,
    fun x => if h.next ≤ x ∧ x < h'.next then F1.base (ex.getD (x - h.next) 0) else if VB ≤ x then F1.base x else F.base x,
    fun x => if h.next ≤ x ∧ x < h'.next then F1.slack (ex.getD (x - h.next) 0) else if VB ≤ x then F1.slack x else F.slack x⟩
  have hhand : ∀ x, VB ≤ x → F2.blk x = F1.blk x ∧ F2.base x = F1.base x ∧ F2.slack x = F1.slack x := fun x hx => by
    have : ¬ (h.next ≤ x ∧ x < h'.next) := fun hc => by have := (hn x hc.1 hc.2).2; omega
    simp [F2, this, hx]
  have hold2 : ∀ x, x < VB → K x → F2.blk x = F.blk x ∧ F2.base x = F.base x ∧ F2.slack x = F.slack x := fun x hx hk => by
    have : ¬ (h.next ≤ x ∧ x < h'.next) := fun hc => (hn x hc.1 hc.2).1 hk
    have h2 : ¬ VB ≤ x := by omega
    simp [F2, this, h2]
  have hnew2 : ∀ j n, ex[j]? = some n → F2.blk (h.next + j) = F1.blk n ∧ F2.base (h.next + j) = F1.base n ∧ F2.slack (h.next + j) = F1.slack n := fun j n hj => by
    have hj' := (List.getElem?_eq_some_iff.1 hj).1
    have : h.next ≤ h.next + j ∧ h.next + j < h'.next := by rw [B.next]; omega
    simp [F2, this, List.getD, hj]
  have hs1h : ∀ x, VB ≤ x → x < VB + X.cnt S → F1.blk x = F.blk x ∧ F1.base x = F.base x ∧ F1.slack x = F.slack x := fun x h1 h2 => by
    obtain ⟨e1, e2, e3⟩ := hs1 x (.inr ⟨h1, h2⟩)
    obtain ⟨a1, a2, a3⟩ := L.hand x h1
    simp only [Emb.comp, a1, a2, a3, Nat.add_zero, Nat.zero_add] at e1 e2 e3
    exact ⟨e1.symm, e2.symm, e3.symm⟩
  have hs : Same K F F2 := fun x hx => by
    by_cases hlt : x < VB
    · obtain ⟨a1, a2, a3⟩ := hold2 x hlt hx
      exact ⟨a1.symm, a2.symm, a3.symm⟩
    · obtain ⟨a1, a2, a3⟩ := hhand x (by omega)
      obtain ⟨b1, b2, b3⟩ := hs1h x (by omega) (I.klim x hx)
      exact ⟨(a1.trans b1).symm, (a2.trans b2).symm, (a3.trans b3).symm⟩
  -- what is lent
  have hlentK : ∀ n b, hc.get n = some b → K (E.blk n) ∧ E.blk n < VB := fun n b hb => by
    obtain ⟨b0, h0, _⟩ := L.row n b hb
    exact I.hk _ _ h0
  have hKK : ∀ x, K x → KAdd K h.next h'.next (X.cnt S) (X.cnt S') x := fun x hx => .inl hx
  have hD : ∀ G : Emb, Same (KAdd K h.next h'.next (X.cnt S) (X.cnt S')) F2 G → Same (fun n => (∃ b, hc.get n = some b) ∨ n ∈ ex ∨ (VB ≤ n ∧ n < VB + X.cnt S')) F1 (G.comp Q) := by
    intro G hG n hn'
    rcases hn' with ⟨b, hb⟩ | hn' | hn'
    · obtain ⟨q1, q2, q3⟩ := B.lent n (L.low n b hb)
      obtain ⟨k1, k2⟩ := hlentK n b hb
      obtain ⟨a1, a2, a3⟩ := hold2 _ k2 k1
      obtain ⟨g1, g2, g3⟩ := hG _ (hKK _ k1)
      obtain ⟨e1, e2, e3⟩ := hs1 n (.inl (L.low n b hb))
      simp only [Emb.comp, q1, q2, q3] at *
      exact ⟨by rw [← g1, a1, e1], by rw [← g2, a2, e2], by rw [← g3, a3, e3]⟩
    · obtain ⟨j, hj⟩ := List.mem_iff_getElem?.1 hn'
      obtain ⟨_, _, q1, q2, q3⟩ := B.more j n hj
      obtain ⟨a1, a2, a3⟩ := hnew2 j n hj
      have hj' := (List.getElem?_eq_some_iff.1 hj).1
      obtain ⟨g1, g2, g3⟩ := hG (h.next + j) (.inr (.inl ⟨by omega, by rw [B.next]; omega⟩))
      simp only [Emb.comp, q1, q2, q3, Nat.add_zero, Nat.zero_add]
      exact ⟨by rw [← g1, a1], by rw [← g2, a2], by rw [← g3, a3]⟩
    · obtain ⟨q1, q2, q3⟩ := B.hand n hn'.1
      obtain ⟨a1, a2, a3⟩ := hhand n hn'.1
      have hk : KAdd K h.next h'.next (X.cnt S) (X.cnt S') n := by
        by_cases hlt : n < VB + X.cnt S
        · exact .inl (I.hand n hn'.1 hlt)
        · exact .inr (.inr ⟨by omega, hn'.2⟩)
      obtain ⟨g1, g2, g3⟩ := hG n hk
      simp only [Emb.comp, q1, q2, q3, Nat.add_zero, Nat.zero_add]
      exact ⟨by rw [← g1, a1], by rw [← g2, a2], by rw [← g3, a3]⟩
  have hval : ∀ (G : Emb), Same (KAdd K h.next h'.next (X.cnt S) (X.cnt S')) F2 G → ∀ u, Clo (fun n => (∃ b, hc.get n = some b) ∨ n ∈ ex ∨ (VB ≤ n ∧ n < VB + X.cnt S')) u → ren G (ren Q u) = ren F1 u := fun G hG u hu => by
    rw [ren_comp]; exact (hu F1 (G.comp Q) (hD G hG)).symm
  have hstab : ∀ u, Clo (fun n => (∃ b, hc.get n = some b) ∨ n ∈ ex ∨ (VB ≤ n ∧ n < VB + X.cnt S')) u → Stab (KAdd K h.next h'.next (X.cnt S) (X.cnt S')) F2 (ren Q u) := fun u hu G hG =>
    (hval G hG u hu).trans (hval F2 (Same.refl _ _) u hu).symm
  have I2 := I.same hs
  have hMc : ∀ b, b < w0.heap.size → (X.fp F S b ∨ ∃ n b0, hc.get n = some b0 ∧ b0.ro = false ∧ (F.comp E).blk n = b) → M b := fun b hb hm => by
    rcases hm with hm | ⟨n, b0, h0, hr, rfl⟩
    · exact I.fown b hm hb
    · obtain ⟨b1, e1, _, h2 | h2⟩ := L.row n b0 h0
      · exact I.own _ _ e1 (h2.2.2.2.2 hr) hb
      · rw [h2.1] at hr; cases hr
  have hrep2 := X.rep_same F1 F2 S' w' (fun n hn' => by obtain ⟨a1, a2, a3⟩ := hhand n hn'.1; exact ⟨a1.symm, a2.symm, a3.symm⟩) I1.rep
  -- where each row comes from
  have hsrc : ∀ m b, h'.get m = some b → ((m < h.next ∨ h'.next ≤ m) ∧ h.get m = some b ∧ ¬ (X.fp F S (F.blk m) ∨ ∃ n b0, hc.get n = some b0 ∧ b0.ro = false ∧ (F.comp E).blk n = F.blk m)) ∨
      ∃ n b1, h1.get n = some b1 ∧ ((∃ b0, hc.get n = some b0 ∧ b0.ro = false) ∨ n ∈ ex) ∧ b = { b1 with cells := b1.cells.map (ren Q) } ∧ F2.blk m = F1.blk n ∧ F2.base m = F1.base n ∧ F2.slack m = F1.slack n ∧ KAdd K h.next h'.next (X.cnt S) (X.cnt S') m ∧ m < VB ∧ ((E.blk n = m ∧ n < hc.next) ∨ ∃ j, ex[j]? = some n ∧ m = h.next + j) := by
    intro m b hb
    by_cases hlt : m < h.next ∨ h'.next ≤ m
    · rcases B.old m hlt with ⟨h2, h3⟩ | ⟨n, b0, h2, h3, h4, h5⟩
      · refine .inl ⟨hlt, by rw [← h2]; exact hb, ?_⟩
        rw [h2] at hb
        rintro (h4 | ⟨n, b0, h4, h5, h6⟩)
        · exact I.sep m b hb h4
        · obtain ⟨b1, e1, _, h7 | h7⟩ := L.row n b0 h4
          · exact I.holds.apart _ _ b1 b e1 hb (h3 n b0 h4 h5) (h7.2.2.2.2 h5) h6
          · rw [h7.1] at h5; cases h5
      · rw [h5] at hb
        cases h6 : h1.get n with
        | none => rw [h6] at hb; cases hb
        | some b1 =>
          rw [h6] at hb
          cases hb
          obtain ⟨k1, k2⟩ := hlentK n b0 h2
          obtain ⟨a1, a2, a3⟩ := hold2 _ k2 k1
          obtain ⟨e1, e2, e3⟩ := hs1 n (.inl (L.low n b0 h2))
          obtain ⟨b2, g1, _, g2 | g2⟩ := L.row n b0 h2
          · rw [← h4]
            refine .inr ⟨n, b1, h6, .inl ⟨b0, h2, h3⟩, rfl, ?_, ?_, ?_, hKK _ k1, k2, .inl ⟨rfl, L.low n b0 h2⟩⟩
            · rw [a1, ← e1]; rfl
            · rw [a2, ← e2]; simp [Emb.comp, g2.2.1]
            · rw [a3, ← e3]; simp [Emb.comp, g2.2.2.1]
          · rw [g2.1] at h3; cases h3
    · rw [not_or] at hlt
      have hm := Nat.lt_of_not_le hlt.2
      rw [B.next] at hm
      obtain ⟨j, rfl⟩ := Nat.exists_eq_add_of_le (Nat.le_of_not_lt hlt.1)
      have hj : ex[j]? = some ex[j] := List.getElem?_eq_getElem (by omega)
      have h2 := B.fresh j _ hj
      rw [h2] at hb
      cases h6 : h1.get ex[j] with
      | none => rw [h6] at hb; cases hb
      | some b1 =>
        rw [h6] at hb
        cases hb
        obtain ⟨a1, a2, a3⟩ := hnew2 j _ hj
        have hx := hn (h.next + j) (by omega) (by rw [B.next]; omega)
        exact .inr ⟨_, b1, h6, .inr (List.mem_of_getElem? hj), rfl, a1, a2, a3, .inr (.inl ⟨by omega, by rw [B.next]; omega⟩), hx.2, .inr ⟨j, hj, rfl⟩⟩
  have hlow : ∀ m b, h.get m = some b → F.blk m < w.heap.size := fun m b hb => I.holds.blk_lt hb
  refine ⟨_, rfl, F2, ?_, hs, ⟨?_, ?_⟩, hrep2.1, ?_, ?_, ?_, ?_, ?_, I.kept.trans I1.kept hMc, ?_, ?_, ?_⟩
  · rw [B.told]
    exact (hval F2 (Same.refl _ _) v0 B.clo).symm
  · intro m b hb
    rcases hsrc m b hb with ⟨hlt, hm, hno⟩ | ⟨n, b1, hn1, hor, rfl, e1, e2, e3, _⟩
    · obtain ⟨pre, post, fr, r1, r2⟩ := I2.holds.row m b hm
      refine ⟨pre, post, fr, ?_, r2⟩
      have hb2 : F2.blk m = F.blk m := (hs m (I.hk m b hm).1).1.symm
      rw [hb2] at r1 ⊢
      rw [I1.kept.block _ (hlow m b hm) hno]
      exact r1
    · obtain ⟨pre, post, fr, r1, r2, r3, r4, r5⟩ := I1.holds.row n b1 hn1
      refine ⟨pre, post, fr, ?_, by rw [e2]; exact r2, r3, fun h => by rw [e3]; exact r4 h, fun s h => by rw [e3]; exact r5 s h⟩
      rw [e1, r1, List.map_map]
      congr 5
      exact List.map_congr_left fun u hu => (hval F2 (Same.refl _ _) u (B.rows n b1 hn1 hor u hu)).symm
  · intro m k b d hb hd hmk hr
    rcases hsrc m b hb with ⟨hlt, hm, hno⟩ | ⟨n, b1, hn1, hor, rfl, e1, _, _, _, _, ho1⟩ <;> rcases hsrc k d hd with ⟨hlt', hk, hno'⟩ | ⟨n', b1', hn1', hor', rfl, e1', _, _, _, _, ho1'⟩
    · exact I2.holds.apart m k b d hm hk hmk hr
    · have hb2 : F2.blk m = F.blk m := (hs m (I.hk m b hm).1).1.symm
      rw [hb2, e1']
      intro he
      exact hno (by rw [he]; exact I1.own n' b1' hn1' (B.own n' b1' hn1' hor') (by rw [← he]; exact hlow m b hm))
    · have hb2 : F2.blk k = F.blk k := (hs k (I.hk k d hk).1).1.symm
      rw [hb2, e1]
      intro he
      exact hno' (by rw [← he]; exact I1.own n b1 hn1 (B.own n b1 hn1 hor) (by rw [he]; exact hlow k d hk))
    · rw [e1, e1']
      refine I1.holds.apart n n' b1 b1' hn1 hn1' (fun he => hmk ?_) hr
      subst he
      rcases ho1 with ⟨h2, h3⟩ | ⟨j, h1, h2⟩ <;> rcases ho1' with ⟨h2', h3'⟩ | ⟨j', h1', h2'⟩
      · rw [← h2, ← h2']
      · have := (B.more j' n h1').1; omega
      · have := (B.more j n h1).1; omega
      · have : j = j' := (List.getElem?_inj (List.getElem?_eq_some_iff.1 h1).1 B.nodup).1 (h1.trans h1'.symm)
        rw [h2, h2', this]
  · rintro _ rfl
    rw [B.told]
    exact hstab v0 B.clo
  · intro m b hb u hu
    rcases hsrc m b hb with ⟨hlt, hm, hno⟩ | ⟨n, b1, hn1, hor, rfl, _⟩
    · exact (I2.hst m b hm u hu).move (Same.refl _ _) hKK
    · obtain ⟨y, hy, rfl⟩ := List.mem_map.1 hu
      exact hstab y (B.rows n b1 hn1 hor y hy)
  · intro m b hb
    rcases hsrc m b hb with ⟨hlt, hm, hno⟩ | ⟨n, b1, hn1, hor, rfl, _, _, _, h4, h5, _⟩
    · exact ⟨hKK _ (I.hk m b hm).1, (I.hk m b hm).2⟩
    · exact ⟨h4, h5⟩
  · intro x h1 h2
    by_cases hlt : x < VB + X.cnt S
    · exact .inl (I.hand x h1 hlt)
    · exact .inr (.inr ⟨by omega, h2⟩)
  · intro x hx
    rcases hx with hx | hx | hx
    · have := I.klim x hx; omega
    · have := (hn x hx.1 hx.2).2; omega
    · omega
  · intro m b hb hr hx
    rcases hsrc m b hb with ⟨hlt, hm, hno⟩ | ⟨n, b1, hn1, hor, rfl, e1, _⟩
    · exact I2.own m b hm hr hx
    · rw [e1] at hx ⊢
      exact hMc _ hx (I1.own n b1 hn1 hr (Nat.lt_of_lt_of_le hx I.kept.size))
  · intro b hb hx
    exact hMc _ hx (I1.fown b (hrep2.2 b hb) (Nat.lt_of_lt_of_le hx I.kept.size))
  · intro m b hb hx
    have hx := hrep2.2 _ hx
    rcases hsrc m b hb with ⟨hlt, hm, hno⟩ | ⟨n, b1, hn1, hor, rfl, e1, _⟩
    · have hb2 : F2.blk m = F.blk m := (hs m (I.hk m b hm).1).1.symm
      rw [hb2] at hx
      exact hno (I1.fown _ hx (hlow m b hm))
    · rw [e1] at hx
      exact I1.sep n b1 hn1 hx

theorem Simul.step {fn : Func} {A : Conf σ → Prop} {c c1 : Conf σ} (hk : Simul X fn A c1)
    (h : ∀ (b : Frame) (cs : List Frame) (F : Emb) (w0 w : World) (M : Nat → Prop) (m : Machine), P.funcs[b.fn]? = some fn → b.kind = .normal → Stands P F b cs c w m → InvC X F w0 M c w →
      ∃ F' w' m', Steps P m m' ∧ Stands P F' b cs c1 w' m' ∧ InvC X F' w0 M c1 w' ∧ Same (Kn (heap c).next (X.cnt (st c))) F F' ∧ X.cnt (st c) ≤ X.cnt (st c1) ∧ (heap c).next ≤ (heap c1).next) : Simul X fn A c := by
  intro b cs F w0 w M m hb hkd hS hI
  obtain ⟨F1, w1, m1, s1, S1, I1, e1, n1, l1⟩ := h b cs F w0 w M m hb hkd hS hI
  obtain ⟨c', F', w', m', hA, s2, S2, I2, e2, n2, l2⟩ := hk b cs F1 w0 w1 M m1 hb hkd S1 I1
  exact ⟨c', F', w', m', hA, s1.trans s2, S2, I2, e1.trans (e2.mono (kn_le l1 n1)), Nat.le_trans n1 n2, Nat.le_trans l1 l2⟩

end
end Go.Proofs.Ytceddijolfpppaa
