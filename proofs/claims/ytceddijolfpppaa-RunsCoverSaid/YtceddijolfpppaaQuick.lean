/-
  The abstract machine's steps, by what an operation's guard says.
  No condition: laws.
-/
import Derived.Test.YtceddijolfpppaaGap
namespace Go.Proofs.Ytceddijolfpppaa
open Go Go.RowKit
set_option linter.unusedSimpArgs false
set_option linter.unusedVariables false

theorem wanted_n {o : Oper} {y : Nat → Option Bool} (hg : o.guard = none) : Region.wanted o y = true := by
  unfold Region.wanted; rw [hg]
theorem wanted_g {o : Oper} {ops : Array Oper} {tmps : List Value} {j d : Nat} {b b' : Bool} (hg : o.guard = some (j, b)) (hd : (ops[j]?).bind (·.dst) = some d) (hv : tmps[d]? = some (.bool b')) : Region.wanted o (yieldedL ops tmps) = (b' == b) := by
  unfold Region.wanted yieldedL
  rw [hg]
  simp only [hd, Option.bind_some, hv]
  cases b <;> cases b' <;> rfl

theorem wanted_u {o : Oper} {ops : Array Oper} {tmps : List Value} {j d : Nat} {b : Bool} (hg : o.guard = some (j, b)) (hd : (ops[j]?).bind (·.dst) = some d) (hv : tmps[d]? = some undef) : Region.wanted o (yieldedL ops tmps) = false := by
  unfold Region.wanted yieldedL
  rw [hg]
  simp only [hd, Option.bind_some, hv]
  cases b <;> rfl

section
variable {P : Program} {σ : Type} {X : Face P σ} {fn : Func} {A : Conf σ → Prop} {ops : Array Oper} {k : List Item} {i : Nat} {tmps : List Value} {h : AHeap} {S : σ} {o : Oper} {j d : Nat} {b b' : Bool}
theorem AtL.valn (ho : ops.toList[i]? = some o) (hg : o.guard = none) (hb : opOK o.op = true)
    (hk : ∀ K : List Value → AHeap → Prop, (∀ t h, At X fn A ops k (i + 1) t h S → K t h) → OpK K o tmps h (valA P (evA tmps) h o.op)) : At X fn A ops k i tmps h S := AtL.val ho (wanted_n hg) hb hk
theorem AtL.valg (ho : ops.toList[i]? = some o) (hg : o.guard = some (j, b)) (hd : (ops[j]?).bind (·.dst) = some d) (hv : tmps[d]? = some (.bool b')) (hw : (b' == b) = true) (hb : opOK o.op = true)
    (hk : ∀ K : List Value → AHeap → Prop, (∀ t h, At X fn A ops k (i + 1) t h S → K t h) → OpK K o tmps h (valA P (evA tmps) h o.op)) : At X fn A ops k i tmps h S := AtL.val ho ((wanted_g hg hd hv).trans hw) hb hk
theorem AtL.skipg (ho : ops.toList[i]? = some o) (hg : o.guard = some (j, b)) (hd : (ops[j]?).bind (·.dst) = some d) (hv : tmps[d]? = some (.bool b')) (hw : (b' == b) = false) (hk : At X fn A ops k (i + 1) (putL o.dst undef tmps) h S) : At X fn A ops k i tmps h S := AtL.skip ho ((wanted_g hg hd hv).trans hw) hk
theorem AtL.skipu (ho : ops.toList[i]? = some o) (hg : o.guard = some (j, b)) (hd : (ops[j]?).bind (·.dst) = some d) (hv : tmps[d]? = some undef) (hk : At X fn A ops k (i + 1) (putL o.dst undef tmps) h S) : At X fn A ops k i tmps h S := AtL.skip ho (wanted_u hg hd hv) hk
theorem AtL.newn (ho : ops.toList[i]? = some o) (hg : o.guard = none) (hb : opOK o.op = true) (hl : h.next < VB)
    (hk : ∀ K : List Value → AHeap → Prop, (∀ t h, At X fn A ops k (i + 1) t h S → K t h) → NewK K o tmps h (newA P (evA tmps) h h.next o.op)) : At X fn A ops k i tmps h S := AtL.new ho (wanted_n hg) hb hl hk
theorem AtL.storen (ho : ops.toList[i]? = some o) (hg : o.guard = none) (hb : opOK o.op = true)
    (hk : ∀ K : List Value → AHeap → Prop, (∀ t h, At X fn A ops k (i + 1) t h S → K t h) → StoreK K o tmps (storeOp P (evA tmps) h o.op)) : At X fn A ops k i tmps h S := AtL.store ho (wanted_n hg) hb hk
variable {W : List Nat} {n0 : Nat} {hf : AHeap} {Kf : List Value → AHeap → σ → Prop} {born : List (Nat × Nat)}
theorem RGL.valn (hl : h.Low) (ho : ops.toList[i]? = some o) (hg : o.guard = none) (hb : opOK o.op = true) (hq : wrB W i o = false)
    (hk : ∀ K : List Value → AHeap → Prop, (∀ t h, RGF X W ops n0 hf Kf (i + 1) t h S born → K t h) → OpK K o tmps h (valA P (evA tmps) (lowH n0 h) o.op)) (hnf : farB W i = false := by rfl) : RGF X W ops n0 hf Kf i tmps h S born := RGL.val hl ho (wanted_n hg) hb hq hk hnf
theorem RGL.valg (hl : h.Low) (ho : ops.toList[i]? = some o) (hg : o.guard = some (j, b)) (hd : (ops[j]?).bind (·.dst) = some d) (hv : tmps[d]? = some (.bool b')) (hw : (b' == b) = true) (hb : opOK o.op = true) (hq : wrB W i o = false)
    (hk : ∀ K : List Value → AHeap → Prop, (∀ t h, RGF X W ops n0 hf Kf (i + 1) t h S born → K t h) → OpK K o tmps h (valA P (evA tmps) (lowH n0 h) o.op)) (hnf : farB W i = false := by rfl) : RGF X W ops n0 hf Kf i tmps h S born := RGL.val hl ho ((wanted_g hg hd hv).trans hw) hb hq hk hnf
theorem RGL.skipg (ho : ops.toList[i]? = some o) (hg : o.guard = some (j, b)) (hd : (ops[j]?).bind (·.dst) = some d) (hv : tmps[d]? = some (.bool b')) (hw : (b' == b) = false) (hk : RGF X W ops n0 hf Kf (i + 1) (putL o.dst undef tmps) h S born) : RGF X W ops n0 hf Kf i tmps h S born := RGL.skip ho ((wanted_g hg hd hv).trans hw) hk
theorem RGL.skipu (ho : ops.toList[i]? = some o) (hg : o.guard = some (j, b)) (hd : (ops[j]?).bind (·.dst) = some d) (hv : tmps[d]? = some undef) (hk : RGF X W ops n0 hf Kf (i + 1) (putL o.dst undef tmps) h S born) : RGF X W ops n0 hf Kf i tmps h S born := RGL.skip ho (wanted_u hg hd hv) hk
theorem RGL.newn (hl : h.Low) (ho : ops.toList[i]? = some o) (hg : o.guard = none) (hb : opOK o.op = true) (hq : wrB W i o = false) (hn : h.next < VB) (hne : noEnd o.op = true)
    (hk : ∀ K : List Value → AHeap → Prop, (∀ t h', RGF X W ops n0 hf Kf (i + 1) t h' S ((i, h.next) :: born) → K t h') → NewK K o tmps h (newA P (evA tmps) (lowH n0 h) h.next o.op)) (hnf : farB W i = false := by rfl) : RGF X W ops n0 hf Kf i tmps h S born := RGL.new hl ho (wanted_n hg) hb hq hn hne hk hnf
theorem RGL.storen (ho : ops.toList[i]? = some o) (hg : o.guard = none) (hb : opOK o.op = true)
    (hk : ∀ K : List Value → AHeap → Prop, (∀ t h, RG X W ops n0 Kf (i + 1) t h S born → K t h) → StoreK K o tmps (storeOp P (evA tmps) h o.op)) (hnf : farB W i = false := by rfl) : RG X W ops n0 Kf i tmps h S born := RGL.store ho (wanted_n hg) hb hk hnf
end

/-! ### the same, short: what always holds is asked by itself -/
theorem sz : (∀ l : List (Option Blk), (heapL l).next = l.length) ∧ (∀ (l : List (Option Blk)) (q : Nat) (l2 : List (Option Blk)), (heapJ l q l2).next = q + l2.length) ∧ (∀ (a : Option Blk) (l : List (Option Blk)), (a :: l).length = l.length + 1) ∧ ([] : List (Option Blk)).length = 0 ∧
    (∀ l l2 : List (Option Blk), (l ++ l2).length = l.length + l2.length) ∧ (∀ (a : Value) (l : List Value), (a :: l).length = l.length + 1) ∧ ([] : List Value).length = 0 ∧ (∀ l : List Value, l.toArray.size = l.length) ∧ (∀ N T : Nat, (geoC N T).toList.length = 22) :=
  ⟨heapL_next, gap_next, fun _ _ => rfl, rfl, fun _ _ => List.length_append, fun _ _ => rfl, rfl, fun _ => List.size_toArray, geo_len⟩

def vB : Op → Bool
  | .alloc _ | .box _ _ | .buildSlice _ _ _ | .makeSlice _ _ _ | .store _ _ _ => false
  | .call c => (match c.callee with | .builtin .append => false | .builtin _ => true | _ => false)
  | _ => true
def nB : Op → Bool
  | .alloc _ | .box _ _ | .buildSlice _ _ _ | .makeSlice _ _ _ => true
  | .call c => (match c.callee with | .builtin .append => true | _ => false)
  | _ => false
def tB : Op → Bool
  | .store _ _ _ => true
  | _ => false
section
variable {P : Program} {σ : Type} {X : Face P σ} {fn : Func} {A : Conf σ → Prop} {ops : Array Oper} {k : List Item} {i : Nat} {tmps : List Value} {h : AHeap} {S : σ} {o : Oper} {j d : Nat} {b b' : Bool}
theorem qv1 (ho : ops.toList[i]? = some o) (hg : o.guard = none) (_ : vB o.op = true) (hk : ∀ K : List Value → AHeap → Prop, (∀ t h, At X fn A ops k (i + 1) t h S → K t h) → OpK K o tmps h (valA P (evA tmps) h o.op)) (hb : opOK o.op = true := by rfl) : At X fn A ops k i tmps h S := AtL.valn ho hg hb hk
theorem qv2 (ho : ops.toList[i]? = some o) (hg : o.guard = some (j, b)) (hd : (ops[j]?).bind (·.dst) = some d) (hv : tmps[d]? = some (.bool b')) (hw : (b' == b) = true) (_ : vB o.op = true)
    (hk : ∀ K : List Value → AHeap → Prop, (∀ t h, At X fn A ops k (i + 1) t h S → K t h) → OpK K o tmps h (valA P (evA tmps) h o.op)) (hb : opOK o.op = true := by rfl) : At X fn A ops k i tmps h S := AtL.valg ho hg hd hv hw hb hk
theorem qn1 (ho : ops.toList[i]? = some o) (hg : o.guard = none) (_ : nB o.op = true)
    (hk : ∀ K : List Value → AHeap → Prop, (∀ t h, At X fn A ops k (i + 1) t h S → K t h) → NewK K o tmps h (newA P (evA tmps) h h.next o.op)) (hb : opOK o.op = true := by rfl) (hl : h.next < VB := by first | exact heapL_lim rfl | (exact gap_lim (by simp only [sz]; omega))) : At X fn A ops k i tmps h S := AtL.newn ho hg hb hl hk
theorem qt1 (ho : ops.toList[i]? = some o) (hg : o.guard = none) (_ : tB o.op = true)
    (hk : ∀ K : List Value → AHeap → Prop, (∀ t h, At X fn A ops k (i + 1) t h S → K t h) → StoreK K o tmps (storeOp P (evA tmps) h o.op)) (hb : opOK o.op = true := by rfl) : At X fn A ops k i tmps h S := AtL.storen ho hg hb hk
theorem qp1 (ho : ops.toList[i]? = some o) (hw : Region.wanted o (yieldedL ops tmps) = true)
    (hk : ∀ K : List Value → σ → Prop, (∀ t S', At X fn A ops k (i + 1) t h S' → K t S') → CallK (fun f args => fnOK P f = true ∧ ∃ v S', X.prim f args S v S' ∧ K (putL o.dst v tmps) S') (callA P (evA tmps) o.op)) (hb : opOK o.op = true := by rfl) : At X fn A ops k i tmps h S := At.prim2 ho hw hb hk
theorem qc1 (ho : ops.toList[i]? = some o) (hw : Region.wanted o (yieldedL ops tmps) = true)
    (hk : ∀ K : List Value → σ → Prop, (∀ t S', At X fn A ops k (i + 1) t h S' → K t S') → CallK (fun f args => ∃ v S', Does X f args [] S v S' ∧ K (putL o.dst v tmps) S') (callA P (evA tmps) o.op)) (hb : opOK o.op = true := by rfl) : At X fn A ops k i tmps h S := At.call2 ho hw hb hk
variable {W : List Nat} {n0 : Nat} {hf : AHeap} {Kf : List Value → AHeap → σ → Prop} {born : List (Nat × Nat)}
theorem qv3 (ho : ops.toList[i]? = some o) (hg : o.guard = none) (_ : vB o.op = true) (hk : ∀ K : List Value → AHeap → Prop, (∀ t h, RGF X W ops n0 hf Kf (i + 1) t h S born → K t h) → OpK K o tmps h (valA P (evA tmps) (lowH n0 h) o.op))
    (hb : opOK o.op = true := by rfl) (hq : wrB W i o = false := by rfl) (hl : h.Low := by first | exact heapL_low _ | exact gap_low _ _ _) (hnf : farB W i = false := by rfl) : RGF X W ops n0 hf Kf i tmps h S born := RGL.valn hl ho hg hb hq hk hnf
theorem qv4 (ho : ops.toList[i]? = some o) (hg : o.guard = some (j, b)) (hd : (ops[j]?).bind (·.dst) = some d) (hv : tmps[d]? = some (.bool b')) (hw : (b' == b) = true) (_ : vB o.op = true)
    (hk : ∀ K : List Value → AHeap → Prop, (∀ t h, RGF X W ops n0 hf Kf (i + 1) t h S born → K t h) → OpK K o tmps h (valA P (evA tmps) (lowH n0 h) o.op))
    (hb : opOK o.op = true := by rfl) (hq : wrB W i o = false := by rfl) (hl : h.Low := by first | exact heapL_low _ | exact gap_low _ _ _) (hnf : farB W i = false := by rfl) : RGF X W ops n0 hf Kf i tmps h S born := RGL.valg hl ho hg hd hv hw hb hq hk hnf
theorem qn3 (ho : ops.toList[i]? = some o) (hg : o.guard = none) (_ : nB o.op = true)
    (hk : ∀ K : List Value → AHeap → Prop, (∀ t h', RGF X W ops n0 hf Kf (i + 1) t h' S ((i, h.next) :: born) → K t h') → NewK K o tmps h (newA P (evA tmps) (lowH n0 h) h.next o.op))
    (hb : opOK o.op = true := by rfl) (hq : wrB W i o = false := by rfl) (hl : h.Low := by first | exact heapL_low _ | exact gap_low _ _ _) (hn : h.next < VB := by first | exact heapL_lim rfl | (exact gap_lim (by simp only [sz]; omega))) (hne : noEnd o.op = true := by rfl) (hnf : farB W i = false := by rfl) : RGF X W ops n0 hf Kf i tmps h S born := RGL.newn hl ho hg hb hq hn hne hk hnf
theorem qt3 (ho : ops.toList[i]? = some o) (hg : o.guard = none) (_ : tB o.op = true)
    (hk : ∀ K : List Value → AHeap → Prop, (∀ t h, RG X W ops n0 Kf (i + 1) t h S born → K t h) → StoreK K o tmps (storeOp P (evA tmps) h o.op)) (hb : opOK o.op = true := by rfl) (hnf : farB W i = false := by rfl) : RG X W ops n0 Kf i tmps h S born := RGL.storen ho hg hb hk hnf
theorem qp3 (ho : ops.toList[i]? = some o) (hw : Region.wanted o (yieldedL ops tmps) = true)
    (hk : ∀ K : List Value → σ → Prop, (∀ t S', RGF X W ops n0 hf Kf (i + 1) t h S' born → K t S') → CallK (fun f args => fnOK P f = true ∧ ∃ v S', X.prim f args S v S' ∧ K (putL o.dst v tmps) S') (callA P (evA tmps) o.op))
    (hb : opOK o.op = true := by rfl) (hq : wrB W i o = false := by rfl) (hl : h.Low := by first | exact heapL_low _ | exact gap_low _ _ _) (hnf : farB W i = false := by rfl) : RGF X W ops n0 hf Kf i tmps h S born := RG.prim2 hl ho hw hb hq hk hnf
theorem qc3 (ho : ops.toList[i]? = some o) (hw : Region.wanted o (yieldedL ops tmps) = true)
    (hk : ∀ K : List Value → σ → Prop, (∀ t S', RGF X W ops n0 hf Kf (i + 1) t h S' born → K t S') → CallK (fun f args => ∃ v S', Does X f args [] S v S' ∧ K (putL o.dst v tmps) S') (callA P (evA tmps) o.op))
    (hb : opOK o.op = true := by rfl) (hq : wrB W i o = false := by rfl) (hl : h.Low := by first | exact heapL_low _ | exact gap_low _ _ _) (hnf : farB W i = false := by rfl) : RGF X W ops n0 hf Kf i tmps h S born := RG.call2 hl ho hw hb hq hk hnf
end
theorem qpu {f : FuncId} {args : Array Value} {v : Value} {S : St} (h : ∀ w, Calls Try.prog f args w (Ret v (Ext [] w))) (ha : args.all plainB = true := by first | rfl | (simp [plainB]; done) | simp [plainB, geoC]) (hv : plainB v = true := by first | rfl | (simp [plainB]; done) | simp [plainB, geoC]) : Prim f args S v S := .pure h ha hv
end Go.Proofs.Ytceddijolfpppaa
