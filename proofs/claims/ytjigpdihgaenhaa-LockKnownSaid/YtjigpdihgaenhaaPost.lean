/-
  The last step of a law that leaves the old world as it was (Ext with nothing named): the row's after-condition.
  No condition.
-/
import Derived.Test.YtjigpdihgaenhaaBase
import Derived.ProofKit
import Derived.Below
import Derived.ChangeSame
import Derived.OpenShut
namespace Go.Proofs.Ytjigpdihgaenhaa
open Go.RowKit Go.WideShapes Go.ChangeShapes

section
variable {H : Type} {enc : TypeId × Value → H} {P : Program}

theorem post_ext {f : Func} {s : ChangeSpec} {apart fresh handsOn again : Bool} {W W' : World} {args : Array Value} {v : Value} {ds gs : List (DataW H)} {before pa pv : List MemPlace}
    (hx : Ext [] W W') (hW : DataW.Whole enc P f.params.toList s.vars apart W args.toList ds gs before)
    (hr : ∀ (b : Nat) (sp : Nat → Bool) (hd : Bool), DataW.TrodAll enc P W' b sp hd f.resultTypes.toList (v.resultList f.resultTypes.size) (s.fn H (ds ++ gs)).results [])
    (ha : ∀ sp : Nat → Bool, (∀ p ∈ before, sp p.block = true) → DataW.TrodAll enc P W' 0 sp true f.params.toList args.toList (s.fn H (ds ++ gs)).args pa)
    (hg : ∀ sp : Nat → Bool, (∀ p ∈ before, sp p.block = true) → DataW.TrodVars enc P W' sp s.vars (s.fn H (ds ++ gs)).vars pv)
    (hp : before = pa ++ pv)
    (ho : ∀ (j : Nat) (t : TypeId) (r : Value), f.resultTypes[j]? = some t → (v.resultList f.resultTypes.size)[j]? = some r → Value.okWide P W' .any 0 t r) :
    s.post enc P f apart fresh handsOn again W args v W' := by
  subst hp
  have hb := hx.below
  have lt := fun p hq => hW.lt p hq
  have at' : ∀ p ∈ pa ++ pv, (fun b => decide (b < W.heap.size)) p.block = true := fun p hq => by simpa using lt p hq
  have all' : ∀ p ∈ pa ++ pv, (fun _ : Nat => true) p.block = true := fun _ _ => rfl
  obtain ⟨_, _, _, _, _, fz, nd⟩ := id hW
  refine ⟨ds, gs, pa ++ pv, [], pa, pv, hW, hr _ _ _, ha _ at', hg _ at', World.keptBut_mono (fun p hq => ⟨hq, List.mem_append.mp hq |>.symm |> fun h => by simpa using h.symm⟩) (hb.frame (· ∈ pa ++ pv)), fun _ => ⟨ho, _, _, ([] ++ pa) ++ pv, ⟨[] ++ pa, pv, trodAll_append (ha _ all') (hr _ _ _), hg _ all', rfl, fun b off hq => ?_, fun h => by simpa using nd h⟩, fun p hq _ => by simpa using hq⟩⟩
  have hin : MemPlace.cell b off ∈ pa ++ pv := by simpa using hq
  rw [hb.frozen (lt _ hin)]
  exact fz b off hin
end
end Go.Proofs.Ytjigpdihgaenhaa
