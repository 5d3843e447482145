/-
  Layer 10 over the abstract machine: contracts of package runs.
  Conditions: those of each contract.
-/
import Derived.Test.YtceddijolfpppaaRunsL
import Derived.Test.YtceddijolfpppaaRun5
import Derived.Test.YtceddijolfpppaaWord2
import Derived.Test.YtceddijolfpppaaLaw
namespace Go.Proofs.Ytceddijolfpppaa
open Go Go.RowKit
set_option linter.unusedSimpArgs false
set_option linter.unusedVariables false

/-! ### a function of one number, carried out for each -/
def retI {P : Program} {σ : Type} {X : Face P σ} {κ : Type} (K : KF P X κ) (s : κ) (f : FuncId) (x : Nat) (y : Nat) (n : Nat) : Bool := match P.funcs[f]? with
  | some g => (match goB g, g.body with
    | true, some c => (match Nat.ble 1 g.ntmps && Nat.ble g.ntmps 4000000, goK K n g [.code c] (frameF (depN g.ntmps) g.ntmps [.int .i64 (.ofNat x)] 0 (manyT undef (depN g.ntmps))) [] s with
      | true, some (.int .i64 (.ofNat m), _, _) => Nat.beq m y
      | _, _ => false)
    | _, _ => false)
  | none => false
theorem retI_ok {f : FuncId} {x y n : Nat} (h : retI OK [] f x y n = true) (w : World) : Calls Try.prog f #[.int .i64 (x : Int)] w (Ret (.int .i64 (y : Int)) (Ext [] w)) := by
  unfold retI at h
  split at h
  · rename_i g hf
    split at h
    · rename_i c hg hb
      split at h
      · rename_i m rows s' hn hgo
        have hm := Nat.eq_of_beq_eq_true h
        subst hm
        simp only [Bool.and_eq_true] at hn
        have h1 := Nat.le_of_ble_eq_true hn.1
        have h2 := depN_le (Nat.le_of_ble_eq_true hn.2)
        obtain ⟨_, G⟩ := goK_ok OK n _ _ _ _ _ _ _ _ h2 (fun ob hob => by cases hob) hgo
        have f2 := frameF_ok h2 [.int .i64 (.ofNat x)] 0 (manyT undef (depN g.ntmps)) (by simpa using h1)
        rw [f2, absT_many undef h2] at G
        simp only [List.take_zero, List.nil_append, Nat.zero_add, List.drop_replicate] at G
        have I : AInv OF ⟨fun _ => 0, fun _ => 0, fun _ => 0⟩ w (fun _ => False) (Kn (heapL []).next (OF.cnt ([] : St))) (fun u => u ∈ (enterL g c #[.int .i64 (x : Int)]).2) (heapL []) ([] : St) w := by
          refine ⟨⟨fun n b hb => ?_, fun n m b _ hb _ _ hro => ?_⟩, ⟨fun k ob h => by simp at h, fun k ob h => by simp at h, fun k k' ob ob' _ h => by simp at h⟩, fun u hu => ?_, fun n b hb v hv => ?_, fun n b hb => ?_, fun n h1 h2 => ?_, fun n hn => ?_, Kept.refl _ _, fun n b hb hro _ => ?_, fun b hb _ => ?_, fun n b _ hf => ?_⟩
          · rw [heapL_get] at hb; simp at hb
          · rw [heapL_get] at hb; simp at hb
          · unfold enterL at hu
            rcases List.mem_append.1 hu with hu | hu
            · simp only [List.mem_cons, List.not_mem_nil, or_false] at hu
              subst hu
              exact Stab.plain rfl
            · rw [List.eq_of_mem_replicate hu]
              exact Stab.plain (by simp [undef, plainB])
          · rw [heapL_get] at hb; simp at hb
          · rw [heapL_get] at hb; simp at hb
          · have h2 : n < VB + 0 := h2
            omega
          · rcases hn with hn | ⟨hn, hn'⟩
            · rw [heapL_next] at hn
              simp at hn
            · exact hn'
          · rw [heapL_get] at hb; simp at hb
          · obtain ⟨k, ob, hk, _⟩ := hb
            simp at hk
          · obtain ⟨k, ob, hk, _⟩ := hf
            simp at hk
        have e1 : ((#[.int .i64 (x : Int)] : Array Value)).map (ren ⟨fun _ => 0, fun _ => 0, fun _ => 0⟩) = #[.int .i64 (x : Int)] := by simp
        have hG := G.simul
        rw [← e1]
        refine (calls_of_simul hf hb hG I (by rw [heapL_next]; unfold VB; simp)).mono ?_
        rintro e w' ⟨F', rfl, I', _⟩
        exact ⟨by simp, I'.kept.os, I'.kept.tape, I'.kept.output, I'.kept.size, fun b hb _ => I'.kept.block b hb (fun h => h)⟩
      · cases h
    · cases h
  · cases h

/-- A contract that tells of what comes. -/
theorem Does.ex {f : FuncId} {g : Func} {c : Code} {args : Array Value} {l : List Blk} {S : St} {Q : Value → St → Prop} (hf : Try.prog.funcs[f]? = some g) (hg : goB g = true) (hb : g.body = some c) (hclo : ∀ u ∈ args.toList, Clo (Kn l.length (OF.cnt S)) u) (hv : ∀ v S', Q v S' → Hand (OF.cnt S') v)
    (hrun : Goes OF g (fun x => ∃ h1 v S', Q v S' ∧ x = .done v h1 S') (.run [.code c] (args.toList ++ List.replicate (g.ntmps - args.size) undef) (heapL (l.map some)) S)) : ∃ v S', Q v S' ∧ Does OF f args l S v S' := by
  obtain ⟨c', ⟨h1, v, S', hq, rfl⟩, G⟩ := hrun.out
  exact ⟨v, S', hq, g, c, h1, hf, hg, hb, hclo, hv v S' hq, G⟩
theorem Goes.finE {fn : Func} {todo : List Item} {tmps : List Value} {h : AHeap} {S : St} {Q : Value → St → Prop} {v : Value} (ht : retB todo = true) (hv : resA Try.prog fn tmps h = some v) (hS : Q v S) :
    Goes OF fn (fun x => ∃ h1 v S', Q v S' ∧ x = .done v h1 S') (.run todo tmps h S) := .ret ht hv (.here ⟨h, v, S, hS, rfl⟩)

theorem log_all : (List.range 256).all (fun i => retI OK [] 139 (Nat.succ i) (Nat.log2 (Nat.succ i)) 1000) = true := by kernel_rfl
theorem log_any (n : Nat) (w : World) (h1 : 1 ≤ n) (h2 : n ≤ 256) : Calls Try.prog 139 #[.int .i64 (n : Int)] w (Ret (.int .i64 ((n.log2 : Nat) : Int)) (Ext [] w)) := by
  obtain ⟨i, rfl⟩ : ∃ i, n = i + 1 := ⟨n - 1, by omega⟩
  have := List.all_eq_true.1 log_all i (List.mem_range.2 (by omega))
  exact retI_ok this w
end Go.Proofs.Ytceddijolfpppaa
