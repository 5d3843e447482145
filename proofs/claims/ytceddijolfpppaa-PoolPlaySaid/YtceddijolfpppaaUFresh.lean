/-
  The abstract machine: calls that share no row: what they leave are new rows.
  No condition: definitions and laws.
-/
import Derived.Test.YtceddijolfpppaaUAuto
import Derived.Test.YtceddijolfpppaaURun6
namespace Go.Proofs.Ytceddijolfpppaa
open Go Go.RowKit
set_option linter.unusedSimpArgs false
set_option linter.unusedVariables false
def rowOK (q c : Nat) (b : Blk) : Prop := b.ro = false ∧ ∀ u ∈ b.cells, Clo (Kn q c) u
theorem rowOK_plain {q c : Nat} {b : Blk} (hr : b.ro = false) (h : ∀ u ∈ b.cells, plainB u = true) : rowOK q c b := ⟨hr, fun u hu => Clo.plain (h u hu)⟩
open Classical in
noncomputable def cleanL (q c : Nat) (l : List (Option Blk)) : List (Option Blk) := l.map fun ob => ob.bind fun b => if rowOK q c b then some b else none
theorem cleanL_len (q c : Nat) (l : List (Option Blk)) : (cleanL q c l).length = l.length := by simp [cleanL]
theorem cleanL_get {q c n : Nat} {l : List (Option Blk)} {b : Blk} (h : l[n]? = some (some b)) (hb : rowOK q c b) : (cleanL q c l)[n]? = some (some b) := by
  unfold cleanL
  rw [List.getElem?_map, h]
  simp [hb]
theorem cleanL_ok {q c n : Nat} {l : List (Option Blk)} {b : Blk} (h : (cleanL q c l)[n]? = some (some b)) : rowOK q c b ∧ l[n]? = some (some b) := by
  unfold cleanL at h
  rw [List.getElem?_map] at h
  cases ho : l[n]? with
  | none => rw [ho] at h; cases h
  | some ob =>
    rw [ho] at h
    cases ob with
    | none => cases h
    | some b0 =>
      simp only [Option.map_some, Option.bind_some, Option.some.injEq] at h
      split at h
      · rename_i hb
        cases h; exact ⟨hb, rfl⟩
      · cases h
section
variable {P : Program} {σ : Type} {X : Face P σ} {fn : Func} {A : Conf σ → Prop} {ops : Array Oper} {k : List Item} {i : Nat} {tmps : List Value} {h : AHeap} {S S' : σ} {o : Oper} {todo : List Item}
theorem Goes.clean {l : List (Option Blk)} {q : Nat} (c : Nat) (hl : l.length ≤ q) (hk : Goes X fn A (.run todo tmps (heapJ (cleanL q c l) q []) S)) : Goes X fn A (.run todo tmps (heapJ l q []) S) := by
  refine .weak (h0 := heapJ (cleanL q c l) q []) (fun n b hb => ?_) rfl hk
  have hn : n < q := by
    apply Nat.lt_of_not_le; intro h2
    obtain ⟨i, rfl⟩ : ∃ i, n = q + i := ⟨n - q, by omega⟩
    rw [gap_hi] at hb; simp at hb
  rw [gap_lo hn] at hb
  have h3 : (cleanL q c l)[n]? = some (some b) := by
    cases ho : (cleanL q c l)[n]? with
    | none => rw [ho] at hb; cases hb
    | some ob => rw [ho] at hb; cases ob with
      | none => cases hb
      | some b0 => cases hb; rfl
  exact ⟨b, by rw [gap_lo hn, (cleanL_ok h3).2]; rfl, rfl, rfl, fun h => h, .inl rfl⟩
def DoesN (X : Face P σ) (f : FuncId) (args : Array Value) (S : σ) (v : Value) (l : List (Option Blk)) (q : Nat) (S' : σ) : Prop :=
  DoesD X f args (heapJ [] 0 []) S v (heapJ l q []) S' ∧ (∀ n b, l[n]? = some (some b) → n < q ∧ rowOK q (X.cnt S') b) ∧ Clo (Kn q (X.cnt S')) v ∧ ∀ u ∈ args.toList, Hand (X.cnt S) u
theorem hand_ren {c : Nat} {E : Emb} {u : Value} (h : Hand c u) (hE : ∀ n, VB ≤ n → E.blk n = n ∧ E.base n = 0 ∧ E.slack n = 0) : ren E u = u := by
  rw [h E (nameE id) fun n hn => ⟨(hE n hn.1).1, (hE n hn.1).2.1, (hE n hn.1).2.2⟩, ren_id]
theorem up_hand {nx n : Nat} (h : VB ≤ n) : (upE [] nx).blk n = n ∧ (upE [] nx).base n = 0 ∧ (upE [] nx).slack n = 0 := by
  have h2 : ¬ n < VB := by omega
  simp [upE, nameE, upN, h2]
theorem up_lo {nx n : Nat} (h : n < VB) : (upE [] nx).blk n = nx + n ∧ (upE [] nx).base n = 0 ∧ (upE [] nx).slack n = 0 := by
  simp [upE, nameE, upN, h]
def newH (h : AHeap) (l : List (Option Blk)) (q : Nat) : AHeap := ⟨fun m => if h.next ≤ m then ((l[m - h.next]?).join).map (renB (upE [] h.next)) else h.get m, h.next + q⟩
theorem call_newr {e : Operand → Value} {f : FuncId} {args : Array Value} {v : Value} {l : List (Option Blk)} {q : Nat} (hca : callA P e o.op = some (f, args)) (hD : DoesN X f args S v l q S') (hlow : h.Low) (hq : q ≤ VB) :
    ∃ g c, CallOK X o e h S (ren (upE [] h.next) v) (newH h l q) S' f g c args (upE [] h.next) (upE [] h.next) (heapJ [] 0 []) (heapJ l q []) (List.range q) v ∧ Goes X g (fun x => x = .done v (heapJ l q []) S') (.run (enterL g c args).1 (enterL g c args).2 (heapJ [] 0 []) S) := by
  obtain ⟨⟨g, c, hf, hg, hb, hrun⟩, hok, hv, hargs⟩ := hD
  have h0 : ∀ n, (heapJ [] 0 []).get n = none := fun n => by
    have := gap_hi (l := []) (q := 0) (l2 := []) (i := n)
    rw [Nat.zero_add] at this; exact this
  have hrow : ∀ n b, (heapJ l q []).get n = some b → n < q ∧ l[n]? = some (some b) := fun n b hb => by
    have hn : n < q := by
      apply Nat.lt_of_not_le; intro h2
      obtain ⟨i, rfl⟩ : ∃ i, n = q + i := ⟨n - q, by omega⟩
      rw [gap_hi] at hb; simp at hb
    refine ⟨hn, ?_⟩
    rw [gap_lo hn] at hb
    cases ho : l[n]? with
    | none => rw [ho] at hb; cases hb
    | some ob => rw [ho] at hb; cases ob with
      | none => cases hb
      | some b0 => cases hb; rfl
  have hK : ∀ n, Kn q (X.cnt S') n → ((∃ b, (heapJ [] 0 []).get n = some b) ∨ n ∈ List.range q ∨ (VB ≤ n ∧ n < VB + X.cnt S')) := fun n hn => by
    rcases hn with hn | hn
    · exact .inr (.inl (List.mem_range.2 hn))
    · exact .inr (.inr hn)
  refine ⟨g, c, ⟨?_, hf, hg, hb, ⟨?_, ?_, ?_, ?_, ?_, ?_⟩, ?_, ⟨?_, ?_, ?_, ?_, rfl, ?_, ?_, ?_, ?_, ?_, List.nodup_range⟩⟩, hrun⟩
  · rw [hca]
    congr 2
    apply Array.ext'
    rw [Array.toList_map]
    refine ((List.map_congr_left fun u hu => ?_).trans (List.map_id _)).symm
    exact hand_ren (hargs u hu) fun n hn => up_hand hn
  · intro n b hb; rw [h0] at hb; cases hb
  · intro n b hb; rw [h0] at hb; cases hb
  · intro n b hb; rw [h0] at hb; cases hb
  · intro n m b c hb; rw [h0] at hb; cases hb
  · show 0 + 0 ≤ VB; unfold VB; omega
  · exact fun n hn => up_hand hn
  · exact fun u hu F F' hs => hargs u hu F F' (hs.mono fun n hn => .inr hn)
  · show h.next + q = _; rw [List.length_range]
  · intro n hn; rw [gap_next] at hn; simp at hn
  · intro j n hj
    have h2 := (List.getElem?_eq_some_iff.1 hj).1
    rw [List.length_range] at h2
    rw [List.getElem?_range h2] at hj
    cases hj
    obtain ⟨k1, k2, k3⟩ := up_lo (nx := h.next) (n := j) (by omega)
    exact ⟨by rw [gap_next]; simp, by omega, k1, k2, k3⟩
  · exact fun n hn => up_hand hn
  · exact fun F F' hs => hv F F' (hs.mono hK)
  · intro n b hb _ u hu
    obtain ⟨k1, k2⟩ := hrow n b hb
    exact fun F F' hs => (hok n b k2).2.2 u hu F F' (hs.mono hK)
  · intro j n hj
    have h2 := (List.getElem?_eq_some_iff.1 hj).1
    rw [List.length_range] at h2
    rw [List.getElem?_range h2] at hj
    cases hj
    show (if h.next ≤ h.next + j then _ else _) = _
    rw [if_pos (by omega), Nat.add_sub_cancel_left, gap_lo h2]
    rfl
  · intro m hm
    refine .inl ⟨?_, fun n b hb => by rw [h0] at hb; cases hb⟩
    show (if h.next ≤ m then _ else _) = _
    rcases hm with hm | hm
    · rw [if_neg (by omega)]
    · have hm : h.next + q ≤ m := hm
      rw [if_pos (by omega)]
      have e1 : h.get m = none := by
        cases hg : h.get m with
        | none => rfl
        | some b => have := hlow _ _ hg; omega
      rw [e1]
      cases ho : l[m - h.next]? with
      | none => rfl
      | some ob => cases ob with
        | none => rfl
        | some b => have := (hok _ _ ho).1; omega
  · intro n b hb _
    exact (hok n b (hrow n b hb).2).2.1
def shN (nx : Nat) (l : List (Option Blk)) (q : Nat) : List (Option Blk) := (List.range q).map fun n => ((l[n]?).join).map (renB (upE [] nx))
theorem shN_len (nx : Nat) (l : List (Option Blk)) (q : Nat) : (shN nx l q).length = q := by simp [shN]
theorem newH_J {l0 ys l : List (Option Blk)} {q0 q : Nat} (hok : ∀ n b, l[n]? = some (some b) → n < q) : newH (heapJ l0 q0 ys) l q = heapJ l0 q0 (ys ++ shN (q0 + ys.length) l q) := by
  refine ah_ext (fun m => ?_) (by show q0 + ys.length + q = _; rw [gap_next, List.length_append, shN_len]; omega)
  show (if (heapJ l0 q0 ys).next ≤ m then _ else _) = _
  rw [gap_next]
  split
  · rename_i hm
    obtain ⟨j, rfl⟩ : ∃ j, m = q0 + j := ⟨m - q0, by omega⟩
    rw [gap_hi, List.getElem?_append_right (by omega), show q0 + j - (q0 + ys.length) = j - ys.length by omega]
    unfold shN
    rw [List.getElem?_map]
    by_cases hq : j - ys.length < q
    · rw [List.getElem?_range hq]; rfl
    · have e9 : (List.range q)[j - ys.length]? = none := List.getElem?_eq_none (by rw [List.length_range]; omega)
      rw [e9]
      cases ho : l[j - ys.length]? with
      | none => rfl
      | some ob => cases ob with
        | none => rfl
        | some b => have := hok _ _ ho; omega
  · rename_i hm
    by_cases hq : m < q0
    · rw [gap_lo hq, gap_lo hq]
    · obtain ⟨j, rfl⟩ : ∃ j, m = q0 + j := ⟨m - q0, by omega⟩
      rw [gap_hi, gap_hi, List.getElem?_append_left (by omega)]
theorem shN_get {l : List (Option Blk)} {nx q n : Nat} {b : Blk} (h : l[n]? = some (some b)) (hn : n < q) : (shN nx l q)[n]? = some (some (renB (upE [] nx) b)) := by
  unfold shN
  rw [List.getElem?_map, List.getElem?_range hn, Option.map_some, h]; rfl
def FreshAt (l0 ys l : List (Option Blk)) (q0 q : Nat) (lf : List (Option Blk)) : Prop := lf.length = q0 + ys.length + q ∧ Ge l0 lf ∧ (∀ i b, ys[i]? = some (some b) → lf[q0 + i]? = some (some b)) ∧ ∀ n b, l[n]? = some (some b) → lf[q0 + ys.length + n]? = some (some (renB (upE [] (q0 + ys.length)) b))
theorem newH_F {l0 ys l : List (Option Blk)} {q0 q : Nat} (hl : l0.length ≤ q0) (hok : ∀ n b, l[n]? = some (some b) → n < q) : ∃ lf, newH (heapJ l0 q0 ys) l q = heapJ lf (q0 + ys.length + q) [] ∧ FreshAt l0 ys l q0 q lf := by
  refine ⟨_, (newH_J hok).trans ((gap_fold hl).trans ?_), ?_, Ge.fold l0 (ys ++ shN (q0 + ys.length) l q) q0, fun i b hi => ?_, fun n b hn => ?_⟩
  · rw [List.length_append, shN_len, Nat.add_assoc]
  · rw [fold_len hl, List.length_append, shN_len, Nat.add_assoc]
  · rw [fold_at hl, List.getElem?_append_left (List.getElem?_eq_some_iff.1 hi).1]; exact hi
  · rw [show q0 + ys.length + n = q0 + (ys.length + n) by omega, fold_at hl, List.getElem?_append_right (by omega), Nat.add_sub_cancel_left]
    exact shN_get hn (hok n b hn)
variable {l ys : List (Option Blk)} {q : Nat}
theorem qr1 (hl0 : l.length ≤ q) (ho : ops.toList[i]? = some o) (hw : Region.wanted o (yieldedL ops tmps) = true)
    (hk : ∀ K : List Value → List (Option Blk) → Nat → σ → Prop, (∀ t lf q' S', At X fn A ops k (i + 1) t (heapJ lf q' []) S' → K t lf q' S') → CallK (fun f args => ∃ v l1 q1 S1, DoesN X f args S v l1 q1 S1 ∧ q + ys.length + q1 < 1000000000 ∧ ∀ lf, FreshAt l ys l1 q q1 lf → K (putL o.dst (ren (upE [] (q + ys.length)) v) tmps) lf (q + ys.length + q1) S1) (callA P (evA tmps) o.op)) (hb : opOK o.op = true := by rfl) : At X fn A ops k i tmps (heapJ l q ys) S := by
  have hk := hk _ fun _ _ _ _ h => h
  unfold At
  rw [range_at (at_list ho)]
  cases hv : callA P (evA tmps) o.op with
  | none => rw [hv] at hk; exact hk.elim
  | some x =>
    obtain ⟨f, args⟩ := x
    rw [hv] at hk
    obtain ⟨v, l1, q1, S1, hD, hlim, hK⟩ := hk
    obtain ⟨g, c, hC, hrun⟩ := call_newr hv hD (gap_low l q ys) (by unfold VB; omega)
    obtain ⟨lf, e, hF⟩ := newH_F (ys := ys) hl0 (fun n b hb => (hD.2.1 n b hb).1)
    rw [e] at hC
    exact .call f g c args _ _ _ _ _ v (at_list ho) hw (opOK_all hb) hC (.inr (by rw [gap_next]; simp; unfold VB; omega)) hrun (hK lf hF)
variable {W : List Nat} {n0 : Nat} {Kf : List Value → AHeap → σ → Prop} {born : List (Nat × Nat)} {hf : AHeap}
theorem qr3 (hl0 : l.length ≤ q) (ho : ops.toList[i]? = some o) (hw : Region.wanted o (yieldedL ops tmps) = true)
    (hk : ∀ K : List Value → List (Option Blk) → Nat → σ → Prop, (∀ t lf q' S', RGF X W ops n0 hf Kf (i + 1) t (heapJ lf q' []) S' (bornN i (q + ys.length) q' ++ born) → K t lf q' S') → CallK (fun f args => ∃ v l1 q1 S1, DoesN X f args S v l1 q1 S1 ∧ q + ys.length + q1 < 1000000000 ∧ ∀ lf, FreshAt l ys l1 q q1 lf → K (putL o.dst (ren (upE [] (q + ys.length)) v) tmps) lf (q + ys.length + q1) S1) (callA P (evA tmps) o.op)) (hb : opOK o.op = true := by rfl) (hq : wrB W i o = false := by rfl) (hnf : farB W i = false := by rfl) : RGF X W ops n0 hf Kf i tmps (heapJ l q ys) S born := by
  have hk := hk _ fun _ _ _ _ h => h
  cases hv : callA P (evA tmps) o.op with
  | none => rw [hv] at hk; exact hk.elim
  | some x =>
    obtain ⟨f, args⟩ := x
    rw [hv] at hk
    obtain ⟨v, l1, q1, S1, hD, hlim, hK⟩ := hk
    have hlowv : (visH n0 born ((masksFrom ops.toList []).getD i 0) (heapJ l q ys)).Low := by
      intro n b hb
      unfold visH at hb ⊢
      simp only at hb ⊢
      split at hb
      · cases hg : (heapJ l q ys).get n with
        | none => rw [hg] at hb; cases hb
        | some b0 => exact gap_low _ _ _ _ _ hg
      · cases hb
    obtain ⟨g, c, hC, hrun⟩ := call_newr hv hD hlowv (by unfold VB; omega)
    obtain ⟨lf, e, hF⟩ := newH_F (ys := ys) hl0 (fun n b hb => (hD.2.1 n b hb).1)
    have hnx : (visH n0 born ((masksFrom ops.toList []).getD i 0) (heapJ l q ys)).next = q + ys.length := rfl
    rw [hnx] at hC
    refine .call' (h' := heapJ lf (q + ys.length + q1) []) false f g c args _ _ _ _ _ v hnf (at_list ho) hw (opOK_all hb) (.inr (by rw [gap_next]; simp; unfold VB; omega)) ⟨hq, _, hC, ?_⟩ hrun ?_ ?_
    · rw [← e]
      refine ah_ext (fun m => ?_) rfl
      rw [glueH_get, gap_next]
      show _ = if q + ys.length ≤ m then (if m < q + ys.length + q1 then (if q + ys.length ≤ m then _ else _) else none) else _
      show (if q + ys.length ≤ m then _ else _) = _
      split
      · rename_i hm
        split
        · rfl
        · rename_i hm2
          cases ho2 : l1[m - (heapJ l q ys).next]? with
          | none => rfl
          | some ob => cases ob with
            | none => rfl
            | some b =>
              have h9 := (hD.2.1 _ _ ho2).1
              rw [gap_next] at h9
              omega
      · rfl
    · intro n b _ h1 h2
      rw [← e]
      rw [gap_next] at h2
      show (if (heapJ l q ys).next ≤ n then _ else _) = _
      rw [gap_next, if_neg (by omega)]
    · have := hK lf hF
      rw [gap_next, gap_next]
      exact this
end
end Go.Proofs.Ytceddijolfpppaa
namespace Go.Proofs.Ytceddijolfpppaa
open Go Go.RowKit
set_option linter.unusedSimpArgs false
set_option linter.unusedVariables false
section
variable {l ys : List (Option Blk)} {q s n i c mask n0 : Nat} {born : List (Nat × Nat)} {b : Blk}
theorem cells_visL (hl : l.length ≤ q) (hn : n < l.length) (hb : l[n]? = some (some b)) (hn0 : n < n0) (hlen : i * s = b.cells.length) (h0 : i ≠ 0) : cellsA (visH n0 born mask (heapJ l q ys)) s (.slice (some ⟨n, 0, none⟩) i c) = some b.cells := by
  rw [cellsA_row h0 (b := { b with ro := true }) (vis_low hn0 (by rw [gap_lo (show n < q by omega), hb]; rfl)) rfl (by simp only; omega), List.drop_zero, hlen, List.take_length]
theorem cells_visY (k j : Nat) (hj : ys[j]? = some (some b)) (hk : (k, q + j) ∈ born) (hm : mask.testBit k = true) (hlen : i * s = b.cells.length) (h0 : i ≠ 0) : cellsA (visH n0 born mask (heapJ l q ys)) s (.slice (some ⟨q + j, 0, none⟩) i c) = some b.cells := by
  rw [cellsA_row h0 (b := { b with ro := true }) (vis_born hk hm (by rw [gap_hi, hj]; rfl)) rfl (by simp only; omega), List.drop_zero, hlen, List.take_length]
end
section
variable {P : Program} {σ : Type} {X : Face P σ} {ops : Array Oper} {i : Nat} {tmps : List Value} {S : σ} {W : List Nat} {n0 : Nat} {Kf : List Value → AHeap → σ → Prop} {born : List (Nat × Nat)} {hf : AHeap} {l ys : List (Option Blk)} {q : Nat}
theorem RGF.folds (hl : l.length ≤ q) (hk : ∀ lf : List (Option Blk), lf.length = q + ys.length → Ge l lf → (∀ i, lf[q + i]? = ys[i]?) → RGF X W ops n0 hf Kf i tmps (heapJ lf (q + ys.length) []) S born) : RGF X W ops n0 hf Kf i tmps (heapJ l q ys) S born := by
  rw [gap_fold hl]
  exact hk _ (fold_len hl) (Ge.fold l ys q) fun i => fold_at hl
end
theorem RGF.named {X : Face Try.prog St} {ops : Array Oper} {i : Nat} {tmps : List Value} {S : St} {W : List Nat} {n0 : Nat} {Kf : List Value → AHeap → St → Prop} {born : List (Nat × Nat)} {hf : AHeap} {l ys : List (Option Blk)} {q : Nat} (hk : ∀ lf : List (Option Blk), lf = l → RGF X W ops n0 hf Kf i tmps (heapJ lf q ys) S born) : RGF X W ops n0 hf Kf i tmps (heapJ l q ys) S born := hk l rfl
theorem nat_beq_self (n : Nat) : (n == n) = true := beq_self_eq_true n
attribute [go_sem] nat_beq_self
set_option maxHeartbeats 1000000 in
theorem rret_none (S : St) {l : List (Option Blk)} {q : Nat} {aF aH aG : Option Addr} {nF T M : Nat} {t x : Int} (hl : l.length ≤ q) (hq : q ≤ 900000000) (hx : ¬ (1 ≤ x ∧ x ≤ M)) :
    ∃ v h1 S1, (S1 = S ∧ ∃ l' q', v = plV aF nF aH aG T M ∧ h1 = heapJ l' q' [] ∧ Ge l l' ∧ l'.length ≤ q' ∧ q ≤ q' ∧ q' ≤ q + 20) ∧ DoesD OF 51 #[plV aF nF aH aG T M, .int .i64 t, .int .i64 x] (heapJ l q []) S v h1 S1 := by
  refine DoesD.mk Try.func51 rfl rfl ?_
  rw [Try.ntmps51]; simp only [List.size_toArray, List.length_cons, List.length_nil, List.replicate, List.cons_append, List.nil_append]
  unfold plV
  by_cases h1 : x < 1
  · refine via ?_
    refine Goes.finD rfl (by simp (disch := (first | omega | (simp only [heapL_next, List.length_cons, List.length_nil, List.size_toArray, geo_len] <;> omega) | fail)) only [go_sem, resA, res1A, Try.results51] <;> rfl) ?_
    exact ⟨rfl, _, _, rfl, gap_fold hl, Ge.fold l _ q, by rw [fold_len hl]; exact Nat.le_refl _, by simp only [List.length_cons, List.length_nil]; omega, by simp only [List.length_cons, List.length_nil]; omega⟩
  · refine via ?_
    refine Goes.finD rfl (by simp (disch := (first | omega | (simp only [heapL_next, List.length_cons, List.length_nil, List.size_toArray, geo_len] <;> omega) | fail)) only [go_sem, resA, res1A, Try.results51] <;> rfl) ?_
    exact ⟨rfl, _, _, rfl, gap_fold hl, Ge.fold l _ q, by rw [fold_len hl]; exact Nat.le_refl _, by simp only [List.length_cons, List.length_nil]; omega, by simp only [List.length_cons, List.length_nil]; omega⟩
set_option maxHeartbeats 1000000 in
theorem rret_does (S : St) {l : List (Option Blk)} {q : Nat} {aF aH aG : Option Addr} {nF T M t x : Nat} {F : List Int} {H : Nat → Nat → Nat} {gss : List (List Int)} {L : List Nat} (hl : l.length ≤ q) (hq : q ≤ 700000000) (hF : IsN l aF nF F) (hFl : F.length + L.length ≤ 900) (hH : IsNN l aH (hzs H T)) (hG : IsNN l aG gss) (hGT : gss.length = T) (hT1 : T ≤ 64) (ht : t < T) (hL : gss[t]? = some (ints L)) (hLx : ∀ x ∈ L, 1 ≤ x ∧ x ≤ M) (hM : M ≤ 1000000) (h1 : 1 ≤ x) (h2 : x ≤ M) :
    ∃ v hh S1, (S1 = S ∧ ∃ l' q' aF' nF' aG' F' K', v = plV aF' nF' aH aG' T M ∧ hh = heapJ l' q' [] ∧ Ge l l' ∧ l'.length ≤ q' ∧ q ≤ q' ∧ q' ≤ q + 100 + 40 * L.length ∧ IsN l' aF' nF' F' ∧ IsNN l' aG' (gss.set t (ints K')) ∧
      (L.length + 1 ≤ 2 * T ∧ F' = F ∧ K' = L ++ [x] ∨ 2 * T < L.length + 1 ∧ F' = F ++ ints ((L ++ [x]).filter fun x => !safeB (hzl H T) x) ∧ K' = (L ++ [x]).filter (safeB (hzl H T)))) ∧ DoesD OF 51 #[plV aF nF aH aG T M, .int .i64 t, .int .i64 x] (heapJ l q []) S v hh S1 := by
  refine DoesD.mk Try.func51 rfl rfl ?_
  rw [Try.ntmps51]; simp only [List.size_toArray, List.length_cons, List.length_nil, List.replicate, List.cons_append, List.nil_append]
  unfold plV
  have hGG := hG
  obtain ⟨nG, gG, pG, rfl, hnG, hbG, hpG, hallG⟩ := hG
  obtain ⟨⟨aq, iq⟩, hpt⟩ : ∃ p, pG[t]? = some p := ⟨_, List.getElem?_eq_getElem (by omega)⟩
  have hNt := hallG t _ _ hpt hL
  simp only at hNt
  have e1 := Nat.mul_one t
  have e2 : (t : Int).toNat = t := by omega
  have e3 := rowS_get hpt
  simp only at e3
  obtain ⟨hi, hrow0⟩ := hNt
  rw [ints_len] at hi
  refine viaD ?_
  by_cases h0 : iq = 0
  · subst h0
    refine Goes.drawR [13] (by kernel_rfl) ?_
    refine viaF (And.intro e1 (And.intro e2 (And.intro hbG e3))) ?_
    (refine RG.app0 (by first | exact heapL_low _ | exact gap_low _ _ _) rfl rfl rfl rfl rfl (fun h => app_keep appT_int (Nat.le_refl _)) fun K hK => ?_; simp (disch := (first | omega | (simp only [sz] <;> omega) | fail)) only [go_sem]; with_reducible refine hK _ _ ?_; clear hK K)
    refine via ?_
    (refine RG.appN (by first | exact heapL_low _ | exact gap_low _ _ _) rfl rfl rfl rfl rfl (by first | exact heapL_lim rfl | (exact gap_lim (by simp only [sz]; omega))) (appN_new appT_int cellsA_zero (cells_visY 11 3 rfl (by simp [gap_next]) (by kernel_rfl) rfl (by decide)) (by decide) (by decide) (fun x hx => by cases hx; exact ⟨_, vis_born (j := 3) (by simp [gap_next]) (by kernel_rfl) (gap_hi (i := 2)), rfl⟩)) fun K hK => ?_; simp (disch := (first | omega | (simp only [sz] <;> omega) | fail)) only [go_sem]; with_reducible refine hK _ _ ?_; clear hK K)
    refine via ?_
    refine RGF.folds hl fun lf hlen hge hrow => ?_
    simp only [List.length_cons, List.length_nil] at hlen
    have hbox : lf[q]? = _ := hrow 0
    simp only [List.getElem?_cons_zero] at hbox
    have hres : lf[q + 1]? = _ := hrow 1
    simp only [List.getElem?_cons_succ, List.getElem?_cons_zero] at hres
    have hnew : lf[q + 4]? = _ := hrow 4
    simp only [List.getElem?_cons_succ, List.getElem?_cons_zero] at hnew
    obtain ⟨v1, hh1, S1, ⟨rfl, l1, q1, aG1, rfl, rfl, hge1, hl1, hqa, hq1, hN1, _⟩, hd⟩ := rwith_does S (l := lf) (q := q + 5) (aH := some ⟨nG, 0, none⟩) (a := some ⟨q + 4, 0, none⟩) (i := 1) (T := T) (t := t) (xss := gss) (xs := ints (L ++ [x])) (by omega) (by omega) (hGG.ge hge) hGT hT1 ht ⟨by rw [ints_len, List.length_append, ← hi]; rfl, .inr ⟨q + 4, some 1, rfl, by omega, by rw [ints_app, ← numRow_app, show L = [] from List.eq_nil_of_length_eq_zero hi.symm]; exact hnew⟩⟩
    have hbox1 := hge1 q _ hbox
    have hres1 := hge1 (q + 1) _ hres
    have hlq := (List.getElem?_eq_some_iff.1 hbox1).1
    ((first | refine qd1 rfl rfl fun K hK => ?_ | refine qd3 rfl rfl fun K hK => ?_); simp (disch := (first | omega | (simp only [sz] <;> omega) | fail)) only [go_sem]; (first | refine ⟨_, _, _, hd, ⟨by simp only [sz]; omega, by simp only [sz]; unfold VB; omega, by first | exact heapL_low _ | exact gap_low _ _ _⟩, ?_⟩ | refine ⟨_, _, _, hd, ?_⟩); (try simp only [go_sem]); with_reducible refine hK _ _ _ ?_; clear hK K)
    refine viaF hbox1 ?_
    refine RGF.named fun l2 hl2 => ?_
    have hb2 := named_eq hl2 hlq
    have hr2 := named_ne hl2 hres1 (by omega)
    have hn2' := named_len hl2
    have hG2 : IsNN l2 aG1 (gss.set t (ints (L ++ [x]))) := by rw [hl2]; exact hN1.set hbox1 (by simp) (by simp)
    have hgt : (gss.set t (ints (L ++ [x])))[t]? = some (ints (L ++ [x])) := List.getElem?_set_self (by omega)
    have hG3 := hG2
    obtain ⟨n9, g9, p9, rfl, hn9, hb9, hp9, hall9⟩ := hG2
    rw [List.length_set] at hp9
    obtain ⟨⟨a9, i9⟩, hpt9⟩ : ∃ p, p9[t]? = some p := ⟨_, List.getElem?_eq_getElem (by omega)⟩
    have hi9 := (hall9 t _ _ hpt9 hgt).1
    rw [ints_len, List.length_append, List.length_singleton] at hi9
    simp only at hi9
    subst hi9
    have e9 := rowS_get hpt9
    simp only at e9
    have hge2 : Ge l l2 := by rw [hl2]; exact (hge.trans hge1).set hl
    by_cases c : 2 * T < L.length + 1
    · refine viaF (And.intro e1 (And.intro e2 (And.intro hb2 (And.intro hb9 e9)))) ?_
      obtain ⟨v3, hh3, S3, ⟨rfl, l3, q3, aF3, nF3, aG3, rfl, rfl, hge3, hl3, hq3a, hq3b, hF3, hG3'⟩, hd3⟩ := rscan_does S1 (l := l2) (q := q1) (aF := aF) (aH := aH) (aG := some ⟨n9, 0, none⟩) (nF := nF) (T := T) (M := M) (t := t) (F := F) (H := H) (gss := gss.set t (ints (L ++ [x]))) (L := L ++ [x]) (by omega) (by omega) (hF.ge hge2) (by rw [List.length_append, List.length_singleton]; omega) (hH.ge hge2) hG3 (by rw [List.length_set]; exact hGT) hT1 ht hgt (fun y hy => by
        rw [List.mem_append, List.mem_singleton] at hy
        rcases hy with hy | rfl
        · exact hLx y hy
        · exact ⟨h1, h2⟩) hM
      rw [List.set_set] at hG3'
      rw [List.length_append, List.length_singleton] at hq3b
      have hb3 := hge3 q _ hb2
      have hr3 := hge3 (q + 1) _ hr2
      have hlq3 := (List.getElem?_eq_some_iff.1 hb3).1
      unfold plV at hd3
      ((first | refine qd1 rfl rfl fun K hK => ?_ | refine qd3 rfl rfl fun K hK => ?_); simp (disch := (first | omega | (simp only [sz] <;> omega) | fail)) only [go_sem]; (first | refine ⟨_, _, _, hd3, ⟨by simp only [sz]; omega, by simp only [sz]; unfold VB; omega, by first | exact heapL_low _ | exact gap_low _ _ _⟩, ?_⟩ | refine ⟨_, _, _, hd3, ?_⟩); (try simp only [go_sem]); with_reducible refine hK _ _ _ ?_; clear hK K)
      refine viaF hb3 ?_
      refine At.named fun l4 hl4 => ?_
      have hb4 := named_eq hl4 hlq3
      have hr4 := named_ne hl4 hr3 (by omega)
      have hn4 := named_len hl4
      have hlr4 := (List.getElem?_eq_some_iff.1 hr4).1
      refine viaF (And.intro hb4 hr4) ?_
      refine Goes.named fun l5 hl5 => ?_
      have hr5 := named_eq hl5 hlr4
      refine Goes.finD rfl (by simp (disch := (first | omega | (simp only [heapL_next, List.length_cons, List.length_nil, List.size_toArray, geo_len] <;> omega) | fail)) only [go_sem, resA, res1A, Try.results51, hr5] <;> rfl) ?_
      refine ⟨rfl, l5, q3, aF3, nF3, aG3, _, _, rfl, rfl, ?_, by have := named_len hl5; omega, by omega, by omega, ?_, ?_, .inr ⟨c, rfl, rfl⟩⟩
      · rw [hl5, hl4]; exact ((hge2.trans hge3).set hl).set (by omega)
      · rw [hl5]
        refine IsN.set ?_ hr4 (by simp)
        rw [hl4]; exact hF3.set hb3 (by simp)
      · rw [hl5]
        refine IsNN.set ?_ hr4 (by simp) (by simp)
        rw [hl4]; exact hG3'.set hb3 (by simp) (by simp)
    · have hlr2 := (List.getElem?_eq_some_iff.1 hr2).1
      refine viaF (And.intro e1 (And.intro e2 (And.intro hb2 (And.intro hb9 (And.intro e9 hr2))))) ?_
      refine Goes.named fun l5 hl5 => ?_
      have hr5 := named_eq hl5 hlr2
      refine Goes.finD rfl (by simp (disch := (first | omega | (simp only [heapL_next, List.length_cons, List.length_nil, List.size_toArray, geo_len] <;> omega) | fail)) only [go_sem, resA, res1A, Try.results51, hr5] <;> rfl) ?_
      refine ⟨rfl, l5, q1, aF, nF, some ⟨n9, 0, none⟩, F, L ++ [x], rfl, rfl, ?_, by have := named_len hl5; omega, by omega, by omega, ?_, ?_, .inl ⟨by omega, rfl, rfl⟩⟩
      · rw [hl5]; exact hge2.set (by omega)
      · rw [hl5]; exact (hF.ge hge2).set hr2 (by simp)
      · rw [hl5]; exact hG3.set hr2 (by simp) (by simp)
  · obtain ⟨_, hbad⟩ | ⟨n2, g2, rfl, hn2, hb2⟩ := hrow0
    · exact absurd (by have := congrArg List.length hbad; simp only [ints_len, List.length_nil] at this; omega) h0
    refine Goes.drawN [12, 13, 1000001, 2000013] [q] (by kernel_rfl) (by first | exact heapL_low _ | exact gap_low _ _ _) ?_
    refine via ?_
    (refine RGF.fark rfl rfl fun K hK => ?_; simp (disch := (first | omega | (simp only [sz] <;> omega) | fail)) only [go_sem]; with_reducible refine hK _ _ ?_; clear hK K)
    refine viaF (And.intro e1 (And.intro e2 (And.intro hbG e3))) ?_
    (refine RG.appN (by first | exact heapL_low _ | exact gap_low _ _ _) rfl rfl rfl rfl rfl (by first | exact heapL_lim rfl | (exact gap_lim (by simp only [sz]; omega))) (appN_new appT_int cellsA_zero (cells_visL hl hn2 hb2 (by simp only [gap_next]; omega) (by simp only [numRow_len, ints_len]; omega) h0) (by omega) (by omega) (fun x hx => by cases hx; exact ⟨_, vis_born (j := 3) (by simp [gap_next]) (by kernel_rfl) (gap_hi (i := 2)), rfl⟩)) fun K hK => ?_; simp (disch := (first | omega | (simp only [sz] <;> omega) | fail)) only [go_sem]; with_reducible refine hK _ _ ?_; clear hK K)
    refine via ?_
    (refine RGF.appF rfl rfl rfl rfl rfl (app_grow appT_int (gap_hi (i := 3)) rfl rfl (by simp only [List.nil_append, numRow_len, ints_len]; omega) (cells_gap 4 rfl rfl (by decide)) rfl (by decide) (by omega)) (by rw [farA_get]; simp) (by first | exact heapL_lim rfl | (exact gap_lim (by simp only [sz]; omega))) fun K hK => ?_; simp (disch := (first | omega | (simp only [sz] <;> omega) | fail)) only [go_sem]; with_reducible refine hK _ _ ?_; clear hK K)
    refine via ?_
    refine RGF.folds hl fun lf hlen hge hrow => ?_
    simp only [List.length_cons, List.length_nil] at hlen
    have hbox : lf[q]? = _ := hrow 0
    simp only [List.getElem?_cons_zero] at hbox
    have hres : lf[q + 1]? = _ := hrow 1
    simp only [List.getElem?_cons_succ, List.getElem?_cons_zero] at hres
    have hnew : lf[q + 5]? = _ := hrow 5
    simp only [List.getElem?_cons_succ, List.getElem?_cons_zero] at hnew
    obtain ⟨v1, hh1, S1, ⟨rfl, l1, q1, aG1, rfl, rfl, hge1, hl1, hqa, hq1, hN1, _⟩, hd⟩ := rwith_does S (l := lf) (q := q + 6) (aH := some ⟨nG, 0, none⟩) (a := some ⟨q + 5, 0, none⟩) (i := iq + 1) (T := T) (t := t) (xss := gss) (xs := ints (L ++ [x])) (by omega) (by omega) (hGG.ge hge) hGT hT1 ht ⟨by rw [ints_len, List.length_append, ← hi]; rfl, .inr ⟨q + 5, some 1, rfl, by omega, by rw [ints_app, ← numRow_app]; exact hnew⟩⟩
    have hbox1 := hge1 q _ hbox
    have hres1 := hge1 (q + 1) _ hres
    have hlq := (List.getElem?_eq_some_iff.1 hbox1).1
    (refine qd4 rfl rfl fun K hK => ?_; simp (disch := (first | omega | (simp only [sz] <;> omega) | fail)) only [go_sem]; refine ⟨_, _, _, hd, ⟨by simp only [sz]; omega, by simp only [sz]; unfold VB; omega, by first | exact heapL_low _ | exact gap_low _ _ _⟩, ?_⟩; (try simp only [go_sem]); with_reducible refine hK _ _ _ ?_; clear hK K)
    refine via ?_
    (refine RGF.storeU rfl rfl rfl (fun K hK => ?_); simp (disch := (first | omega | (simp only [sz] <;> omega) | fail)) only [go_sem, hbox1]; with_reducible refine hK _ _ ?_; clear hK K)
    refine via ?_
    refine RGF.named fun l2 hl2 => ?_
    have hb2 := named_eq hl2 hlq
    have hr2 := named_ne hl2 hres1 (by omega)
    have hn2' := named_len hl2
    have hG2 : IsNN l2 aG1 (gss.set t (ints (L ++ [x]))) := by rw [hl2]; exact hN1.set hbox1 (by simp) (by simp)
    have hgt : (gss.set t (ints (L ++ [x])))[t]? = some (ints (L ++ [x])) := List.getElem?_set_self (by omega)
    have hG3 := hG2
    obtain ⟨n9, g9, p9, rfl, hn9, hb9, hp9, hall9⟩ := hG2
    rw [List.length_set] at hp9
    obtain ⟨⟨a9, i9⟩, hpt9⟩ : ∃ p, p9[t]? = some p := ⟨_, List.getElem?_eq_getElem (by omega)⟩
    have hi9 := (hall9 t _ _ hpt9 hgt).1
    rw [ints_len, List.length_append, List.length_singleton] at hi9
    simp only at hi9
    subst hi9
    have e9 := rowS_get hpt9
    simp only at e9
    have hge2 : Ge l l2 := by rw [hl2]; exact (hge.trans hge1).set hl
    by_cases c : 2 * T < L.length + 1
    · refine viaF (And.intro e1 (And.intro e2 (And.intro hb2 (And.intro hb9 e9)))) ?_
      obtain ⟨v3, hh3, S3, ⟨rfl, l3, q3, aF3, nF3, aG3, rfl, rfl, hge3, hl3, hq3a, hq3b, hF3, hG3'⟩, hd3⟩ := rscan_does S1 (l := l2) (q := q1) (aF := aF) (aH := aH) (aG := some ⟨n9, 0, none⟩) (nF := nF) (T := T) (M := M) (t := t) (F := F) (H := H) (gss := gss.set t (ints (L ++ [x]))) (L := L ++ [x]) (by omega) (by omega) (hF.ge hge2) (by rw [List.length_append, List.length_singleton]; omega) (hH.ge hge2) hG3 (by rw [List.length_set]; exact hGT) hT1 ht hgt (fun y hy => by
        rw [List.mem_append, List.mem_singleton] at hy
        rcases hy with hy | rfl
        · exact hLx y hy
        · exact ⟨h1, h2⟩) hM
      rw [List.set_set] at hG3'
      rw [List.length_append, List.length_singleton] at hq3b
      have hb3 := hge3 q _ hb2
      have hr3 := hge3 (q + 1) _ hr2
      have hlq3 := (List.getElem?_eq_some_iff.1 hb3).1
      unfold plV at hd3
      ((first | refine qd1 rfl rfl fun K hK => ?_ | refine qd3 rfl rfl fun K hK => ?_); simp (disch := (first | omega | (simp only [sz] <;> omega) | fail)) only [go_sem]; (first | refine ⟨_, _, _, hd3, ⟨by simp only [sz]; omega, by simp only [sz]; unfold VB; omega, by first | exact heapL_low _ | exact gap_low _ _ _⟩, ?_⟩ | refine ⟨_, _, _, hd3, ?_⟩); (try simp only [go_sem]); with_reducible refine hK _ _ _ ?_; clear hK K)
      refine viaF hb3 ?_
      refine At.named fun l4 hl4 => ?_
      have hb4 := named_eq hl4 hlq3
      have hr4 := named_ne hl4 hr3 (by omega)
      have hn4 := named_len hl4
      have hlr4 := (List.getElem?_eq_some_iff.1 hr4).1
      refine viaF (And.intro hb4 hr4) ?_
      refine Goes.named fun l5 hl5 => ?_
      have hr5 := named_eq hl5 hlr4
      refine Goes.finD rfl (by simp (disch := (first | omega | (simp only [heapL_next, List.length_cons, List.length_nil, List.size_toArray, geo_len] <;> omega) | fail)) only [go_sem, resA, res1A, Try.results51, hr5] <;> rfl) ?_
      refine ⟨rfl, l5, q3, aF3, nF3, aG3, _, _, rfl, rfl, ?_, by have := named_len hl5; omega, by omega, by omega, ?_, ?_, .inr ⟨c, rfl, rfl⟩⟩
      · rw [hl5, hl4]; exact ((hge2.trans hge3).set hl).set (by omega)
      · rw [hl5]
        refine IsN.set ?_ hr4 (by simp)
        rw [hl4]; exact hF3.set hb3 (by simp)
      · rw [hl5]
        refine IsNN.set ?_ hr4 (by simp) (by simp)
        rw [hl4]; exact hG3'.set hb3 (by simp) (by simp)
    · have hlr2 := (List.getElem?_eq_some_iff.1 hr2).1
      refine viaF (And.intro e1 (And.intro e2 (And.intro hb2 (And.intro hb9 (And.intro e9 hr2))))) ?_
      refine Goes.named fun l5 hl5 => ?_
      have hr5 := named_eq hl5 hlr2
      refine Goes.finD rfl (by simp (disch := (first | omega | (simp only [heapL_next, List.length_cons, List.length_nil, List.size_toArray, geo_len] <;> omega) | fail)) only [go_sem, resA, res1A, Try.results51, hr5] <;> rfl) ?_
      refine ⟨rfl, l5, q1, aF, nF, some ⟨n9, 0, none⟩, F, L ++ [x], rfl, rfl, ?_, by have := named_len hl5; omega, by omega, by omega, ?_, ?_, .inl ⟨by omega, rfl, rfl⟩⟩
      · rw [hl5]; exact hge2.set (by omega)
      · rw [hl5]; exact (hF.ge hge2).set hr2 (by simp)
      · rw [hl5]; exact hG3.set hr2 (by simp) (by simp)
def NwF (lf : List (Option Blk)) (q : Nat) (a : Option Addr) (FL : List Int) : Prop :=
  (a = none ∧ FL = []) ∨ ∃ n, a = some ⟨n, 0, none⟩ ∧ q + 2 ≤ n ∧ FL ≠ [] ∧ lf[n]? = some (some ⟨numRow .i64 FL, 3, false, some 1⟩)
theorem upto_rev {i M : Nat} (h : i ≤ M) (h1 : 1 ≤ i) : (upto i M).reverse = (upto (i + 1) M).reverse ++ [i] := by rw [upto_cons h, List.reverse_cons]
theorem upto_len (i M : Nat) : (upto i M).length = M + 1 - i := by simp [upto]
def NwH (lf : List (Option Blk)) (q t : Nat) (aH aG : Option Addr) : Prop :=
  (t = 0 ∧ aH = none ∧ aG = none) ∨ ∃ (nH nG : Nat) (ps : List (Option Addr × Nat)), aH = some ⟨nH, 0, none⟩ ∧ aG = some ⟨nG, 0, none⟩ ∧ q + 2 ≤ nH ∧ q + 2 ≤ nG ∧ nH ≠ nG ∧ 1 ≤ t ∧ lf[nH]? = some (some ⟨rowS ps, 70, false, some 1⟩) ∧ lf[nG]? = some (some ⟨rowS (List.replicate t (none, 0)), 70, false, some 1⟩) ∧ ps.length = t ∧ ∀ (j : Nat) (p : Option Addr × Nat), ps[j]? = some p → IsN lf p.1 p.2 [0, 0]
theorem rowS_app {ps ps' : List (Option Addr × Nat)} : rowS ps ++ rowS ps' = rowS (ps ++ ps') := by simp [rowS]
theorem sclo {q c n i k : Nat} (h : n < q) : Clo (Kn q c) (.slice (some ⟨n, 0, none⟩) i k) := fun F F' hs => by
  obtain ⟨h1, h2, h3⟩ := hs n (.inl h)
  simp [adr, h1, h2, h3]
theorem nclo {q c : Nat} {l : List (Option Blk)} {a : Option Addr} {i k m : Nat} {xs : List Int} (h : IsN l a i xs) (hl : l.length ≤ q) : Clo (Kn q c) (.slice a k m) := by
  obtain ⟨_, ⟨rfl, _⟩ | ⟨n, g, rfl, hn, _⟩⟩ := h
  · exact Clo.plain rfl
  · exact sclo (by omega)
theorem nnclo {q c : Nat} {l : List (Option Blk)} {a : Option Addr} {k m : Nat} {xss : List (List Int)} (h : IsNN l a xss) (hl : l.length ≤ q) : Clo (Kn q c) (.slice a k m) := by
  obtain ⟨n, g, ps, rfl, hn, _⟩ := h
  exact sclo (by omega)
theorem IsN.clean {q c : Nat} {l : List (Option Blk)} {a : Option Addr} {i : Nat} {xs : List Int} (h : IsN l a i xs) : IsN (cleanL q c l) a i xs := by
  obtain ⟨h0, h | ⟨n, g, rfl, hn, hb⟩⟩ := h
  · exact ⟨h0, .inl h⟩
  · exact ⟨h0, .inr ⟨n, g, rfl, by rw [cleanL_len]; exact hn, cleanL_get hb (rowOK_plain rfl (fun u hu => numRow_plain u hu))⟩⟩
theorem IsNN.clean {q c : Nat} {l : List (Option Blk)} {a : Option Addr} {xss : List (List Int)} (h : IsNN l a xss) (hl : l.length ≤ q) : IsNN (cleanL q c l) a xss := by
  obtain ⟨n, g, ps, rfl, hn, hb, hp, hall⟩ := h
  refine ⟨n, g, ps, rfl, by rw [cleanL_len]; exact hn, cleanL_get hb ⟨rfl, fun u hu => ?_⟩, hp, fun j p xs h1 h2 => (hall j p xs h1 h2).clean⟩
  obtain ⟨p, hpm, rfl⟩ := List.mem_map.1 hu
  obtain ⟨j, hj, rfl⟩ := List.getElem_of_mem hpm
  exact nclo (hall j _ _ (List.getElem?_eq_getElem hj) (List.getElem?_eq_getElem (by omega))) hl
def shA (d : Nat) (a : Option Addr) : Option Addr := a.map fun x => ⟨d + x.block, x.off, x.spot⟩
theorem ren_sh {d q : Nat} {a : Option Addr} {k m : Nat} (h : a = none ∨ ∃ n, a = some ⟨n, 0, none⟩ ∧ n < VB) : ren (upE [] d) (.slice a k m) = .slice (shA d a) k m := by
  rcases h with rfl | ⟨n, rfl, hn⟩
  · simp [shA]
  · obtain ⟨h1, h2, h3⟩ := up_lo (nx := d) hn
    simp [shA, adr, h1, h2, h3]
theorem IsN.at {l : List (Option Blk)} {a : Option Addr} {i q : Nat} {xs : List Int} (h : IsN l a i xs) (hl : l.length ≤ q) (hq : q ≤ VB) : a = none ∨ ∃ n, a = some ⟨n, 0, none⟩ ∧ n < VB := by
  obtain ⟨_, ⟨rfl, _⟩ | ⟨n, g, rfl, hn, _⟩⟩ := h
  · exact .inl rfl
  · exact .inr ⟨n, rfl, by omega⟩
theorem IsNN.at {l : List (Option Blk)} {a : Option Addr} {q : Nat} {xss : List (List Int)} (h : IsNN l a xss) (hl : l.length ≤ q) (hq : q ≤ VB) : a = none ∨ ∃ n, a = some ⟨n, 0, none⟩ ∧ n < VB := by
  obtain ⟨n, g, ps, rfl, hn, _⟩ := h
  exact .inr ⟨n, rfl, by omega⟩
theorem renB_plain {E : Emb} {b : Blk} (h : ∀ u ∈ b.cells, plainB u = true) : renB E b = b := by
  unfold renB
  rw [show b.cells.map (ren E) = b.cells from (List.map_congr_left fun u hu => ren_plain E (h u hu)).trans (List.map_id _)]
theorem IsN.fresh {l0 ys l lf : List (Option Blk)} {q0 q : Nat} {a : Option Addr} {i : Nat} {xs : List Int} (h : IsN l a i xs) (hF : FreshAt l0 ys l q0 q lf) (hl : l.length ≤ q) : IsN lf (shA (q0 + ys.length) a) i xs := by
  obtain ⟨h0, ⟨rfl, h⟩ | ⟨n, g, rfl, hn, hb⟩⟩ := h
  · exact ⟨h0, .inl ⟨rfl, h⟩⟩
  · refine ⟨h0, .inr ⟨q0 + ys.length + n, g, rfl, by rw [hF.1]; omega, ?_⟩⟩
    rw [hF.2.2.2 n _ hb, renB_plain (fun u hu => numRow_plain u hu)]
theorem IsNN.fresh {l0 ys l lf : List (Option Blk)} {q0 q : Nat} {a : Option Addr} {xss : List (List Int)} (h : IsNN l a xss) (hF : FreshAt l0 ys l q0 q lf) (hl : l.length ≤ q) (hq : q ≤ VB) : IsNN lf (shA (q0 + ys.length) a) xss := by
  obtain ⟨n, g, ps, rfl, hn, hb, hp, hall⟩ := h
  refine ⟨q0 + ys.length + n, g, ps.map fun p => (shA (q0 + ys.length) p.1, p.2), rfl, by rw [hF.1]; omega, ?_, by rw [List.length_map]; exact hp, fun j p xs h1 h2 => ?_⟩
  · rw [hF.2.2.2 n _ hb]
    unfold renB rowS
    simp only [List.map_map]
    congr 3
    refine List.map_congr_left fun p hpm => ?_
    obtain ⟨j, hj, rfl⟩ := List.getElem_of_mem hpm
    exact ren_sh (q := q) ((hall j _ _ (List.getElem?_eq_getElem hj) (List.getElem?_eq_getElem (by omega))).at hl hq)
  · rw [List.getElem?_map] at h1
    cases hj : ps[j]? with
    | none => rw [hj] at h1; cases h1
    | some p0 =>
      rw [hj] at h1; cases h1
      exact (hall j p0 xs hj h2).fresh hF hl
theorem ren_plV {l : List (Option Blk)} {q d : Nat} {aF aH aG : Option Addr} {nF T M : Nat} {F : List Int} {H G : List (List Int)} (hF : IsN l aF nF F) (hH : IsNN l aH H) (hG : IsNN l aG G) (hl : l.length ≤ q) (hq : q ≤ VB) : ren (upE [] d) (plV aF nF aH aG T M) = plV (shA d aF) nF (shA d aH) (shA d aG) T M := by
  unfold plV
  rw [ren_agg]
  simp [ren_sh (q := q) (hF.at hl hq), ren_sh (q := q) (hH.at hl hq), ren_sh (q := q) (hG.at hl hq)]
theorem plV_clo {l : List (Option Blk)} {q c : Nat} {aF aH aG : Option Addr} {nF T M : Nat} {F : List Int} {H G : List (List Int)} (hF : IsN l aF nF F) (hH : IsNN l aH H) (hG : IsNN l aG G) (hl : l.length ≤ q) : Clo (Kn q c) (plV aF nF aH aG T M) := fun E E' hs => by
  have h1 := nclo (c := c) (k := nF) (m := nF) hF hl E E' hs
  have h2 := nnclo (c := c) (k := T) (m := T) hH hl E E' hs
  have h3 := nnclo (c := c) (k := T) (m := T) hG hl E E' hs
  unfold plV
  rw [ren_agg, ren_agg]
  simp [h1, h2, h3]
set_option maxHeartbeats 1000000 in
theorem rnew_does (S : St) {l : List (Option Blk)} {q : Nat} {T M : Nat} (hl : l.length ≤ q) (hq : q ≤ 700000000) (hT1 : 1 ≤ T) (hT : T ≤ 64) (hM : M ≤ 1000) :
    ∃ v hh S1, (S1 = S ∧ ∃ (l' : List (Option Blk)) (q' : Nat) (aF aH aG : Option Addr), v = plV aF M aH aG T M ∧ hh = heapJ l' q' [] ∧ Ge l l' ∧ l'.length ≤ q' ∧ q ≤ q' ∧ q' ≤ q + 20000 ∧ IsN l' aF M (ints (upto 1 M).reverse) ∧ IsNN l' aH (hzs (fun _ _ => 0) T) ∧ IsNN l' aG (List.replicate T []) ∧ (l = [] → ∀ (n : Nat) (b : Blk), l'[n]? = some (some b) → rowOK q' S.length b)) ∧ DoesD OF 41 #[.int .i64 M, .int .i64 T] (heapJ l q []) S v hh S1 := by
  refine DoesD.mk Try.func41 rfl rfl ?_
  rw [Try.ntmps41]; simp only [List.size_toArray, List.length_cons, List.length_nil, List.replicate, List.cons_append, List.nil_append]
  refine via ?_
  refine Goes.folds hl fun lf hlen hge hrow => ?_
  simp only [List.length_cons, List.length_nil] at hlen
  have hres : lf[q]? = _ := hrow 0
  simp only [List.getElem?_cons_zero] at hres
  have hbox : lf[q + 1]? = _ := hrow 1
  simp only [List.getElem?_cons_succ, List.getElem?_cons_zero] at hbox
  refine Goes.wh (fun z tmps h S' => ∃ (i qq : Nat) (lf : List (Option Blk)) (aF : Option Addr), z = i ∧ i ≤ M ∧ q + 2 ≤ qq ∧ qq ≤ q + 2 + 10 * (M - i) ∧ lf.length ≤ qq ∧ Ge l lf ∧ lf[q]? = some (some { cells := [.slice none 0 0, .slice none 0 0, .slice none 0 0, .int .i64 0], elem := 73 }) ∧
      lf[q + 1]? = some (some { cells := [.slice aF (M - i) (M - i), .slice none 0 0, .slice none 0 0, .int .i64 M], elem := 73 }) ∧ NwF lf q aF (ints (upto (i + 1) M).reverse) ∧ S' = S ∧ h = heapJ lf qq [] ∧ tmps.length = 38 ∧
      tmps.getD 0 undef = .int .i64 M ∧ tmps.getD 1 undef = .int .i64 T ∧ tmps.getD 4 undef = .pointer (some ⟨q, 0, none⟩) ∧ tmps.getD 5 undef = .pointer (some ⟨q + 1, 0, none⟩) ∧ tmps.getD 6 undef = .int .i64 i) (m := M)
      ⟨M, q + 2, lf, none, rfl, Nat.le_refl _, Nat.le_refl _, by omega, by omega, hge, hres, by rw [Nat.sub_self]; exact hbox, .inl ⟨rfl, by rw [upto_nil (by omega)]; rfl⟩, rfl, rfl, rfl, rfl, rfl, rfl, rfl, rfl⟩ ?_
  clear hres hbox hge hlen hrow
  rintro z tmps h S' ih ⟨i, qq, lf, aF, hzi, hi, hqq1, hqq2, hlen, hge, hres, hbox, hF, rfl, rfl, hl38, f0, f1, f4, f5, f6⟩
  subst z
  obtain ⟨V, hV, hT⟩ := frame_lit hl38; replace hT : _ = ([V 0, V 1, V 2, V 3, V 4, V 5, V 6, V 7, V 8, V 9, V 10, V 11, V 12, V 13, V 14, V 15, V 16, V 17, V 18, V 19, V 20, V 21, V 22, V 23, V 24, V 25, V 26, V 27, V 28, V 29, V 30, V 31, V 32, V 33, V 34, V 35, V 36, V 37] : List Value) := hT; rw [hV] at f0 f1 f4 f5 f6; subst hT; simp only [f0, f1, f4, f5, f6]; clear hV hl38
  by_cases hlt : 1 ≤ i
  · have e1 : (i : Int) - 1 = ((i - 1 : Nat) : Int) := by omega
    have hup := upto_rev hi hlt
    have hup2 : ints (upto (i - 1 + 1) M).reverse = ints (upto (i + 1) M).reverse ++ [(i : Int)] := by
      rw [show i - 1 + 1 = i by omega, hup, ints_app]; rfl
    have hFLl : (ints (upto (i + 1) M).reverse).length = M - i := by rw [ints_len, List.length_reverse, upto_len]; omega
    obtain ⟨d, hd⟩ : ∃ d, d = M - i := ⟨_, rfl⟩
    rw [← hd] at hbox hFLl
    have hd1 : M - (i - 1) = d + 1 := by omega
    refine viaF hbox ?_
    rcases hF with ⟨rfl, h0⟩ | ⟨nk, rfl, hk0, hk1, hk⟩
    · rw [h0, List.length_nil] at hFLl
      subst hFLl
      rw [h0, List.nil_append] at hup2
      (refine At.appE rfl rfl rfl rfl (app_nil_new appT_int (cells_gap 0 rfl rfl (by decide)) (by decide) (by decide)) (by simp (disch := (first | omega | (simp only [sz] <;> omega) | fail)) only [go_sem]; (try simp only [sz]); unfold VB; omega) fun K hK => ?_; simp (disch := (first | omega | (simp only [sz] <;> omega) | fail)) only [go_sem]; with_reducible refine hK _ _ ?_; clear hK K)
      have hlq := (List.getElem?_eq_some_iff.1 hbox).1
      refine viaF (And.intro hbox e1) ?_
      refine Goes.named fun l2 hl2 => ?_
      have hn2 := named_len hl2
      refine Goes.folds (by omega) fun l3 hl3 hge3 hrow3 => ?_
      simp only [List.length_cons, List.length_nil] at hl3
      exact ih _ _ _ _ (by omega) ⟨i - 1, _, l3, some ⟨qq + 1, 0, none⟩, rfl, by omega, by simp only [List.length_cons, List.length_nil]; omega, by simp only [List.length_cons, List.length_nil]; omega, by simp only [List.length_cons, List.length_nil]; omega, Ge.trans (by rw [hl2]; exact hge.set (by omega)) hge3, hge3 _ _ (named_ne hl2 hres (by omega)), by rw [hd1]; exact hge3 _ _ (named_eq hl2 hlq), by rw [hup2]; exact .inr ⟨qq + 1, rfl, by omega, by simp, hrow3 1⟩, rfl, rfl, rfl, rfl, rfl, rfl, rfl, rfl⟩
    · have hkl := (List.getElem?_eq_some_iff.1 hk).1
      have hkg : (heapJ lf qq [some { cells := [.int .i64 (i : Int)], elem := 3, grow := some 0 }]).get nk = some ⟨numRow .i64 (ints (upto (i + 1) M).reverse), 3, false, some 1⟩ := by
        rw [gap_lo (by omega), hk]; rfl
      (refine At.appE rfl rfl rfl rfl (app_grow appT_int hkg rfl rfl (by rw [numRow_len]; omega) (cells_gap 0 rfl rfl (by decide)) rfl (by decide) (by omega)) (by simp (disch := (first | omega | (simp only [sz] <;> omega) | fail)) only [go_sem]; (try simp only [sz]); unfold VB; omega) fun K hK => ?_; simp (disch := (first | omega | (simp only [sz] <;> omega) | fail)) only [go_sem]; with_reducible refine hK _ _ ?_; clear hK K)
      refine At.named fun lk hlk => ?_
      have hnk := named_len hlk
      have hboxk := named_ne hlk hbox (by omega)
      have hlq := (List.getElem?_eq_some_iff.1 hboxk).1
      refine viaF (And.intro hboxk e1) ?_
      refine Goes.named fun l2 hl2 => ?_
      have hn2 := named_len hl2
      refine Goes.folds (by omega) fun l3 hl3 hge3 hrow3 => ?_
      simp only [List.length_cons, List.length_nil] at hl3
      exact ih _ _ _ _ (by omega) ⟨i - 1, _, l3, some ⟨qq + 1, 0, none⟩, rfl, by omega, by simp only [List.length_cons, List.length_nil]; omega, by simp only [List.length_cons, List.length_nil]; omega, by simp only [List.length_cons, List.length_nil]; omega, Ge.trans (by rw [hl2, hlk]; exact (hge.set (by omega)).set (by omega)) hge3, hge3 _ _ (named_ne hl2 (named_ne hlk hres (by omega)) (by omega)), by rw [hd1]; exact hge3 _ _ (named_eq hl2 hlq), by rw [hup2]; exact .inr ⟨qq + 1, rfl, by omega, by simp, by rw [← numRow_app]; exact hrow3 1⟩, rfl, rfl, rfl, rfl, rfl, rfl, rfl, rfl⟩
  · obtain rfl : i = 0 := by omega
    clear ih
    refine viaF hbox ?_
    have hFN : IsN lf aF M (ints (upto 1 M).reverse) := by
      refine ⟨by rw [ints_len, List.length_reverse, upto_len]; omega, ?_⟩
      rcases hF with ⟨h1, h2⟩ | ⟨n, h1, _, _, h3⟩
      · exact .inl ⟨h1, h2⟩
      · exact .inr ⟨n, some 1, h1, (List.getElem?_eq_some_iff.1 h3).1, h3⟩
    rw [Nat.sub_zero] at hbox
    refine Goes.wh (fun z tmps h S2 => ∃ (t qq : Nat) (lf : List (Option Blk)) (aH aG : Option Addr), z = T - t ∧ t ≤ T ∧ q + 2 ≤ qq ∧ qq ≤ q + 2 + 10 * M + 20 * t ∧ lf.length ≤ qq ∧ Ge l lf ∧ lf[q]? = some (some { cells := [.slice none 0 0, .slice none 0 0, .slice none 0 0, .int .i64 0], elem := 73 }) ∧
      lf[q + 1]? = some (some { cells := [.slice aF M M, .slice aH t t, .slice aG t t, .int .i64 M], elem := 73 }) ∧ IsN lf aF M (ints (upto 1 M).reverse) ∧ NwH lf q t aH aG ∧ S2 = S' ∧ h = heapJ lf qq [] ∧ tmps.length = 38 ∧
      tmps.getD 1 undef = .int .i64 T ∧ tmps.getD 4 undef = .pointer (some ⟨q, 0, none⟩) ∧ tmps.getD 5 undef = .pointer (some ⟨q + 1, 0, none⟩) ∧ tmps.getD 7 undef = .int .i64 t) (m := T)
      ⟨0, qq, lf, none, none, rfl, by omega, hqq1, by omega, hlen, hge, hres, hbox, hFN, .inl ⟨rfl, rfl, rfl⟩, rfl, rfl, rfl, rfl, rfl, rfl, rfl⟩ ?_
    clear hres hbox hge hlen hF hFN hqq1 hqq2
    rintro z tmps h S2 ih ⟨t, qq, lf, aH, aG, rfl, ht, hqq1, hqq2, hlen, hge, hres, hbox, hFN, hH, rfl, rfl, hl38, f1, f4, f5, f7⟩
    obtain ⟨V, hV, hT⟩ := frame_lit hl38; replace hT : _ = ([V 0, V 1, V 2, V 3, V 4, V 5, V 6, V 7, V 8, V 9, V 10, V 11, V 12, V 13, V 14, V 15, V 16, V 17, V 18, V 19, V 20, V 21, V 22, V 23, V 24, V 25, V 26, V 27, V 28, V 29, V 30, V 31, V 32, V 33, V 34, V 35, V 36, V 37] : List Value) := hT; rw [hV] at f1 f4 f5 f7; subst hT; simp only [f1, f4, f5, f7]; clear hV hl38
    by_cases hlt2 : t < T
    · rcases hH with ⟨rfl, rfl, rfl⟩ | ⟨nH, nG, ps, rfl, rfl, hH1, hG1, hHG, ht1, hHr, hGr, hps, hall⟩
      · refine viaF hbox ?_
        (refine At.appE rfl rfl rfl rfl (app_nil_new appT_ss (cells_gap 1 rfl rfl (by decide)) (by decide) (by decide)) (by simp (disch := (first | omega | (simp only [sz] <;> omega) | fail)) only [go_sem]; (try simp only [sz]); unfold VB; omega) fun K hK => ?_; simp (disch := (first | omega | (simp only [sz] <;> omega) | fail)) only [go_sem]; with_reducible refine hK _ _ ?_; clear hK K)
        have hlq := (List.getElem?_eq_some_iff.1 hbox).1
        refine viaF hbox ?_
        refine At.named fun l2 hl2 => ?_
        have hn2 := named_len hl2
        have hb2 := named_eq hl2 hlq
        have hlq2 : q + 1 < l2.length := by omega
        refine viaF hb2 ?_
        (refine At.appE rfl rfl rfl rfl (app_nil_new appT_ss (cells_gap 3 rfl rfl (by decide)) (by decide) (by decide)) (by simp (disch := (first | omega | (simp only [sz] <;> omega) | fail)) only [go_sem]; (try simp only [sz]); unfold VB; omega) fun K hK => ?_; simp (disch := (first | omega | (simp only [sz] <;> omega) | fail)) only [go_sem]; with_reducible refine hK _ _ ?_; clear hK K)
        refine viaF hb2 ?_
        refine Goes.named fun l4 hl4 => ?_
        have hn4 := named_len hl4
        refine Goes.folds (by omega) fun l5 hl5 hge5 hrow5 => ?_
        simp only [List.length_cons, List.length_nil] at hl5
        refine ih _ _ _ _ (by omega) ⟨1, _, l5, some ⟨qq + 2, 0, none⟩, some ⟨qq + 4, 0, none⟩, rfl, by omega, by simp only [List.length_cons, List.length_nil]; omega, by simp only [List.length_cons, List.length_nil]; omega, by simp only [List.length_cons, List.length_nil]; omega, Ge.trans (by rw [hl4, hl2]; exact (hge.set (by omega)).set (by omega)) hge5, hge5 _ _ (named_ne hl4 (named_ne hl2 hres (by omega)) (by omega)), hge5 _ _ (named_eq hl4 hlq2), ?_, .inr ⟨qq + 2, qq + 4, [(some ⟨qq, 0, none⟩, 2)], rfl, rfl, by omega, by omega, by omega, by omega, hrow5 2, hrow5 4, rfl, fun jj pp hj => ?_⟩, rfl, rfl, rfl, rfl, rfl, rfl, rfl⟩
        · refine IsN.ge ?_ hge5
          rw [hl4, hl2]
          refine IsN.set ?_ (by rw [← hl2]; exact hb2) (by simp)
          exact hFN.set hbox (by simp)
        · match jj, hj with
          | 0, hj =>
            simp only [List.getElem?_cons_zero, Option.some.injEq] at hj
            subst hj
            exact ⟨rfl, .inr ⟨qq, some 0, rfl, by omega, hrow5 0⟩⟩
          | jj + 1, hj => simp at hj
      · have hHl := (List.getElem?_eq_some_iff.1 hHr).1
        have hGl := (List.getElem?_eq_some_iff.1 hGr).1
        have hlq := (List.getElem?_eq_some_iff.1 hbox).1
        have hHg : (heapJ lf qq [some { cells := [.int .i64 0, .int .i64 0], elem := 3, grow := some 0 }, some { cells := [.slice (some ⟨qq, 0, none⟩) 2 2], elem := 70, grow := some 0 }]).get nH = some ⟨rowS ps, 70, false, some 1⟩ := by
          rw [gap_lo (by omega), hHr]; rfl
        refine viaF hbox ?_
        (refine At.appE rfl rfl rfl rfl (app_grow appT_ss hHg rfl rfl (by rw [rowS_len]; omega) (cells_gap 1 rfl rfl (by decide)) rfl (by decide) (by omega)) (by simp (disch := (first | omega | (simp only [sz] <;> omega) | fail)) only [go_sem]; (try simp only [sz]); unfold VB; omega) fun K hK => ?_; simp (disch := (first | omega | (simp only [sz] <;> omega) | fail)) only [go_sem]; with_reducible refine hK _ _ ?_; clear hK K)
        refine At.named fun l1 hl1 => ?_
        have hn1 := named_len hl1
        have hb1 := named_ne hl1 hbox (by omega)
        have hlq1 : q + 1 < l1.length := by omega
        refine viaF hb1 ?_
        refine At.named fun l2 hl2 => ?_
        have hn2 := named_len hl2
        have hb2 := named_eq hl2 hlq1
        have hG2 := named_ne hl2 (named_ne hl1 hGr hHG) (by omega)
        have hlq2 : q + 1 < l2.length := by omega
        refine viaF hb2 ?_
        have hGl2 : nG < l2.length := by omega
        have hGg : (heapJ l2 qq [some { cells := [.int .i64 0, .int .i64 0], elem := 3, grow := some 0 }, some { cells := [.slice (some ⟨qq, 0, none⟩) 2 2], elem := 70, grow := some 0 }, some { cells := rowS ps ++ [.slice (some ⟨qq, 0, none⟩) 2 2], elem := 70, grow := some 1 }, some { cells := [.slice none 0 0], elem := 70, grow := some 0 }]).get nG = some ⟨rowS (List.replicate t (none, 0)), 70, false, some 1⟩ := by
          rw [gap_lo (by omega), hG2]; rfl
        (refine At.appE rfl rfl rfl rfl (app_grow appT_ss hGg rfl rfl (by rw [rowS_len, List.length_replicate]; omega) (cells_gap 3 rfl rfl (by decide)) rfl (by decide) (by omega)) (by simp (disch := (first | omega | (simp only [sz] <;> omega) | fail)) only [go_sem]; (try simp only [sz]); unfold VB; omega) fun K hK => ?_; simp (disch := (first | omega | (simp only [sz] <;> omega) | fail)) only [go_sem]; with_reducible refine hK _ _ ?_; clear hK K)
        refine At.named fun l3 hl3 => ?_
        have hn3 := named_len hl3
        have hb3 := named_ne hl3 hb2 (by omega)
        have hlq3 : q + 1 < l3.length := by omega
        refine viaF hb3 ?_
        refine Goes.named fun l4 hl4 => ?_
        have hn4 := named_len hl4
        refine Goes.folds (by omega) fun l5 hl5 hge5 hrow5 => ?_
        simp only [List.length_cons, List.length_nil] at hl5
        have hkeep : ∀ (n : Nat) (b : Blk), n ≠ nH → n ≠ q + 1 → n ≠ nG → lf[n]? = some (some b) → l5[n]? = some (some b) := fun n b k1 k2 k3 h => hge5 n b (named_ne hl4 (named_ne hl3 (named_ne hl2 (named_ne hl1 h (fun e => k1 e.symm)) (fun e => k2 e.symm)) (fun e => k3 e.symm)) (fun e => k2 e.symm))
        have hint : ∀ (a : Option Addr) (m : Nat) (xs : List Int), IsN lf a m xs → IsN l5 a m xs := fun a m xs h => by
          obtain ⟨h0, h | ⟨n, g, h1, h3, h2⟩⟩ := h
          · exact ⟨h0, .inl h⟩
          · refine ⟨h0, .inr ⟨n, g, h1, by omega, hkeep n _ (fun e => ?_) (fun e => ?_) (fun e => ?_) h2⟩⟩
            · rw [e, hHr] at h2; simp at h2
            · rw [e, hbox] at h2; simp at h2
            · rw [e, hGr] at h2; simp at h2
        refine ih _ _ _ _ (by omega) ⟨t + 1, _, l5, some ⟨qq + 2, 0, none⟩, some ⟨qq + 4, 0, none⟩, rfl, by omega, by simp only [List.length_cons, List.length_nil]; omega, by simp only [List.length_cons, List.length_nil]; omega, by simp only [List.length_cons, List.length_nil]; omega, Ge.trans (by rw [hl4, hl3, hl2, hl1]; exact (((hge.set (by omega)).set (by omega)).set (by omega)).set (by omega)) hge5, hkeep _ _ (by omega) (by omega) (by omega) hres, hge5 _ _ (named_eq hl4 hlq3), hint _ _ _ hFN, .inr ⟨qq + 2, qq + 4, ps ++ [(some ⟨qq, 0, none⟩, 2)], rfl, rfl, by omega, by omega, by omega, by omega, by rw [← rowS_app]; exact hrow5 2, by rw [List.replicate_succ', ← rowS_app]; exact hrow5 4, by simp [hps], fun jj pp hj => ?_⟩, rfl, rfl, rfl, rfl, rfl, rfl, rfl⟩
        by_cases hjt : jj < ps.length
        · rw [List.getElem?_append_left hjt] at hj
          exact hint _ _ _ (hall jj pp hj)
        · rw [List.getElem?_append_right (by omega)] at hj
          match hk : jj - ps.length, hj with
          | 0, hj =>
            simp only [List.getElem?_cons_zero, Option.some.injEq] at hj
            subst hj
            exact ⟨rfl, .inr ⟨qq, some 0, rfl, by omega, hrow5 0⟩⟩
          | k + 1, hj => simp at hj
    · obtain rfl : t = T := by omega
      have hlqr := (List.getElem?_eq_some_iff.1 hres).1
      refine viaF (And.intro hbox hres) ?_
      refine Goes.named fun l2 hl2 => ?_
      have hr2 := named_eq hl2 hlqr
      rcases hH with ⟨h0, _⟩ | ⟨nH, nG, ps, rfl, rfl, hH1, hG1, hHG, ht1, hHr, hGr, hps, hall⟩
      · omega
      have hFF : IsN l2 aF M (ints (upto 1 M).reverse) := by rw [hl2]; exact hFN.set hres (by simp)
      have hHH : IsNN l2 (some ⟨nH, 0, none⟩) (hzs (fun _ _ => 0) t) := by
        rw [hl2]
        refine IsNN.set ⟨nH, some 1, ps, rfl, (List.getElem?_eq_some_iff.1 hHr).1, hHr, by rw [hzs_len]; exact hps, fun jj pp xs hj hx => ?_⟩ hres (by simp) (by simp)
        have hjl := (List.getElem?_eq_some_iff.1 hj).1
        rw [hzs_get _ (by omega)] at hx
        cases hx
        exact hall jj pp hj
      have hGG : IsNN l2 (some ⟨nG, 0, none⟩) (List.replicate t []) := by
        rw [hl2]
        refine IsNN.set ⟨nG, some 1, List.replicate t (none, 0), rfl, (List.getElem?_eq_some_iff.1 hGr).1, hGr, by simp, fun jj pp xs hj hx => ?_⟩ hres (by simp) (by simp)
        rw [List.getElem?_replicate] at hj hx
        split at hj
        · rename_i h
          rw [if_pos h] at hx
          cases hj; cases hx
          exact ⟨rfl, .inl ⟨rfl, rfl⟩⟩
        · cases hj
      have hge2 : Ge l l2 := by rw [hl2]; exact hge.set (by omega)
      have hn2 := named_len hl2
      have hle2 : l2.length ≤ qq := by omega
      by_cases hl0 : l = []
      · refine Goes.clean S2.length hle2 ?_
        have hr3 := cleanL_get (q := qq) (c := S2.length) hr2 ⟨rfl, fun u hu => by
          simp only [List.mem_cons, List.not_mem_nil, or_false] at hu
          rcases hu with rfl | rfl | rfl | rfl
          · exact nclo hFF hle2
          · exact nnclo hHH hle2
          · exact nnclo hGG hle2
          · exact Clo.plain rfl⟩
        refine Goes.finD rfl (by simp (disch := (first | omega | (simp only [heapL_next, List.length_cons, List.length_nil, List.size_toArray, geo_len] <;> omega) | fail)) only [go_sem, resA, res1A, Try.results41, hr3] <;> rfl) ?_
        exact ⟨rfl, _, qq, aF, some ⟨nH, 0, none⟩, some ⟨nG, 0, none⟩, rfl, rfl, by rw [hl0]; intro n b hb; simp at hb, by rw [cleanL_len]; exact hle2, by omega, by omega, hFF.clean, hHH.clean hle2, hGG.clean hle2, fun _ n b hb => (cleanL_ok hb).1⟩
      · refine Goes.finD rfl (by simp (disch := (first | omega | (simp only [heapL_next, List.length_cons, List.length_nil, List.size_toArray, geo_len] <;> omega) | fail)) only [go_sem, resA, res1A, Try.results41, hr2] <;> rfl) ?_
        exact ⟨rfl, l2, qq, aF, some ⟨nH, 0, none⟩, some ⟨nG, 0, none⟩, rfl, rfl, hge2, hle2, by omega, by omega, hFF, hHH, hGG, fun e => absurd e hl0⟩
theorem rnew_fresh (S : St) {T M : Nat} (hT1 : 1 ≤ T) (hT : T ≤ 64) (hM : M ≤ 1000) : ∃ (l : List (Option Blk)) (q : Nat) (aF aH aG : Option Addr), l.length ≤ q ∧ q ≤ 20000 ∧ IsN l aF M (ints (upto 1 M).reverse) ∧ IsNN l aH (hzs (fun _ _ => 0) T) ∧ IsNN l aG (List.replicate T []) ∧ DoesN OF 41 #[.int .i64 M, .int .i64 T] S (plV aF M aH aG T M) l q S := by
  obtain ⟨v, hh, S1, ⟨rfl, l, q, aF, aH, aG, rfl, rfl, _, hl, _, hq, hF, hH, hG, hok⟩, hd⟩ := rnew_does S (l := []) (q := 0) (T := T) (M := M) (by simp) (by decide) hT1 hT hM
  exact ⟨l, q, aF, aH, aG, hl, by omega, hF, hH, hG, hd, fun n b hb => ⟨by have := (List.getElem?_eq_some_iff.1 hb).1; omega, hok rfl n b hb⟩, plV_clo hF hH hG hl, clo2 iclo iclo⟩
end Go.Proofs.Ytceddijolfpppaa
namespace Go.Proofs.Ytceddijolfpppaa
open Go Go.RowKit
set_option linter.unusedSimpArgs false
set_option linter.unusedVariables false
structure Act8 where
  d : Nat
  t : Nat
  s : Int
  x : Int
def a8C (x : Act8) : List Value := [.int .u8 x.d, .int .u8 x.t, .int .i64 x.s, .int .i64 x.x]
theorem a8C_len (x : Act8) : (a8C x).length = 4 := rfl
theorem a8C_plain (x : Act8) : ∀ v ∈ a8C x, plainB v = true := by simp [a8C, plainB]
def Bd8 (y : Act8) : Prop := y.d ≤ 255 ∧ y.t ≤ 255 ∧ (-9223372036854775808 ≤ y.s ∧ y.s ≤ 9223372036854775807) ∧ -9223372036854775808 ≤ y.x ∧ y.x ≤ 9223372036854775807
def gns (G : Nat → List Nat) (T : Nat) : List (List Int) := (List.range T).map fun t => ints (G t)
theorem gns_get (G : Nat → List Nat) {T t : Nat} (h : t < T) : (gns G T)[t]? = some (ints (G t)) := by
  unfold gns; rw [List.getElem?_map, List.getElem?_range h]; rfl
theorem gns_len (G : Nat → List Nat) (T : Nat) : (gns G T).length = T := by simp [gns]
theorem gns_up (G : Nat → List Nat) {T t : Nat} {L : List Nat} : (gns G T).set t (ints L) = gns (upG G t L) T := by
  refine List.ext_getElem? fun j => ?_
  by_cases e : t = j
  · subst e
    by_cases h : t < T
    · rw [List.getElem?_set_self (by rw [gns_len]; exact h), gns_get _ h, upG_eq]
    · rw [List.getElem?_eq_none (by rw [List.length_set, gns_len]; omega), List.getElem?_eq_none (by rw [gns_len]; omega)]
  · rw [List.getElem?_set_ne e]
    unfold gns
    rw [List.getElem?_map, List.getElem?_map]
    cases h : (List.range T)[j]? with
    | none => rfl
    | some y =>
      have hy : y = j := by
        have h2 := (List.getElem?_eq_some_iff.1 h).1
        rw [List.length_range] at h2
        rw [List.getElem?_range h2] at h; cases h; rfl
      subst hy
      simp only [Option.map_some]
      rw [upG_ne (fun e2 => e e2.symm)]
theorem hzs_up (H : Nat → Nat → Nat) {T t s x : Nat} (hs : s < 2) : (hzs H T).set t ([(H t 0 : Int), (H t 1 : Int)].set s (x : Int)) = hzs (upH H t s x) T := by
  refine List.ext_getElem? fun j => ?_
  by_cases e : t = j
  · subst e
    by_cases h : t < T
    · rw [List.getElem?_set_self (by rw [hzs_len]; exact h), hzs_get _ h]
      unfold upH
      obtain rfl | rfl : s = 0 ∨ s = 1 := by omega
      · simp
      · simp
    · rw [List.getElem?_eq_none (by rw [List.length_set, hzs_len]; omega), List.getElem?_eq_none (by rw [hzs_len]; omega)]
  · rw [List.getElem?_set_ne e]
    by_cases h : j < T
    · rw [hzs_get _ h, hzs_get _ h]
      unfold upH
      rw [if_neg (by omega), if_neg (by omega)]
    · rw [List.getElem?_eq_none (by rw [hzs_len]; omega), List.getElem?_eq_none (by rw [hzs_len]; omega)]
theorem gb19_small {N T : Nat} (h1 : 1 ≤ N) (h2 : N ≤ 3) (h3 : 1 ≤ T) (h4 : T ≤ 4) : gb N T 19 ≤ 2097152 := by
  obtain rfl | rfl | rfl : N = 1 ∨ N = 2 ∨ N = 3 := by omega
  all_goals
    obtain rfl | rfl | rfl | rfl : T = 1 ∨ T = 2 ∨ T = 3 ∨ T = 4 := by omega
    all_goals decide
theorem gM_small {N T : Nat} (h2 : N ≤ 3) (h4 : T ≤ 4) : gM N T ≤ 108 := by
  have e1 : T * 4 * (N + 1) ≤ 4 * 4 * 4 := Nat.mul_le_mul (by omega) (by omega)
  have e2 : T * (2 * T + 3) ≤ 4 * 11 := Nat.mul_le_mul h4 (by omega)
  unfold gM; omega
def IsO (l : List (Option Blk)) (a : Option Addr) (out : List Nat) : Prop :=
  (out = [] ∧ (a = none ∨ ∃ n, a = some ⟨n, 0, none⟩ ∧ l[n]? = some (some ⟨[], 3, false, some 0⟩))) ∨ ∃ n, a = some ⟨n, 0, none⟩ ∧ out ≠ [] ∧ l[n]? = some (some ⟨numRow .i64 (ints out), 3, false, some 1⟩)
theorem IsO.ge {l l' : List (Option Blk)} {a : Option Addr} {out : List Nat} (h : IsO l a out) (hg : Ge l l') : IsO l' a out := by
  rcases h with ⟨h1, h2 | ⟨n, h2, h3⟩⟩ | ⟨n, h1, h2, h3⟩
  · exact .inl ⟨h1, .inl h2⟩
  · exact .inl ⟨h1, .inr ⟨n, h2, hg _ _ h3⟩⟩
  · exact .inr ⟨n, h1, h2, hg _ _ h3⟩
theorem IsO.set {l : List (Option Blk)} {a : Option Addr} {out : List Nat} {q : Nat} {b : Option Blk} {b0 : Blk} (h : IsO l a out) (hq : l[q]? = some (some b0)) (he : b0.elem ≠ 3) : IsO (l.set q b) a out := by
  rcases h with ⟨h1, h2 | ⟨n, h2, h3⟩⟩ | ⟨n, h1, h2, h3⟩
  · exact .inl ⟨h1, .inl h2⟩
  · exact .inl ⟨h1, .inr ⟨n, h2, set_at hq h3 he⟩⟩
  · exact .inr ⟨n, h1, h2, set_at hq h3 he⟩
theorem IsO.isN {l : List (Option Blk)} {a : Option Addr} {out : List Nat} (h : IsO l a out) : IsN l a out.length (ints out) := by
  rcases h with ⟨rfl, rfl | ⟨n, rfl, h3⟩⟩ | ⟨n, rfl, h2, h3⟩
  · exact ⟨rfl, .inl ⟨rfl, rfl⟩⟩
  · exact ⟨rfl, .inr ⟨n, some 0, rfl, (List.getElem?_eq_some_iff.1 h3).1, h3⟩⟩
  · exact ⟨(ints_len out).symm, .inr ⟨n, some 1, rfl, (List.getElem?_eq_some_iff.1 h3).1, h3⟩⟩
def Off (ao : Option Addr) (a : Option Addr) : Prop := a = none ∨ a ≠ ao
theorem IsNN.off {l : List (Option Blk)} {a : Option Addr} {xss : List (List Int)} {m : Nat} (h : IsNN l a xss) (hm : l.length ≤ m) : Inner l a (Off (some ⟨m, 0, none⟩)) := by
  obtain ⟨n, g, ps, rfl, hn, hb, hp, hall⟩ := h
  refine Inner.mk hb fun p hpm => ?_
  obtain ⟨j, hj⟩ := List.getElem?_of_mem hpm
  have hjl := (List.getElem?_eq_some_iff.1 hj).1
  exact .inr ((hall j p _ hj (List.getElem?_eq_getElem (by omega))).ne hm)
theorem numRow_inj : ∀ {L L' : List Int}, numRow .i64 L = numRow .i64 L' → L = L'
  | [], [], _ => rfl
  | [], _ :: _, h => by simp [numRow] at h
  | _ :: _, [], h => by simp [numRow] at h
  | x :: L, y :: L', h => by
    simp only [numRow, List.map_cons, List.cons.injEq, Value.int.injEq, true_and] at h
    rw [h.1, numRow_inj (L := L) (L' := L') h.2]
structure PlayI (N T bx Bq Bv : Nat) (ob : Option Blk) (qq : Nat) (lf : List (Option Blk)) (aF aH aG ao : Option Addr) (nF : Nat) (ws : List UInt64) (W : Nat → Nat → UInt64) (free out : List Nat) (ver : Nat) (H : Nat → Nat → Nat) (G : Nat → List Nat) : Prop where
  bx2 : 2 ≤ bx
  q2 : qq ≤ Bq
  len : lf.length ≤ qq
  row : ∀ b, ob = some b → lf[0]? = some (some b)
  geo : lf[1]? = some (some { cells := (geoC N T).toList, elem := 26 })
  box : lf[bx]? = some (some { cells := [.slice aF nF nF, .slice aH T T, .slice aG T T, .int .i64 (gM N T)], elem := 73 })
  fr : IsN lf aF nF (ints free.reverse)
  hz : IsNN lf aH (hzs H T)
  gn : IsNN lf aG (gns G T)
  ou : IsO lf ao out
  oa : Inner lf aH (Off ao)
  wd : Wd N T ws W
  pl : Pl N T W free ver H G T
  glen : ∀ t, t < T → (G t).length ≤ 2 * T
  nd : (free ++ flat T G ++ out).Nodup
  rng : ∀ x ∈ out, 1 ≤ x ∧ x ≤ gM N T
  ver : ver ≤ Bv
theorem IsN.killC {l : List (Option Blk)} {a : Option Addr} {i m : Nat} {xs ys : List Int} {g : Option Nat} {b : Option Blk} (h : IsN l a i xs) (hm : l[m]? = some (some ⟨numRow .i64 ys, 3, false, g⟩)) (hne : xs ≠ ys) : IsN (l.set m b) a i xs := by
  refine h.kill fun e => ?_
  obtain ⟨_, ⟨h1, _⟩ | ⟨n, g2, h1, _, h3⟩⟩ := h
  · rw [h1] at e; cases e
  · rw [h1] at e; cases e
    rw [h3] at hm
    simp only [Option.some.injEq, Blk.mk.injEq] at hm
    exact hne (numRow_inj hm.1)
section
variable {N T bx Bq Bv Bq' Bv' : Nat} {ob : Option Blk} {qq q' : Nat} {lf lf' : List (Option Blk)} {aF aH aG ao aF' aH' aG' ao' : Option Addr} {nF nF' : Nat} {ws ws' : List UInt64} {W W' : Nat → Nat → UInt64} {free out free' out' : List Nat} {ver ver' : Nat} {H H' : Nat → Nat → Nat} {G G' : Nat → List Nat}
theorem PlayI.ge (h : PlayI N T bx Bq Bv ob qq lf aF aH aG ao nF ws W free out ver H G) (hge : Ge lf lf') (hl' : lf'.length ≤ q') (hq' : q' ≤ Bq') (hv : Bv ≤ Bv') : PlayI N T bx Bq' Bv' ob q' lf' aF aH aG ao nF ws W free out ver H G :=
  ⟨h.bx2, hq', hl', fun b hb => hge _ _ (h.row b hb), hge _ _ h.geo, hge _ _ h.box, h.fr.ge hge, h.hz.ge hge, h.gn.ge hge, h.ou.ge hge, Inner.ge h.hz h.oa hge, h.wd, h.pl, h.glen, h.nd, h.rng, Nat.le_trans h.ver hv⟩
theorem PlayI.act (h : PlayI N T bx Bq Bv ob qq lf aF aH aG ao nF ws W free out ver H G) (hge : Ge lf lf') (hl' : lf'.length ≤ q') (hq' : q' ≤ Bq') (hF : IsN lf' aF' nF' (ints free'.reverse)) (hH : IsNN lf' aH' (hzs H' T)) (hG : IsNN lf' aG' (gns G' T)) (hO : IsO lf' ao' out') (hA : Inner lf' aH' (Off ao'))
    (hW : Wd N T ws' W') (hP : Pl N T W' free' ver' H' G' T) (hgl : ∀ t, t < T → (G' t).length ≤ 2 * T) (hnd : (free' ++ flat T G' ++ out').Nodup) (hrng : ∀ x ∈ out', 1 ≤ x ∧ x ≤ gM N T) (hver : ver' ≤ Bv') :
    PlayI N T bx Bq' Bv' ob q' (lf'.set bx (some { cells := [.slice aF' nF' nF', .slice aH' T T, .slice aG' T T, .int .i64 (gM N T)], elem := 73 })) aF' aH' aG' ao' nF' ws' W' free' out' ver' H' G' := by
  have hb := hge _ _ h.box
  have hbx := h.bx2
  have hl := (List.getElem?_eq_some_iff.1 hb).1
  refine ⟨hbx, hq', by rw [List.length_set]; exact hl', fun b hb' => ?_, ?_, ?_, hF.set hb (by simp), hH.set hb (by simp) (by simp), hG.set hb (by simp) (by simp), hO.set hb (by simp), Inner.set hH hA hb (by simp), hW, hP, hgl, hnd, hrng, hver⟩
  · rw [List.getElem?_set_ne (by omega)]; exact hge _ _ (h.row b hb')
  · rw [List.getElem?_set_ne (by omega)]; exact hge _ _ h.geo
  · rw [List.getElem?_set_self hl]
theorem PlayI.drop (h : PlayI N T bx Bq Bv ob qq lf aF aH aG ao nF ws W free out ver H G) : PlayI N T bx Bq Bv ob qq lf aF aH aG none nF ws W free [] ver H G :=
  ⟨h.bx2, h.q2, h.len, h.row, h.geo, h.box, h.fr, h.hz, h.gn, .inl ⟨rfl, .inl rfl⟩, fun n g ps _ _ p _ => by
    by_cases e : p.1 = none
    · exact .inl e
    · exact .inr e, h.wd, h.pl, h.glen, by rw [List.append_nil]; exact h.nd.sublist (List.sublist_append_left _ _), fun x hx => (by cases hx), h.ver⟩
theorem PlayI.gone {no : Nat} (h : PlayI N T bx Bq Bv ob qq lf aF aH aG (some ⟨no, 0, none⟩) nF ws W free out ver H G) (hne : out ≠ []) (hbl : ∀ b, ob = some b → b.ro = true) : PlayI N T bx Bq Bv ob qq (lf.set no none) aF aH aG none nF ws W free [] ver H G := by
  have hd := h.drop
  have hro : lf[no]? = some (some ⟨numRow .i64 (ints out), 3, false, some 1⟩) := by
    rcases h.ou with ⟨h1, _⟩ | ⟨n, h1, _, h3⟩
    · exact absurd h1 hne
    · cases h1; exact h3
  have hnd := h.nd
  rw [List.append_assoc] at hnd
  obtain ⟨x, hx⟩ : ∃ x, x ∈ out := List.exists_mem_of_ne_nil _ hne
  have hints : ∀ L : List Nat, x ∉ L → ints L ≠ ints out := fun L hL e => by
    have : (x : Int) ∈ ints out := List.mem_map.2 ⟨x, hx, rfl⟩
    rw [← e] at this
    obtain ⟨y, hy, e2⟩ := List.mem_map.1 this
    exact hL (by rw [show x = y by omega]; exact hy)
  have hdis := List.nodup_append.1 h.nd
  have hxf : x ∉ free ++ flat T G := fun hm => hdis.2.2 x hm x hx rfl
  obtain ⟨nH, gH, pH, eH, hnH, hbH, hpH, hallH⟩ := h.hz
  obtain ⟨nG, gG, pG, eG, hnG, hbG, hpG, hallG⟩ := h.gn
  refine ⟨h.bx2, h.q2, by rw [List.length_set]; exact h.len, fun b hb => by
    have h0 := h.row b hb
    have hz : no ≠ 0 := by
      rintro rfl
      rw [hro] at h0
      simp only [Option.some.injEq] at h0
      subst h0
      have := hbl _ hb
      cases this
    rw [List.getElem?_set_ne hz]; exact h0, set_at hro h.geo (by simp), set_at hro h.box (by simp), h.fr.killC hro (hints _ fun hm => hxf (List.mem_append.2 (.inl (List.mem_reverse.1 hm)))), ?_, ?_, .inl ⟨rfl, .inl rfl⟩, ?_, h.wd, h.pl, h.glen, hd.nd, hd.rng, h.ver⟩
  · refine ⟨nH, gH, pH, eH, by rw [List.length_set]; exact hnH, set_at hro hbH (by simp), hpH, fun j p xs hj hx => ?_⟩
    have h1 := hallH j p xs hj hx
    have h2 := h.oa nH gH pH eH hbH p (List.mem_of_getElem? hj)
    refine h1.kill fun e => ?_
    rcases h2 with h2 | h2
    · rw [h2] at e; cases e
    · exact h2 e
  · refine ⟨nG, gG, pG, eG, by rw [List.length_set]; exact hnG, set_at hro hbG (by simp), hpG, fun j p xs hj hx2 => ?_⟩
    have hjT : j < T := by have := (List.getElem?_eq_some_iff.1 hx2).1; rwa [gns_len] at this
    rw [gns_get _ hjT] at hx2
    cases hx2
    exact (hallG j p _ hj (gns_get _ hjT)).killC hro (hints _ fun hm => hxf (List.mem_append.2 (.inr (mem_flat hjT hm))))
  · intro n g ps e hb p hp
    by_cases e : p.1 = none
    · exact .inl e
    · exact .inr e
theorem PlayI.outs {no : Nat} (h : PlayI N T bx Bq Bv ob qq lf aF aH aG ao nF ws W free [] ver H G) (hge : Ge lf lf') (hl' : lf'.length ≤ q') (hq' : q' ≤ Bq') (hno : lf.length ≤ no) (hO : IsO lf' (some ⟨no, 0, none⟩) out') (hnd : (free ++ flat T G ++ out').Nodup) (hrng : ∀ x ∈ out', 1 ≤ x ∧ x ≤ gM N T) :
    PlayI N T bx Bq' Bv ob q' lf' aF aH aG (some ⟨no, 0, none⟩) nF ws W free out' ver H G :=
  ⟨h.bx2, hq', hl', fun b hb => hge _ _ (h.row b hb), hge _ _ h.geo, hge _ _ h.box, h.fr.ge hge, h.hz.ge hge, h.gn.ge hge, hO, Inner.ge h.hz (h.hz.off hno) hge, h.wd, h.pl, h.glen, hnd, hrng, h.ver⟩
end
theorem all_le {M : Nat} {A : List Nat} (hn : A.Nodup) (h : ∀ x ∈ A, 1 ≤ x ∧ x ≤ M) : A.length ≤ M := by
  have := nodup_le (m := upto 1 M) hn fun x hx => by
    have := h x hx
    unfold upto; rw [List.mem_range'_1]; omega
  rwa [upto_len, Nat.add_sub_cancel] at this
theorem share {α : Type} {P : α → Prop} {Q : Prop} {T : α} (h2 : P T → Q) (h1 : P T) : Q := h2 h1
def HasAt (out : List Nat) (v : Int) (k : Nat) (hs : Int) : Prop := (hs = -1 ∧ ∀ j y, j < k → out[j]? = some y → (y : Int) ≠ v) ∨ ∃ j y, j < k ∧ hs = (j : Nat) ∧ out[j]? = some y ∧ (y : Int) = v
theorem cut_at {L : List Nat} {j x : Nat} (h : L[j]? = some x) : L = L.take j ++ x :: L.drop (j + 1) := by
  rw [← drop_one h, List.take_append_drop]
theorem cut_nd {A L : List Nat} {j x : Nat} (h : L[j]? = some x) (hn : (A ++ L).Nodup) : (x :: (A ++ (L.take j ++ L.drop (j + 1)))).Nodup := by
  have p : (A ++ L).Perm (x :: (A ++ (L.take j ++ L.drop (j + 1)))) := by
    conv => lhs; rw [cut_at h]
    exact (List.perm_middle.append_left A).trans List.perm_middle
  exact p.nodup_iff.1 hn
theorem cut_mem {L : List Nat} {j y : Nat} (h : y ∈ L.take j ++ L.drop (j + 1)) : y ∈ L := by
  rcases List.mem_append.1 h with h | h
  · exact List.mem_of_mem_take h
  · exact List.mem_of_mem_drop h
theorem split_perm {p : Nat → Bool} {L free rest : List Nat} : ((L.filter fun x => !p x).reverse ++ free ++ (L.filter p ++ rest)).Perm (free ++ (L ++ rest)) := by
  have h1 : (L.filter p ++ L.filter fun x => !p x).Perm L := List.filter_append_perm p L
  have h2 : ((L.filter fun x => !p x).reverse ++ (L.filter p)).Perm L := ((List.reverse_perm _).append_right _).trans (List.perm_append_comm.trans h1)
  have h3 : ((L.filter fun x => !p x).reverse ++ free ++ (L.filter p ++ rest)).Perm (free ++ ((L.filter fun x => !p x).reverse ++ L.filter p ++ rest)) := by
    rw [List.append_assoc, List.append_assoc]
    refine (List.perm_append_comm_assoc _ _ _).trans ?_
    exact List.Perm.refl _
  exact h3.trans ((h2.append_right rest).append_left free)
theorem scan_nd {T t : Nat} {free L out : List Nat} {p : Nat → Bool} {G : Nat → List Nat} (ht : t < T) (h : (free ++ (L ++ flat T (upG G t [])) ++ out).Nodup) : (((L.filter fun x => !p x).reverse ++ free) ++ flat T (upG G t (L.filter p)) ++ out).Nodup := by
  have h1 : (((L.filter fun x => !p x).reverse ++ free) ++ flat T (upG G t (L.filter p))).Perm (free ++ (L ++ flat T (upG G t []))) := ((flat_up ht).append_left _).trans split_perm
  exact (h1.append_right out).nodup_iff.2 h
theorem and15 (z : Int) : ∃ n : Nat, n < 16 ∧ andZ .i64 z 15 = (n : Int) := by
  have h : ∀ u : Nat, u = (BitVec.ofInt IntKind.i64.bits z &&& BitVec.ofInt IntKind.i64.bits 15).toNat → u < 16 := by
    rintro u rfl
    rw [BitVec.toNat_and]
    exact Nat.lt_of_le_of_lt Nat.and_le_right (by decide)
  refine ⟨_, h _ rfl, ?_⟩
  have h2 := h _ rfl
  exact wrap_i64 (by omega) (by omega)
theorem acq_nd {A B out : List Nat} {y : Nat} (h : ((y :: A) ++ B ++ out).Nodup) : (A ++ B ++ (out ++ [y])).Nodup := by
  rw [← List.append_assoc]
  exact (List.perm_append_comm (l₁ := A ++ B ++ out) (l₂ := [y])).nodup_iff.2 h
theorem ret_nd {T t y : Nat} {free out : List Nat} {G : Nat → List Nat} (ht : t < T) (h : (y :: (free ++ flat T G ++ out)).Nodup) : (free ++ ((G t ++ [y]) ++ flat T (upG G t [])) ++ out).Nodup := by
  have p1 : (free ++ ((G t ++ [y]) ++ flat T (upG G t []))).Perm (y :: (free ++ flat T G)) := by
    have p2 : ((G t ++ [y]) ++ flat T (upG G t [])).Perm (y :: flat T G) := by
      rw [List.append_assoc]
      exact List.perm_middle.trans ((flat_at ht).symm.cons y)
    exact (p2.append_left free).trans List.perm_middle
  exact (p1.append_right out).nodup_iff.2 h
theorem sc_nd {T t : Nat} {free out : List Nat} {G : Nat → List Nat} (ht : t < T) (h : (free ++ flat T G ++ out).Nodup) : (free ++ (G t ++ flat T (upG G t [])) ++ out).Nodup :=
  (((flat_at ht).append_left free).append_right out).nodup_iff.1 h
theorem mid_nd {A L B C : List Nat} (h : (A ++ (L ++ B) ++ C).Nodup) : L.Nodup := (List.nodup_append.1 (List.nodup_append.1 (List.nodup_append.1 h).1).2.1).1
theorem up_nd {T t : Nat} {free out L : List Nat} {G : Nat → List Nat} (ht : t < T) (h : (free ++ (L ++ flat T (upG G t [])) ++ out).Nodup) : (free ++ flat T (upG G t L) ++ out).Nodup :=
  (((flat_up ht).append_left free).append_right out).nodup_iff.2 h
theorem ver_ne {L free : List Nat} {ver : Nat} (h : (L.reverse ++ free).headD 0 ≠ free.headD 0) : ver + L.length ≠ ver := fun e => by
  obtain rfl : L = [] := List.eq_nil_of_length_eq_zero (by omega)
  exact h rfl
theorem up_glen {T t : Nat} {K : List Nat} {G : Nat → List Nat} (h : ∀ t, t < T → (G t).length ≤ 2 * T) (hK : K.length ≤ 2 * T) : ∀ t', t' < T → (upG G t K t').length ≤ 2 * T := fun t' ht' => by
  unfold upG; split
  · exact hK
  · exact h t' ht'
theorem free_rev {L : List Nat} {free : List Nat} : ints free.reverse ++ ints L = ints (L.reverse ++ free).reverse := by
  rw [List.reverse_append, List.reverse_reverse, ints_app]
theorem head13 {N T : Nat} (hN : 1 ≤ N) (hT : 1 ≤ T) : ∃ a : Nat, a < gb N T 19 ∧ gat N T 13 ((0 * 4 + 0 : Nat) : Int) = (a : Int) := by
  have h0 : 0 * 4 + 0 < gsz N T 13 := by show 0 * 4 + 0 < T * 4; omega
  refine ⟨gb N T 13 + (0 * 4 + 0), ?_, gat_of hN h0⟩
  have h1 : gb N T 14 = gb N T 13 + gsz N T 13 := gb_next hN
  have h2 : gb N T 14 ≤ gb N T 19 := gb_le_of (by decide)
  omega
theorem cells_mid {l ys : List (Option Blk)} {q s n o i c : Nat} {b : Blk} (hl : l.length ≤ q) (hn : n < l.length) (hb : l[n]? = some (some b)) (hlen : o + i * s ≤ b.cells.length) (h0 : i ≠ 0) : cellsA (heapJ l q ys) s (.slice (some ⟨n, o, none⟩) i c) = some ((b.cells.drop o).take (i * s)) := by
  rw [cellsA_row h0 (b := b) (by simp only; rw [gap_lo (by omega), hb]; rfl) rfl (by simp only; omega)]
theorem row_take {out : List Nat} {j : Nat} : (numRow .i64 (ints out)).take (j * 1) = numRow .i64 (ints (out.take j)) := by simp [numRow, ints, List.map_take]
theorem row_drop {out : List Nat} {o n : Nat} (h : n = out.length - o) : ((numRow .i64 (ints out)).drop o).take (n * 1) = numRow .i64 (ints (out.drop o)) := by
  rw [List.take_of_length_le (by simp [numRow, ints]; omega)]
  simp [numRow, ints, List.map_drop]
theorem cut_len {out : List Nat} {j : Nat} (h : j < out.length) : (out.take j ++ out.drop (j + 1)).length = j + (out.length - (j + 1)) := by simp; omega
theorem Goes.at {P : Program} {σ : Type} {X : Face P σ} {fn : Func} {A : Conf σ → Prop} {ops : Array Oper} {k : List Item} {i : Nat} {tmps : List Value} {h : AHeap} {S : σ} (hk : At X fn A ops k i tmps h S) : Goes X fn A (.run (.inRegion ops (List.range' i (ops.size - i)) :: k) tmps h S) := hk
theorem cells_vist {l ys : List (Option Blk)} {q s n i c mask n0 : Nat} {born : List (Nat × Nat)} {b : Blk} (hl : l.length ≤ q) (hn : n < l.length) (hb : l[n]? = some (some b)) (hn0 : n < n0) (hlen : i * s ≤ b.cells.length) (h0 : i ≠ 0) : cellsA (visH n0 born mask (heapJ l q ys)) s (.slice (some ⟨n, 0, none⟩) i c) = some (b.cells.take (i * s)) := by
  rw [cellsA_row h0 (b := { b with ro := true }) (vis_low hn0 (by rw [gap_lo (show n < q by omega), hb]; rfl)) rfl (by simp only; omega), List.drop_zero]
theorem numRow_ren {E : Emb} {k : IntKind} {l : List Int} : (numRow k l).map (ren E) = numRow k l := (List.map_congr_left fun u hu => ren_plain E (numRow_plain u hu)).trans (List.map_id _)
attribute [go_sem] numRow_ren
end Go.Proofs.Ytceddijolfpppaa
