/-
  Layer 10, the plain law: what an allocation and a freeing do to the runs that are taken; when none is taken any more.
  No condition: laws.
-/
import Derived.Test.YtceddijolfpppaaURunsF
import Derived.Test.YtceddijolfpppaaURunsB
import Derived.Test.YtceddijolfpppaaUQuick
namespace Go.Proofs.Ytceddijolfpppaa
open Go Go.RowKit
set_option linter.unusedSimpArgs false
set_option linter.unusedVariables false
theorem us_cut {A C : List Rn} {q f k r : Nat} (hq : q ≠ 1) : (us (A ++ (fr f ++ (q, k) :: (fr r ++ C))) 0).Perm ((tot A + f, k) :: us (A ++ (1, f + k + r) :: C) 0) := by
  have e1 : us (A ++ (fr f ++ (q, k) :: (fr r ++ C))) 0 = us A 0 ++ ((tot A + f, k) :: us C (tot A + (f + k + r))) := by
    rw [us_append, us_append, us_fr, tot_fr]
    simp only [us, hq, if_false, us_append, us_fr, tot_fr, Nat.zero_add, List.nil_append, List.cons_append]
    rw [show tot A + f + k + r = tot A + (f + k + r) by omega]
  have e2 : us (A ++ (1, f + k + r) :: C) 0 = us A 0 ++ us C (tot A + (f + k + r)) := by
    rw [us_append]
    simp only [us, if_true, Nat.zero_add, List.nil_append]
  rw [e1, e2]
  exact List.perm_middle
theorem us_range {L : List Rn} {x p m : Nat} (h : (p, m) ∈ us L x) : x ≤ p ∧ p + m ≤ x + tot L := by
  obtain ⟨A, r, C, rfl, _, h2, h3⟩ := us_mem h
  rw [tot_append]
  simp only [tot]
  omega
theorem us_clear {A C : List Rn} {m y k : Nat} (h1 : tot A ≤ y) (h2 : y + k ≤ tot A + m) : Clear (us (A ++ (1, m) :: C) 0) y k := by
  rw [us_append]
  simp only [us, if_true, Nat.zero_add, List.nil_append]
  rintro ⟨p, q⟩ hr hb
  simp only at hb
  rcases List.mem_append.1 hr with h | h
  · have := us_range h; omega
  · have := us_range h; omega
theorem Pg.ext {N T : Nat} {ws0 ws ws' : List UInt64} {P B : Nat → UInt64} (h : Pg N T ws0 ws P B) (h' : Pg N T ws0 ws' P B) (hN : 1 ≤ N) : ws = ws' := by
  apply List.ext_getElem?
  intro i
  have key : wAt ws i = wAt ws' i := by
    by_cases h1 : ∃ x, x < N ∧ i = 21 + T + x
    · obtain ⟨x, hx, rfl⟩ := h1
      have e1 := h.pg x hx
      have e2 := h'.pg x hx
      rw [gPage_at hN hx] at e1 e2
      have e3 : ((21 + T + x : Nat) : Int) = (21 + T + x : Nat) := rfl
      first | (rw [e1, e2]; done) | (push_cast at *; rw [e1, e2])
    · by_cases h2 : ∃ b, b < 9 ∧ i = 7 + b
      · obtain ⟨b, hb, rfl⟩ := h2
        have e1 := h.bn b hb
        have e2 := h'.bn b hb
        rw [gBin_at hN hb] at e1 e2
        first | (rw [e1, e2]; done) | (push_cast at *; rw [e1, e2])
      · have k1 : ∀ x, x < N → i ≠ 21 + T + x := fun x hx he => h1 ⟨x, hx, he⟩
        have k2 : ∀ b, b < 9 → i ≠ 7 + b := fun b hb he => h2 ⟨b, hb, he⟩
        rw [h.rest i (by first | exact k1 | (intro x hx; have := k1 x hx; omega)) (by first | exact k2 | (intro b hb; have := k2 b hb; omega)), h'.rest i (by first | exact k1 | (intro x hx; have := k1 x hx; omega)) (by first | exact k2 | (intro b hb; have := k2 b hb; omega))]
  have e : ∀ l : List UInt64, wAt l (i : Int) = l[i]? := fun l => by
    unfold wAt
    rw [if_neg (by omega), Int.toNat_natCast]
  rw [e, e] at key
  exact key
def K14 (L : List Rn) : Prop := ∀ r ∈ L, r.1 = 1 ∨ r.1 = 4
theorem K14.append {A C : List Rn} : K14 (A ++ C) ↔ K14 A ∧ K14 C := by
  simp only [K14, List.mem_append]
  exact ⟨fun h => ⟨fun r hr => h r (.inl hr), fun r hr => h r (.inr hr)⟩, fun ⟨h1, h2⟩ r hr => hr.elim (h1 r) (h2 r)⟩
theorem K14.cons {r : Rn} {L : List Rn} : K14 (r :: L) ↔ (r.1 = 1 ∨ r.1 = 4) ∧ K14 L := by simp [K14]
theorem K14.fr (n : Nat) : K14 (fr n) := by
  intro r hr
  cases n with
  | zero => cases hr
  | succ n => simp only [Go.Proofs.Ytceddijolfpppaa.fr, List.mem_singleton] at hr; subst hr; exact .inl rfl
structure Lv (n : Nat) (L : List Rn) (M : List (Nat × Nat)) : Prop where
  ru : Ru n L
  k14 : K14 L
  perm : M.Perm (us L 0)
theorem us_len {L : List Rn} (hp : Pos L) (x : Nat) : (us L x).length ≤ tot L := by
  induction L generalizing x with
  | nil => simp [us]
  | cons r L ih =>
    obtain ⟨h1, h2⟩ := Pos.cons.1 hp
    have := ih h2 (x + r.2)
    simp only [us, tot, List.length_append]
    split <;> simp <;> omega
def Small (M : List (Nat × Nat)) : Prop := M.length ≤ 1000 ∧ ∀ r ∈ M, r.1 ≤ 1000 ∧ r.2 ≤ 1000
theorem Lv.small {n : Nat} {L : List Rn} {M : List (Nat × Nat)} (h : Lv n L M) (hn : n ≤ 64) : Small M ∧ M.length ≤ n := by
  have h1 := h.perm.length_eq
  have h2 := us_len h.ru.pos 0
  rw [h.ru.tot] at h2
  refine ⟨⟨by omega, fun r hr => ?_⟩, by omega⟩
  have := us_range (h.perm.subset hr : (r.1, r.2) ∈ us L 0)
  rw [h.ru.tot] at this
  omega
theorem Clear.perm {M M' : List (Nat × Nat)} (h : M.Perm M') {page k : Nat} : Clear M page k ↔ Clear M' page k :=
  ⟨fun h1 r hr => h1 r (h.symm.subset hr), fun h1 r hr => h1 r (h.subset hr)⟩
theorem Lv.begin {n : Nat} (hn : 1 ≤ n) : Lv n [(1, n)] [] :=
  ⟨⟨fun r hr => by rw [List.mem_singleton.1 hr]; exact ⟨hn, .inl rfl⟩, ⟨fun h => by simp [headF] at h, trivial⟩, by simp [tot], fun r hr => by rw [List.mem_singleton.1 hr]; exact .inl rfl⟩, fun r hr => by rw [List.mem_singleton.1 hr]; exact .inl rfl, by simp [us]⟩
theorem Lv.alloc {n k a f r : Nat} {A C : List Rn} {M : List (Nat × Nat)} (h : Lv n (A ++ (1, f + k + r) :: C) M) (hk : 1 ≤ k) (ha : 1 ≤ a) (hR : Ru n (A ++ (fr f ++ (4, k) :: (fr r ++ C)))) (hb : bestL k a (A ++ (1, f + k + r) :: C) 0 (0, 0, 0) = (tot A, f + k + r, tot A + f)) :
    Lv n (A ++ (fr f ++ (4, k) :: (fr r ++ C))) (M ++ [(tot A + f, k)]) ∧ (tot A + f) % a = 0 ∧ tot A + f + k ≤ n ∧ Clear M (tot A + f) k := by
  have ht := hR.tot
  rw [tot_append, tot_append, tot_fr] at ht
  simp only [tot, tot_append, tot_fr] at ht
  refine ⟨⟨hR, ?_, ?_⟩, ?_, by omega, (Clear.perm h.perm).2 (us_clear (by omega) (by omega))⟩
  · obtain ⟨k1, k2⟩ := K14.append.1 h.k14
    exact K14.append.2 ⟨k1, K14.append.2 ⟨K14.fr f, K14.cons.2 ⟨.inr rfl, K14.append.2 ⟨K14.fr r, (K14.cons.1 k2).2⟩⟩⟩⟩
  · refine List.Perm.trans ?_ (us_cut (by decide)).symm
    refine (List.perm_append_comm (l₁ := M) (l₂ := [_])).trans ?_
    exact List.Perm.cons _ h.perm
  · rcases bestL_spec (k := k) (a := a) (A ++ (1, f + k + r) :: C) 0 (0, 0, 0) with h1 | ⟨A1, q, C1, _, _, h2, _⟩
    · rw [hb] at h1
      simp only [Prod.mk.injEq] at h1
      omega
    · rw [hb] at h2
      simp only [Prod.mk.injEq] at h2
      rw [h2.2.2]
      unfold rup
      exact Nat.mul_mod_left _ _
theorem cut_run {L : List Rn} {p m : Nat} (hk : K14 L) (h : (p, m) ∈ us L 0) : IsRun L p m := by
  obtain ⟨A, r, C, hL, h1, h2, h3⟩ := us_mem h
  have := hk r (by rw [hL]; simp)
  exact ⟨A, r, C, hL, by omega, by omega, by omega⟩
theorem Lv.free {n p m x : Nat} {L L' : List Rn} {M : List (Nat × Nat)} {t : Bool} (h : Lv n L M) (hx : M[x]? = some (p, m)) (hR : Ru n L') (hf : FreeSaid p m L t L') : t = true ∧ Lv n L' (M.take x ++ M.drop (x + 1)) := by
  have hin : (p, m) ∈ us L 0 := h.perm.subset (List.mem_of_getElem? hx)
  have hm : 1 ≤ m := by
    obtain ⟨A, r, C, hL, h1, h2, h3⟩ := us_mem hin
    have := (h.ru.pos r (by rw [hL]; simp)).1
    omega
  rcases hf with ⟨_, _, hno⟩ | ⟨rfl, A, b, q, k, c, C, rfl, _, _, h3, _, _, hp, hk, rfl⟩
  · exact absurd ⟨by omega, cut_run h.k14 hin⟩ hno
  · refine ⟨rfl, hR, ?_, ?_⟩
    · obtain ⟨k1, k2⟩ := K14.append.1 h.k14
      exact K14.append.2 ⟨k1, K14.cons.2 ⟨.inl rfl, (K14.append.1 (K14.cons.1 (K14.append.1 k2).2).2).2⟩⟩
    · have e1 := h.perm.trans (us_cut (by omega))
      rw [tot_append, tot_fr] at hp
      rw [show tot A + b = p by omega, show k = m by omega] at e1
      rw [show k = m by omega]
      obtain ⟨hlt, hget⟩ := List.getElem?_eq_some_iff.1 hx
      have e2 : M = M.take x ++ (p, m) :: M.drop (x + 1) := by
        conv => lhs; rw [← List.take_append_drop x M]
        rw [List.drop_eq_getElem_cons hlt, hget]
      rw [e2] at e1
      exact (List.perm_middle.symm.trans e1).cons_inv
theorem Pg.ext' {N T : Nat} {ws0 ws ws' : List UInt64} {L L' : List Rn} (h : Pg N T ws0 ws (pw L) (bw L)) (h' : Pg N T ws0 ws' (pw L') (bw L')) (he : L = L') (hN : 1 ≤ N) : ws = ws' := by
  subst he; exact h.ext h' hN
end Go.Proofs.Ytceddijolfpppaa
namespace Go.Proofs.Ytceddijolfpppaa
open Go Go.RowKit
set_option linter.unusedSimpArgs false
set_option linter.unusedVariables false
theorem bnn1 : (!(false == false)) = false ∧ (!(true == true)) = false ∧ (!(true == false)) = true ∧ (!(false == true)) = true ∧ (true == true) = true ∧ (false == false) = true ∧ (true == false) = false ∧ (false == true) = false := by decide
attribute [go_sem] bnn1
section
variable {P : Program} {σ : Type} {X : Face P σ} {fn : Func} {A : Conf σ → Prop} {ops : Array Oper} {k : List Item} {i : Nat} {tmps : List Value} {h : AHeap} {S : σ} {o : Oper}
end
end Go.Proofs.Ytceddijolfpppaa
namespace Go.Proofs.Ytceddijolfpppaa
open Go Go.RowKit
set_option linter.unusedSimpArgs false
set_option linter.unusedVariables false
def appAt (P : Program) (h : AHeap) (t : TypeId) (X Y : Value) : Option (Value × AHeap) := match X, tySlice P t, Y with
  | .slice none 0 0, some el, .slice _ 0 _ => (match tySize P el with | some _ => some (.slice none 0 0, h) | none => none)
  | .slice (some a) sl sc, some el, .slice b n c => (match tySize P el with
    | some s => if sl + n ≤ sc then (match n, cellsA h s (.slice b n c), h.get a.block with
        | 0, _, _ => some (.slice (some a) sl sc, h)
        | _, some news, some bk => if bk.ro = false ∧ a.spot = none ∧ a.off + sl * s + news.length ≤ bk.cells.length ∧ news.length = n * s ∧ news.all cellB = true then
            some (.slice (some a) (sl + n) sc, h.put a.block { bk with cells := spliceA bk.cells (a.off + sl * s) news }) else none
        | _, _, _ => none)
      else (match appendA P h t X Y with
        | some (cs, el, need, false) => some (.slice (some ⟨h.next, 0, none⟩) need need, (h.putO a.block none).addO (some ⟨cs, el, false, tySize P el⟩))
        | _ => none)
    | none => none)
  | _, _, _ => none
def AppTo (P : Program) (h : AHeap) (t : TypeId) (X Y : Value) (v : Value) (h' : AHeap) : Prop := appAt P h t X Y = some (v, h') ∨ ∃ ob, appV P h h.next t X Y = some (v, ob) ∧ h' = h.addO ob
structure AppT (P : Program) (t el : TypeId) (s : Nat) : Prop where
  sl : tySlice P t = some el
  sz : tySize P el = some (s + 1)
  bs : ∃ bs, tyBytes P el = some bs ∧ bs ≤ 1048576
  z : ∃ z, tyZero P el = some z ∧ plainB z = true ∧ z.cells.size = s + 1
theorem AppT.of {P : Program} {t el : TypeId} {s bs : Nat} {z : Value} (h1 : tySlice P t = some el) (h2 : tySize P el = some (s + 1)) (h3 : tyBytes P el = some bs) (h4 : tyZero P el = some z) (h5 : (plainB z && decide (z.cells.size = s + 1) && decide (bs ≤ 1048576)) = true) : AppT P t el s := by
  rw [Bool.and_eq_true, Bool.and_eq_true, decide_eq_true_eq, decide_eq_true_eq] at h5
  exact ⟨h1, h2, ⟨bs, h3, h5.2⟩, ⟨z, h4, h5.1.1, h5.1.2⟩⟩
section
variable {P : Program} {h : AHeap} {t el : TypeId} {s : Nat}
theorem app_keep (T : AppT P t el s) {a : Addr} {b : Option Addr} {sl sc c : Nat} (hl : sl ≤ sc) : AppTo P h t (.slice (some a) sl sc) (.slice b 0 c) (.slice (some a) sl sc) h := .inl (by unfold appAt; simp only [T.sl, T.sz, Nat.add_zero, hl, if_true])
theorem appN_new (T : AppT P t el s) {nx : Nat} {a b : Option Addr} {sl n c : Nat} {olds news : List Value} (c1 : cellsA h (s + 1) (.slice a sl sl) = some olds) (c2 : cellsA h (s + 1) (.slice b n c) = some news) (hn : 0 < n) (hl : sl + n ≤ 16777216) (ha : ∀ x, a = some x → ∃ bk, h.get x.block = some bk ∧ bk.grow = some 0) :
    appV P h nx t (.slice a sl sl) (.slice b n c) = some (.slice (some ⟨nx, 0, none⟩) (sl + n) (sl + n), some ⟨olds ++ news, el, false, some (s + 1)⟩) := by
  obtain ⟨h1, h2, ⟨bs, h3, h4⟩, ⟨z, h5, h6, h7⟩⟩ := T
  refine appV_new h1 h2 h3 h5 ?_ c1 c2 (by omega) hl ha
  rw [Bool.and_eq_true, Bool.and_eq_true, decide_eq_true_eq, decide_eq_true_eq]
  exact ⟨⟨h6, h7⟩, h4⟩
theorem app_new (T : AppT P t el s) {a b : Option Addr} {sl n c : Nat} {olds news : List Value} (c1 : cellsA h (s + 1) (.slice a sl sl) = some olds) (c2 : cellsA h (s + 1) (.slice b n c) = some news) (hn : 0 < n) (hl : sl + n ≤ 16777216) (ha : ∀ x, a = some x → ∃ bk, h.get x.block = some bk ∧ bk.grow = some 0) :
    AppTo P h t (.slice a sl sl) (.slice b n c) (.slice (some ⟨h.next, 0, none⟩) (sl + n) (sl + n)) (h.addO (some ⟨olds ++ news, el, false, some (s + 1)⟩)) := by
  exact .inr ⟨_, appN_new T c1 c2 hn hl ha, rfl⟩
theorem app_nil_new (T : AppT P t el s) {b : Option Addr} {n c : Nat} {news : List Value} (c2 : cellsA h (s + 1) (.slice b n c) = some news) (hn : 0 < n) (hl : n ≤ 16777216) :
    AppTo P h t (.slice none 0 0) (.slice b n c) (.slice (some ⟨h.next, 0, none⟩) n n) (h.addO (some ⟨news, el, false, some (s + 1)⟩)) := by
  have := app_new T (a := none) (sl := 0) (olds := []) (h := h) rfl c2 hn (by omega) (fun x hx => by cases hx)
  rw [Nat.zero_add] at this
  exact this
theorem app_grow (T : AppT P t el s) {a : Addr} {b : Option Addr} {sl n c : Nat} {olds news : List Value} (hg : h.get a.block = some ⟨olds, el, false, some (s + 1)⟩) (hsp : a.spot = none) (ho : a.off = 0) (hlen : olds.length = sl * (s + 1)) (c2 : cellsA h (s + 1) (.slice b n c) = some news) (hc : news.all cellB = true) (hn : 0 < n) (hl : sl + n ≤ 16777216) :
    AppTo P h t (.slice (some a) sl sl) (.slice b n c) (.slice (some ⟨h.next, 0, none⟩) (sl + n) (sl + n)) ((h.putO a.block none).addO (some ⟨olds ++ news, el, false, some (s + 1)⟩)) := by
  obtain ⟨h1, h2, ⟨bs, h3, h4⟩, ⟨z, h5, h6, h7⟩⟩ := T
  refine .inl ?_
  have c1 : cellsA h (s + 1) (.slice (some a) sl sl) = some olds := by
    by_cases h0 : sl = 0
    · subst h0
      rw [Nat.zero_mul] at hlen
      rw [List.eq_nil_of_length_eq_zero hlen]
      exact cellsA_zero
    · rw [cellsA_row h0 hg hsp (by rw [ho, hlen]; omega), ho, List.drop_zero, ← hlen, List.take_length]
  have hap : appendA P h t (.slice (some a) sl sl) (.slice b n c) = some (olds ++ news, el, sl + n, false) := by
    unfold appendA
    simp only [h1, h2, h3, h5, Option.getD_some, c1, c2, hg]
    rw [if_pos ⟨h6, h7, h4, by omega, hl⟩]
    have hne : ¬ (some (s + 1) = some 0) := by simp
    simp only [hne, if_false]
    rw [if_pos ⟨trivial, trivial, trivial, hsp, by rw [ho, hlen]; omega, Nat.le_refl _, hc⟩]
  unfold appAt
  have hn' : ¬ sl + n ≤ sl := by omega
  simp only [h1, h2, hn', if_false, hap]
theorem cells_rowC {α : Type} {fl : α → List Value} {s : Nat} (hs : ∀ x, (fl x).length = s) {L : List α} {q o i n c : Nat} {e : TypeId} {ro : Bool} {g : Option Nat} (hg : h.get q = some ⟨rowC fl L, e, ro, g⟩) (ho : o = i * s) (hin : i + n ≤ L.length) : cellsA h s (.slice (some ⟨q, o, none⟩) n c) = some (rowC fl ((L.drop i).take n)) := by
  by_cases h0 : n = 0
  · subst h0; rw [cellsA_zero, List.take_zero]; rfl
  · have hl := rowC_len hs L
    rw [cellsA_row h0 hg rfl (by simp only [hl, ho]; rw [← Nat.add_mul]; exact Nat.mul_le_mul_right s hin)]
    simp only [ho]
    rw [rowC_drop hs]
    congr 1
    have key : ∀ (L : List α) (n : Nat), (rowC fl L).take (n * s) = rowC fl (L.take n) := by
      intro L
      induction L with
      | nil => intro n; simp [rowC]
      | cons x L ih =>
        intro n
        cases n with
        | zero => simp [rowC]
        | succ n =>
          have := ih n
          unfold rowC at this ⊢
          rw [List.flatMap_cons, List.take_succ_cons, List.flatMap_cons, show (n + 1) * s = (fl x).length + n * s by rw [hs, Nat.add_mul]; omega, List.take_length_add_append, this]
    exact key _ _
theorem cells_gap {l : List (Option Blk)} {q : Nat} {ys : List (Option Blk)} {s n c : Nat} {b : Blk} (j : Nat) (hj : ys[j]? = some (some b)) (hn : n * s = b.cells.length) (h0 : n ≠ 0) : cellsA (heapJ l q ys) s (.slice (some ⟨q + j, 0, none⟩) n c) = some b.cells := by
  rw [cellsA_row h0 (b := b) (by simp only; rw [gap_hi, hj]; rfl) rfl (by simp only; omega), List.drop_zero, hn, List.take_length]
theorem slice_to {k : IntKind} {q o len cap s : Nat} {r : Int} (h1 : tySlice P t = some el) (h2 : tySize P el = some s) (h0 : 0 ≤ r) (hr : r ≤ (cap : Int)) : sliceA P h t (.slice (some ⟨q, o, none⟩) len cap) none (some (.int k r)) none = some (.slice (some ⟨q, o, none⟩) r.toNat cap) := by
  unfold sliceA
  simp only [h1, boundA, h2, h0, if_true, Nat.zero_le, true_and]
  rw [if_pos ⟨by omega, trivial⟩, if_pos (.inr trivial)]
theorem slice_from {k : IntKind} {q o len cap s : Nat} {l : Int} (h1 : tySlice P t = some el) (h2 : tySize P el = some s) (h0 : 0 ≤ l) (hl : l ≤ (len : Int)) (hc : len ≤ cap) (hlt : l < (cap : Int)) : sliceA P h t (.slice (some ⟨q, o, none⟩) len cap) (some (.int k l)) none none = some (.slice (some ⟨q, o + l.toNat * s, none⟩) (len - l.toNat) (cap - l.toNat)) := by
  unfold sliceA
  simp only [h1, boundA, h2, h0, if_true]
  rw [if_pos ⟨by omega, hc, trivial⟩, if_pos (.inl (by omega))]
  split
  · rename_i h0; rw [h0]; simp
  · rfl
theorem toNat_1 {a : Nat} : ((a : Int) + 1).toNat = a + 1 := by omega
attribute [go_sem] toNat_1 Int.toNat_zero Int.toNat_one Option.map_some Option.map_none
theorem Try.slice_to55 {h : AHeap} {k : IntKind} {q o len cap : Nat} {r : Int} (h0 : 0 ≤ r) (hr : r ≤ (cap : Int)) : sliceA Try.prog h 55 (.slice (some ⟨q, o, none⟩) len cap) none (some (.int k r)) none = some (.slice (some ⟨q, o, none⟩) r.toNat cap) := slice_to (el := 63) (s := 2) (by simp only [go_sem]) (by simp only [go_sem]) h0 hr
theorem Try.slice_from55 {h : AHeap} {k : IntKind} {q o len cap : Nat} {r : Int} (h0 : 0 ≤ r) (hl : r ≤ (len : Int)) (hc : len ≤ cap) (hlt : r < (cap : Int)) : sliceA Try.prog h 55 (.slice (some ⟨q, o, none⟩) len cap) (some (.int k r)) none none = some (.slice (some ⟨q, o + r.toNat * 2, none⟩) (len - r.toNat) (cap - r.toNat)) := slice_from (el := 63) (s := 2) (by simp only [go_sem]) (by simp only [go_sem]) h0 hl hc hlt
attribute [go_sem] Try.slice_to55 Try.slice_from55
theorem Goes.forgetS {σ : Type} {X : Face P σ} {fn : Func} {A : Conf σ → Prop} {S : σ} {todo : List Item} {tmps : List Value} {l : List (Option Blk)} (ys zs : List (Option Blk)) {q : Nat} (hk : Goes X fn A (.run todo tmps (heapJ l (q + ys.length) zs) S)) (hl : l.length ≤ q) : Goes X fn A (.run todo tmps (heapJ l q (ys ++ zs)) S) := by
  refine .weak (h0 := heapJ l (q + ys.length) zs) (fun n c hc => ?_) (by simp [gap_next]; omega) hk
  by_cases hn : n < q + ys.length
  · rw [gap_lo hn] at hc
    have hn2 : n < l.length := by
      apply Nat.lt_of_not_le; intro h; rw [List.getElem?_eq_none h] at hc; simp at hc
    exact ⟨c, by rw [gap_lo (by omega)]; exact hc, rfl, rfl, fun h => h, .inl rfl⟩
  · obtain ⟨i, rfl⟩ : ∃ i, n = q + ys.length + i := ⟨n - (q + ys.length), by omega⟩
    rw [gap_hi] at hc
    refine ⟨c, ?_, rfl, rfl, fun h => h, .inl rfl⟩
    rw [Nat.add_assoc, gap_hi, List.getElem?_append_right (by omega), Nat.add_sub_cancel_left]
    exact hc
theorem slice_end {k : IntKind} {q o len n s : Nat} {lo : Int} {b : Blk} (h1 : tySlice P t = some el) (h2 : tySize P el = some s) (hlo : lo = (len : Int)) (hl : 0 < len) (hg : h.get q = some b) (hb : b.grow ≠ some 0) : endA P h t (.slice (some ⟨q, o, none⟩) len len) (some (.int k lo)) none n = some (.slice (some ⟨n, 0, none⟩) 0 0, none) := by
  subst hlo
  unfold endA
  simp only [h1, boundA, h2, Int.toNat_natCast, show (0 : Int) ≤ (len : Int) by omega, if_true, hg, Option.bind_some]
  rw [if_pos ⟨trivial, trivial, hl, trivial, hb⟩]
theorem rowC_app {α : Type} {fl : α → List Value} (A B : List α) : rowC fl A ++ rowC fl B = rowC fl (A ++ B) := by
  unfold rowC; rw [List.flatMap_append]
theorem rowC_cellB {α : Type} {fl : α → List Value} (hp : ∀ x, (fl x).all cellB = true) (l : List α) : (rowC fl l).all cellB = true := by
  rw [List.all_eq_true]
  intro v hv
  obtain ⟨x, _, hx⟩ := List.mem_flatMap.1 hv
  exact List.all_eq_true.1 (hp x) v hx
end
section
variable {P : Program} {σ : Type} {X : Face P σ} {fn : Func} {A : Conf σ → Prop} {ops : Array Oper} {k : List Item} {i : Nat} {tmps : List Value} {h h' : AHeap} {S : σ} {o : Oper} {x y : Operand} {t : TypeId} {v : Value}
theorem wr_append {e : Operand → Value} : wrA P e h (.call { callee := .builtin .append, args := #[x, y], argTypes := #[t, t] }) = appAt P h t (e x) (e y) := by
  unfold wrA appAt
  simp only [if_true]
  rfl
theorem AppTo.op (e : AppTo P h t (evA tmps x) (evA tmps y) v h') (hop : o.op = .call { callee := .builtin .append, args := #[x, y], argTypes := #[t, t] }) : Op0 X o (evA tmps) h S v h' S := by
  rcases e with e | ⟨ob, e, rfl⟩
  · exact .inr (.inr (.inl ⟨by rw [hop, wr_append]; exact e, rfl⟩))
  · exact .inr (.inl ⟨ob, by rw [hop, n_append]; exact e, rfl, rfl⟩)
theorem At.appE (ho : ops.toList[i]? = some o) (hop : o.op = .call { callee := .builtin .append, args := #[x, y], argTypes := #[t, t] }) (hg : o.guard = none) (hb : opOK o.op = true) (e : AppTo P h t (evA tmps x) (evA tmps y) v h') (hl : h'.next ≤ VB) (hk : ∀ K : List Value → AHeap → Prop, (∀ t h, At X fn A ops k (i + 1) t h S → K t h) → K (putL o.dst v tmps) h') : At X fn A ops k i tmps h S :=
  At.op (at_list ho) (wanted_n hg) (opOK_all hb) (e.op hop) (.inr hl) (hk _ fun _ _ h => h)
theorem At.newE {ob : Option Blk} (ho : ops.toList[i]? = some o) (hg : o.guard = none) (hb : opOK o.op = true) (e : newA P (evA tmps) h h.next o.op = some (v, ob)) (hl : h.next < VB) (hk : ∀ K : List Value → AHeap → Prop, (∀ t h, At X fn A ops k (i + 1) t h S → K t h) → K (putL o.dst v tmps) (h.addO ob)) : At X fn A ops k i tmps h S :=
  AtL.new ho (wanted_n hg) hb hl fun K hK => by rw [e]; exact hk K hK
variable {W : List Nat} {n0 : Nat} {hf : AHeap} {Kf : List Value → AHeap → σ → Prop} {born : List (Nat × Nat)}
theorem vis_low {mask n : Nat} {b : Blk} (hn : n < n0) (hg : h.get n = some b) : (visH n0 born mask h).get n = some { b with ro := true } := by
  unfold visH
  simp only [hn, true_or, if_true, hg, Option.map_some]
theorem vis_born {mask n j : Nat} {b : Blk} (hj : (j, n) ∈ born) (hm : mask.testBit j = true) (hg : h.get n = some b) : (visH n0 born mask h).get n = some { b with ro := true } := by
  unfold visH
  have : born.any (fun p => p.2 == n && mask.testBit p.1) = true := List.any_eq_true.2 ⟨_, hj, by simp [hm]⟩
  simp only [this, or_true, if_true, hg, Option.map_some]
theorem RG.newE {ob : Option Blk} (hl : h.Low) (ho : ops.toList[i]? = some o) (hg : o.guard = none) (hb : opOK o.op = true) (hq : wrB W i o = false) (hn : h.next < VB) (e : newA P (evA tmps) (visH n0 born ((masksFrom ops.toList []).getD i 0) h) h.next o.op = some (v, ob))
    (hk : ∀ K : List Value → AHeap → Prop, (∀ t h1, RGF X W ops n0 hf Kf (i + 1) t h1 S ((i, h.next) :: born) → K t h1) → K (putL o.dst v tmps) (h.addO ob)) (hnf : farB W i = false := by rfl) : RGF X W ops n0 hf Kf i tmps h S born := by
  have := hk _ (fun _ _ h => h)
  refine .op' (h' := h.addO ob) (v := v) (S' := S) false hnf (at_list ho) (wanted_n hg) (opOK_all hb) (.inr hn) ⟨hq, _, .inr (.inl ⟨ob, e, rfl, rfl⟩), (glue_vis_add hl ob).symm⟩ (fun n b _ h1 h2 => by rw [AHeap.addO_get, if_neg (by omega)]) ?_
  rw [show (h.addO ob).next = h.next + 1 from rfl, bornN_one]
  exact this
theorem RG.appN {ob : Option Blk} (hl : h.Low) (ho : ops.toList[i]? = some o) (hop : o.op = .call { callee := .builtin .append, args := #[x, y], argTypes := #[t, t] }) (hg : o.guard = none) (hb : opOK o.op = true) (hq : wrB W i o = false) (hn : h.next < VB) (e : appV P (visH n0 born ((masksFrom ops.toList []).getD i 0) h) h.next t (evA tmps x) (evA tmps y) = some (v, ob))
    (hk : ∀ K : List Value → AHeap → Prop, (∀ t h1, RGF X W ops n0 hf Kf (i + 1) t h1 S ((i, h.next) :: born) → K t h1) → K (putL o.dst v tmps) (h.addO ob)) (hnf : farB W i = false := by rfl) : RGF X W ops n0 hf Kf i tmps h S born :=
  RG.newE hl ho hg hb hq hn (by rw [hop, n_append]; exact e) hk hnf
theorem RG.endN {lo : Operand} {ob : Option Blk} (hl : h.Low) (ho : ops.toList[i]? = some o) (hop : o.op = .slice t x (some lo) none none) (hg : o.guard = none) (hb : opOK o.op = true) (hq : wrB W i o = false) (hn : h.next < VB) (e : endA P (visH n0 born ((masksFrom ops.toList []).getD i 0) h) t (evA tmps x) (some (evA tmps lo)) none h.next = some (v, ob))
    (hk : ∀ K : List Value → AHeap → Prop, (∀ t h1, RGF X W ops n0 hf Kf (i + 1) t h1 S ((i, h.next) :: born) → K t h1) → K (putL o.dst v tmps) (h.addO ob)) (hnf : farB W i = false := by rfl) : RGF X W ops n0 hf Kf i tmps h S born :=
  RG.newE hl ho hg hb hq hn (by rw [hop]; exact e) hk hnf
theorem cells_J {α : Type} {fl : α → List Value} {s : Nat} (hs : ∀ x, (fl x).length = s) {l ys : List (Option Blk)} {q o n c : Nat} (L : List α) (i j : Nat) {e : TypeId} {ro : Bool} {g : Option Nat} (hj : ys[j]? = some (some ⟨rowC fl L, e, ro, g⟩)) (ho : o = i * s) (hin : i + n ≤ L.length) : cellsA (heapJ l q ys) s (.slice (some ⟨q + j, o, none⟩) n c) = some (rowC fl ((L.drop i).take n)) :=
  cells_rowC hs (by rw [gap_hi, hj]; rfl) ho hin
theorem cells_visJ {α : Type} {fl : α → List Value} {s : Nat} (hs : ∀ x, (fl x).length = s) {l ys : List (Option Blk)} {q o n c mask : Nat} (L : List α) (i j : Nat) {e : TypeId} {ro : Bool} {g : Option Nat} (hj : ys[j]? = some (some ⟨rowC fl L, e, ro, g⟩)) (hn0 : q + j < n0) (ho : o = i * s) (hin : i + n ≤ L.length) : cellsA (visH n0 born mask (heapJ l q ys)) s (.slice (some ⟨q + j, o, none⟩) n c) = some (rowC fl ((L.drop i).take n)) :=
  cells_rowC (L := L) (e := e) (ro := true) (g := g) hs (vis_low (b := ⟨rowC fl L, e, ro, g⟩) hn0 (by rw [gap_hi, hj]; rfl)) ho hin
theorem RG.app0 (hl : h.Low) (ho : ops.toList[i]? = some o) (hop : o.op = .call { callee := .builtin .append, args := #[x, y], argTypes := #[t, t] }) (hg : o.guard = none) (hb : opOK o.op = true) (hq : wrB W i o = false) (e : ∀ h : AHeap, AppTo P h t (evA tmps x) (evA tmps y) v h) (hk : ∀ K : List Value → AHeap → Prop, (∀ t h, RGF X W ops n0 hf Kf (i + 1) t h S born → K t h) → K (putL o.dst v tmps) h) (hnf : farB W i = false := by rfl) : RGF X W ops n0 hf Kf i tmps h S born :=
  .op' (h' := h) false hnf (at_list ho) (wanted_n hg) (opOK_all hb) (.inl rfl) ⟨hq, _, (e _).op hop, (glue_vis hl).symm⟩ (fun _ _ _ _ _ => rfl) (by rw [bornN_nil]; exact hk _ fun _ _ h => h)
theorem RG.appE (ho : ops.toList[i]? = some o) (hop : o.op = .call { callee := .builtin .append, args := #[x, y], argTypes := #[t, t] }) (hg : o.guard = none) (hb : opOK o.op = true) (hq : wrB W i o = true) (e : AppTo P h t (evA tmps x) (evA tmps y) v h') (hl : h'.next ≤ VB) (hk : ∀ K : List Value → AHeap → Prop, (∀ t h1, RG X W ops n0 Kf (i + 1) t h1 S (bornN i h.next h'.next ++ born) → K t h1) → K (putL o.dst v tmps) h') (hnf : farB W i = false := by rfl) : RG X W ops n0 Kf i tmps h S born :=
  RGF.op' true hnf (at_list ho) (wanted_n hg) (opOK_all hb) (.inr hl) ⟨hq, e.op hop⟩ (fun n b hb => by cases hb) (hk (fun t h1 => RG X W ops n0 Kf (i + 1) t h1 S (bornN i h.next h'.next ++ born)) fun _ _ h => h)
end
end Go.Proofs.Ytceddijolfpppaa
namespace Go.Proofs.Ytceddijolfpppaa
open Go Go.RowKit
set_option linter.unusedSimpArgs false
set_option linter.unusedVariables false
def runC (r : Nat × Nat) : List Value := [.int .i64 r.1, .int .i64 r.2]
theorem runC_len (r : Nat × Nat) : (runC r).length = 2 := rfl
theorem runC_cellB (r : Nat × Nat) : (runC r).all cellB = true := rfl
theorem appT_run : AppT Try.prog 55 63 1 := AppT.of (bs := 16) (z := .agg #[.int .i64 0, .int .i64 0]) (by simp only [go_sem]) (by simp only [go_sem]) (by simp only [go_sem]) (by simp only [go_sem]) (by simp [plainB, Value.cells])
theorem runC_plain (r : Nat × Nat) : ∀ v ∈ runC r, plainB v = true := by simp [runC, plainB]
instance (M : List (Nat × Nat)) (page k : Nat) : Decidable (Clear M page k) := by unfold Clear; infer_instance
end Go.Proofs.Ytceddijolfpppaa
namespace Go.Proofs.Ytceddijolfpppaa
open Go Go.RowKit
set_option linter.unusedSimpArgs false
set_option linter.unusedVariables false
theorem back_does (S : St) (p m me : Nat) (steps : Nat) (ws0 ws : List UInt64) (bs : List UInt8) (N T : Nat) (r : Nat × Nat) {L : List Rn} (hp : S[p]? = some (.port m me steps)) (hm : S[m]? = some (.mem ws bs)) (hst : steps ≤ 1000000000) (h1 : 1 ≤ N) (hN : N ≤ 256) (hT : T ≤ 64) (hP : Pg N T ws0 ws (pw L) (bw L)) (hpos : Pos L) (hna : nadj L) (htot : tot L = N) :
    ∃ v S', (∃ st' ws' L' t, v = .bool t ∧ st' ≤ steps + 20 ∧ S' = accS S p m me st' ws' bs ∧ Pg N T ws0 ws' (pw L') (bw L') ∧ FreeSaid r.1 r.2 L t L') ∧ Does OF 35 #[hndV p, .agg (geoC N T), .agg #[.int .i64 r.1, .int .i64 r.2]] [] S v S' := by
  obtain ⟨v, S', hQ, hd⟩ := free_does S p m me steps ws0 ws bs N T r.1 r.2 hp hm hst h1 hN hT hP hpos hna htot
  refine ⟨v, S', hQ, ?_⟩
  obtain ⟨st', ws', L', t, rfl, _, rfl, _⟩ := hQ
  refine Does.mk Try.func35 rfl rfl ?clo ?hand ?_
  case clo => exact clo3 (hclo (hlt_of hp)) (Clo.plain (geo_plain _ _)) (Clo.plain (by simp [plainB]))
  case hand => exact Hand.plain rfl
  rw [Try.ntmps35]; simp only [List.size_toArray, List.length_cons, List.length_nil, List.replicate, List.cons_append, List.nil_append]
  repeat (first | refine Goes.reg ?_ | refine Goes.ctl2 rfl ?_ | ((first | refine qv1 rfl rfl rfl fun K hK => ?_ | refine qv3 rfl rfl rfl fun K hK => ?_ | refine qv2 rfl rfl rfl rfl rfl rfl fun K hK => ?_ | refine qv4 rfl rfl rfl rfl rfl rfl fun K hK => ?_ | refine qn1 rfl rfl rfl fun K hK => ?_ | refine qn3 rfl rfl rfl fun K hK => ?_ | refine qt1 rfl rfl rfl fun K hK => ?_ | refine qt3 rfl rfl rfl fun K hK => ?_); simp (disch := (first | omega | (simp only [sz] <;> omega) | fail)) only [go_sem]; with_reducible refine hK _ _ ?_; clear hK K) | refine At.nil rfl ?_ | refine RG.nil rfl ?_ | ((first | refine AtL.skipg rfl rfl rfl rfl rfl ?_ | refine RGL.skipg rfl rfl rfl rfl rfl ?_ | refine AtL.skipu rfl rfl rfl rfl ?_ | refine RGL.skipu rfl rfl rfl rfl ?_); simp only [putL, List.set_cons_zero, List.set_cons_succ]) | refine Goes.yes rfl ?_ | refine Goes.no rfl ?_ | refine Goes.drawR [] (by kernel_rfl) ?_)
  ((first | refine qc1 rfl rfl fun K hK => ?_ | refine qc3 rfl rfl fun K hK => ?_); simp (disch := (first | omega | (simp only [sz] <;> omega) | fail)) only [go_sem]; refine ⟨_, _, hd, ?_⟩; (try simp only [go_sem]); with_reducible refine hK _ _ ?_; clear hK K)
  repeat (first | refine Goes.reg ?_ | refine Goes.ctl2 rfl ?_ | ((first | refine qv1 rfl rfl rfl fun K hK => ?_ | refine qv3 rfl rfl rfl fun K hK => ?_ | refine qv2 rfl rfl rfl rfl rfl rfl fun K hK => ?_ | refine qv4 rfl rfl rfl rfl rfl rfl fun K hK => ?_ | refine qn1 rfl rfl rfl fun K hK => ?_ | refine qn3 rfl rfl rfl fun K hK => ?_ | refine qt1 rfl rfl rfl fun K hK => ?_ | refine qt3 rfl rfl rfl fun K hK => ?_); simp (disch := (first | omega | (simp only [sz] <;> omega) | fail)) only [go_sem]; with_reducible refine hK _ _ ?_; clear hK K) | refine At.nil rfl ?_ | refine RG.nil rfl ?_ | ((first | refine AtL.skipg rfl rfl rfl rfl rfl ?_ | refine RGL.skipg rfl rfl rfl rfl rfl ?_ | refine AtL.skipu rfl rfl rfl rfl ?_ | refine RGL.skipu rfl rfl rfl rfl ?_); simp only [putL, List.set_cons_zero, List.set_cons_succ]) | refine Goes.yes rfl ?_ | refine Goes.no rfl ?_ | refine Goes.drawR [] (by kernel_rfl) ?_)
  refine Goes.fin rfl (by simp (disch := (first | omega | (simp only [heapL_next, List.length_cons, List.length_nil, List.size_toArray, geo_len] <;> omega) | fail)) only [go_sem, resA, res1A, Try.results35] <;> rfl) ?_
  rfl
def LvS (M : List (Nat × Nat)) (g : Option Nat) (tl : List (Option Blk)) : Prop := (tl = [] ∨ tl = [none]) ∧ ((M = [] ∧ g = some 0) ∨ (M ≠ [] ∧ g = some 2))
def LvY (M : List (Nat × Nat)) (q : Nat) (V : Value) (ys : List (Option Blk)) : Prop :=
  (V = .slice none 0 0 ∧ ys = [] ∧ M = []) ∨ ∃ cs len g tl, V = .slice (some ⟨q, 0, none⟩) len len ∧ ys = some ⟨cs, 63, false, g⟩ :: tl ∧ cs = rowC runC M ∧ len = M.length ∧ LvS M g tl
theorem rm_tail {Q : List (Nat × Nat)} {i : Nat} : (Q.drop i).take (Q.length - i) = Q.drop i := List.take_of_length_le (by simp)
theorem rm_len {Q : List (Nat × Nat)} {z : Nat} (h : z < Q.length) : (Q.take z ++ Q.drop (z + 1)).length = Q.length - 1 := by
  rw [List.length_append, List.length_take, List.length_drop]; omega
theorem rm_nil {Q : List (Nat × Nat)} {z : Nat} (h : z = 0) (he : z + 1 = Q.length) : Q.take z ++ Q.drop (z + 1) = [] := by
  rw [List.drop_eq_nil_of_le (by omega), h]; rfl
theorem rm_ne {Q : List (Nat × Nat)} {z : Nat} (h : z < Q.length) (he : ¬ z = 0 ∨ ¬ z + 1 = Q.length) : Q.take z ++ Q.drop (z + 1) ≠ [] := by
  intro h0
  have := rm_len h
  rw [h0] at this
  simp only [List.length_nil] at this
  omega
end Go.Proofs.Ytceddijolfpppaa
namespace Go.Proofs.Ytceddijolfpppaa
open Go Go.RowKit
set_option linter.unusedSimpArgs false
set_option linter.unusedVariables false
section
variable {P : Program} {σ : Type} {X : Face P σ} {fn : Func} {A : Conf σ → Prop} {ops : Array Oper} {k : List Item} {i : Nat} {tmps : List Value} {S : σ} {o : Oper} {l ys : List (Option Blk)} {q : Nat}
theorem backH_new {E : Emb} {new : List Blk} : backH (heapJ l q ys) E [] [] [] new = heapJ l q (ys ++ new.map fun b => some (renB E b)) := by
  refine aheap_ext (fun m => ?_) (by simp [backH, gap_next]; omega)
  have e1 : (backH (heapJ l q ys) E [] [] [] new).get m = if (heapJ l q ys).next ≤ m then (new[m - (heapJ l q ys).next]?).map (renB E) else (heapJ l q ys).get m := rfl
  rw [e1, gap_next]
  by_cases hm : q + ys.length ≤ m
  · rw [if_pos hm]
    obtain ⟨j, rfl⟩ : ∃ j, m = q + j := ⟨m - q, by omega⟩
    rw [gap_hi, List.getElem?_append_right (by omega), List.getElem?_map, show q + j - (q + ys.length) = j - ys.length by omega]
    cases new[j - ys.length]? <;> rfl
  · rw [if_neg hm]
    by_cases hq : m < q
    · rw [gap_lo hq, gap_lo hq]
    · obtain ⟨j, rfl⟩ : ∃ j, m = q + j := ⟨m - q, by omega⟩
      rw [gap_hi, gap_hi, List.getElem?_append_left (by omega)]
theorem qxn (ho : ops.toList[i]? = some o) (hw : Region.wanted o (yieldedL ops tmps) = true)
    (hk : ∀ K : List Value → List (Option Blk) → σ → Prop, (∀ t ys' S', At X fn A ops k (i + 1) t (heapJ l q (ys ++ ys')) S' → K t ys' S') →
      CallK (fun f args => ∃ zs v new S', DoesX X f zs [] S v [] new S' ∧ args = zs.map (ren (upE [] (q + ys.length))) ∧ q + ys.length + new.length < 1000000000 ∧ K (putL o.dst (ren (upE [] (q + ys.length)) v) tmps) (new.map fun b => some (renB (upE [] (q + ys.length)) b)) S') (callA P (evA tmps) o.op))
    (hb : opOK o.op = true := by rfl) : At X fn A ops k i tmps (heapJ l q ys) S := by
  have hk := hk _ fun _ _ _ h => h
  unfold At
  rw [range_at (at_list ho)]
  cases hv : callA P (evA tmps) o.op with
  | none => rw [hv] at hk; exact hk.elim
  | some x =>
    obtain ⟨f, args⟩ := x
    rw [hv] at hk
    obtain ⟨zs, v, new, S', ⟨g, c, h1, v0, ex, R, d1, d2, d3, d4, d5, d6, d7⟩, rfl, hlim, hK⟩ := hk
    have hC := call_lent (ns := []) (h := heapJ l q ys) (o := o) (e := evA tmps) (f := f) (args := zs) (by rw [gap_next]; exact hv) d1 d2 d3 d4 d5 d6 (gap_low _ _ _) trivial List.nodup_nil (by unfold VB; simp; omega)
    rw [backH_new] at hC
    exact .call f g c zs _ _ _ h1 ex v0 (at_list ho) hw (opOK_all hb) hC (.inr (by rw [gap_next]; simp; unfold VB; omega)) d7 hK
theorem Goes.giveJ {fn : Func} {todo : List Item} {tmps : List Value} {S S' : σ} {cs : List Value} {e : TypeId} {g : Option Nat} {len : Nat} {l : List (Option Blk)} {q : Nat} {tl : List (Option Blk)} (ht : retB todo = true) (hv : resA P fn tmps (heapJ l q (some ⟨cs, e, false, g⟩ :: tl)) = some (.slice (some ⟨q, 0, none⟩) len len)) (hS : S = S') (hq : q < VB) (hp : ∀ u ∈ cs, plainB u = true) :
    Goes X fn (fun x => ∃ v0 h1 ex R, x = .done v0 h1 S' ∧ Gives (X.cnt S') [] [] [⟨cs, e, false, g⟩] ex R h1 v0 (.slice (some ⟨0, 0, none⟩) len len)) (.run todo tmps (heapJ l q (some ⟨cs, e, false, g⟩ :: tl)) S) :=
  Goes.finX ht hv hS (Gives.one (n0 := q) rfl (Nat.zero_le _) hq (by unfold VB; simp) gap_hi0 rfl hp (by simp [nameE, adr]) (fun F F' hs => by
    obtain ⟨h1, h2, h3⟩ := hs q (.inr (.inl (by simp)))
    simp [adr, h1, h2, h3]))
end
end Go.Proofs.Ytceddijolfpppaa
namespace Go.Proofs.Ytceddijolfpppaa
open Go Go.RowKit
set_option linter.unusedSimpArgs false
set_option linter.unusedVariables false
def fs : List Rn → Nat → List (Nat × Nat)
  | [], _ => []
  | r :: L, x => (if r.1 = 1 then [(x, r.2)] else []) ++ fs L (x + r.2)
def fu : List Rn → Nat → Nat → List (Nat × Nat)
  | [], _, _ => []
  | r :: L, x, i => (if r.1 = 1 ∧ x < i then [(x, r.2)] else []) ++ fu L (x + r.2) i
theorem fu_append : ∀ (A C : List Rn) (x i : Nat), fu (A ++ C) x i = fu A x i ++ fu C (x + tot A) i
  | [], C, x, i => by simp [fu, tot]
  | r :: A, C, x, i => by
    simp only [List.cons_append, fu, tot]
    rw [fu_append A C, List.append_assoc, Nat.add_assoc]
theorem fu_none : ∀ {L : List Rn} {x i : Nat}, i ≤ x → fu L x i = []
  | [], _, _, _ => rfl
  | r :: L, x, i, h => by
    simp only [fu]
    rw [if_neg (by omega), fu_none (by omega)]; rfl
theorem fu_all : ∀ {L : List Rn} {x i : Nat}, Pos L → x + tot L ≤ i → fu L x i = fs L x
  | [], _, _, _, _ => rfl
  | r :: L, x, i, hp, h => by
    obtain ⟨h1, h2⟩ := Pos.cons.1 hp
    simp only [tot] at h
    simp only [fu, fs]
    rw [fu_all h2 (by omega)]
    by_cases hr : r.1 = 1
    · rw [if_pos ⟨hr, by omega⟩, if_pos hr]
    · rw [if_neg (fun h => hr h.1), if_neg hr]
theorem fu_zero {L : List Rn} {x : Nat} : fu L x 0 = [] := fu_none (Nat.zero_le _)
theorem fu_step {A C : List Rn} {r : Rn} {z : Nat} (hp : Pos (A ++ r :: C)) (hz : z < r.2) : fu (A ++ r :: C) 0 (tot A + z + 1) = fu (A ++ r :: C) 0 (tot A + z) ++ (if r.1 = 1 ∧ z = 0 then [(tot A, r.2)] else []) := by
  obtain ⟨p1, _⟩ := Pos.append.1 hp
  rw [fu_append, fu_append, fu_all p1 (by omega), fu_all p1 (by omega)]
  simp only [fu, Nat.zero_add]
  rw [fu_none (show tot A + z + 1 ≤ tot A + r.2 by omega), fu_none (show tot A + z ≤ tot A + r.2 by omega)]
  by_cases hr : r.1 = 1
  · by_cases h0 : z = 0
    · rw [if_pos ⟨hr, by omega⟩, if_neg (by omega), if_pos ⟨hr, h0⟩]; simp
    · rw [if_pos ⟨hr, by omega⟩, if_pos ⟨hr, by omega⟩, if_neg (fun h => h0 h.2)]; simp
  · rw [if_neg (fun h => hr h.1), if_neg (fun h => hr h.1), if_neg (fun h => hr h.1)]; simp
theorem fu_len {L : List Rn} (hp : Pos L) (x i : Nat) : (fu L x i).length ≤ tot L := by
  induction L generalizing x with
  | nil => simp [fu]
  | cons r L ih =>
    obtain ⟨h1, h2⟩ := Pos.cons.1 hp
    have := ih h2 (x + r.2)
    simp only [fu, tot, List.length_append]
    split <;> simp <;> omega
theorem pw_fr1 {A C : List Rn} {r : Rn} {z : Nat} (hp : Pos (A ++ r :: C)) (hz : z < r.2) (hr2 : r.2 < 1024) : (kd (pw (A ++ r :: C) (tot A + z)) = 1 ↔ r.1 = 1 ∧ z = 0) ∧ (r.1 = 1 ∧ z = 0 → ln (pw (A ++ r :: C) (tot A + z)) = r.2) := by
  obtain ⟨p1, p2⟩ := Pos.append.1 hp
  have p3 := (Pos.cons.1 p2).1
  by_cases h0 : z = 0
  · subst h0
    rw [Nat.add_zero, pw_head p1, kd_pgU (by omega) hr2, ln_pgU (by omega) hr2]
    simp
  · rw [pw_in p1 (by omega) hz]
    refine ⟨⟨fun h => ?_, fun h => absurd h.2 h0⟩, fun h => absurd h.2 h0⟩
    split at h
    · rw [kd_pgU (by omega) hr2] at h; omega
    · rw [kd_zero] at h; omega
def ofV (M : List (Nat × Nat)) : Value := match M with | [] => .slice none 0 0 | _ :: _ => .slice (some ⟨0, 0, none⟩) M.length M.length
def ofR (M : List (Nat × Nat)) : List Blk := match M with | [] => [] | _ :: _ => [⟨rowC runC M, 63, false, some 2⟩]
set_option maxHeartbeats 4000000 in
theorem runsOf_does (S : St) (m : Nat) (ws0 ws : List UInt64) (bs : List UInt8) (N T : Nat) {L : List Rn} (hm : S[m]? = some (.mem ws bs)) (h1 : 1 ≤ N) (hN : N ≤ 64) (hT : T ≤ 64) (hP : Pg N T ws0 ws (pw L) (bw L)) (hpos : Pos L) (htot : tot L = N) :
    DoesX OF 36 #[hndV m, .agg (geoC N T)] [] S (ofV (fs L 0)) [] (ofR (fs L 0)) S := by
  refine DoesX.mk Try.func36 rfl rfl ?clo ?rows ?_
  case clo => exact clo2 (hclo (hlt_of hm)) (Clo.plain (geo_plain _ _))
  case rows => exact plain_rows (by simp)
  rw [Try.ntmps36]; simp only [List.size_toArray, List.length_cons, List.length_nil, List.replicate, List.cons_append, List.nil_append]
  repeat (first | refine Goes.reg ?_ | refine Goes.ctl2 rfl ?_ | ((first | refine qv1 rfl rfl rfl fun K hK => ?_ | refine qv3 rfl rfl rfl fun K hK => ?_ | refine qv2 rfl rfl rfl rfl rfl rfl fun K hK => ?_ | refine qv4 rfl rfl rfl rfl rfl rfl fun K hK => ?_ | refine qn1 rfl rfl rfl fun K hK => ?_ | refine qn3 rfl rfl rfl fun K hK => ?_ | refine qt1 rfl rfl rfl fun K hK => ?_ | refine qt3 rfl rfl rfl fun K hK => ?_); simp (disch := (first | omega | (simp only [sz] <;> omega) | fail)) only [go_sem]; with_reducible refine hK _ _ ?_; clear hK K) | refine At.nil rfl ?_ | refine RG.nil rfl ?_ | ((first | refine AtL.skipg rfl rfl rfl rfl rfl ?_ | refine RGL.skipg rfl rfl rfl rfl rfl ?_ | refine AtL.skipu rfl rfl rfl rfl ?_ | refine RGL.skipu rfl rfl rfl rfl ?_); simp only [putL, List.set_cons_zero, List.set_cons_succ]) | refine Goes.yes rfl ?_ | refine Goes.no rfl ?_ | refine Goes.drawR [] (by kernel_rfl) ?_)
  refine Goes.wh (fun z tmps h S' => ∃ (i q : Nat) (V : Value) (ys : List (Option Blk)), z = N - i ∧ i ≤ N ∧ 1 ≤ q ∧ q + ys.length ≤ 1 + 5 * i ∧ ((fu L 0 i = [] ∧ V = .slice none 0 0 ∧ ys = []) ∨ (fu L 0 i ≠ [] ∧ V = .slice (some ⟨q, 0, none⟩) (fu L 0 i).length (fu L 0 i).length ∧ ∃ tl, ys = some ⟨rowC runC (fu L 0 i), 63, false, some 2⟩ :: tl)) ∧ S' = S ∧
    h = heapJ [some { cells := (geoC N T).toList, elem := 26 }] q ys ∧ tmps.length = 31 ∧ tmps.getD 0 undef = hndV m ∧ tmps.getD 3 undef = .pointer (some ⟨0, 0, none⟩) ∧ tmps.getD 5 undef = V ∧ tmps.getD 6 undef = .int .i64 i) (m := N - 0)
    ⟨0, 1, _, [], rfl, by omega, by omega, by simp, .inl ⟨fu_zero, rfl, rfl⟩, rfl, gap_of _, rfl, rfl, rfl, rfl, rfl⟩ ?_
  rintro z tmps h S' ih ⟨i, q, V0, ys, rfl, hi, hq1, hq2, hY, rfl, rfl, hl, f0, f3, f5, f6⟩
  obtain ⟨V, hV, hT⟩ := frame_lit hl; replace hT : _ = ([V 0, V 1, V 2, V 3, V 4, V 5, V 6, V 7, V 8, V 9, V 10, V 11, V 12, V 13, V 14, V 15, V 16, V 17, V 18, V 19, V 20, V 21, V 22, V 23, V 24, V 25, V 26, V 27, V 28, V 29, V 30] : List Value) := hT; rw [hV] at f0 f3 f5 f6; subst hT; simp only [f0, f3, f5, f6]; clear hV hl
  have hq3 : q ≤ 1 + 5 * i := by omega
  by_cases hlt : i < N
  case neg =>
    obtain rfl : i = N := by omega
    rw [fu_all hpos (by omega)] at hY
    rcases hY with ⟨h0, rfl, rfl⟩ | ⟨h0, rfl, tl, rfl⟩
    · rw [h0]
      repeat (first | refine Goes.reg ?_ | refine Goes.ctl2 rfl ?_ | ((first | refine qv1 rfl rfl rfl fun K hK => ?_ | refine qv3 rfl rfl rfl fun K hK => ?_ | refine qv2 rfl rfl rfl rfl rfl rfl fun K hK => ?_ | refine qv4 rfl rfl rfl rfl rfl rfl fun K hK => ?_ | refine qn1 rfl rfl rfl fun K hK => ?_ | refine qn3 rfl rfl rfl fun K hK => ?_ | refine qt1 rfl rfl rfl fun K hK => ?_ | refine qt3 rfl rfl rfl fun K hK => ?_); simp (disch := (first | omega | (simp only [sz] <;> omega) | fail)) only [go_sem]; with_reducible refine hK _ _ ?_; clear hK K) | refine At.nil rfl ?_ | refine RG.nil rfl ?_ | ((first | refine AtL.skipg rfl rfl rfl rfl rfl ?_ | refine RGL.skipg rfl rfl rfl rfl rfl ?_ | refine AtL.skipu rfl rfl rfl rfl ?_ | refine RGL.skipu rfl rfl rfl rfl ?_); simp only [putL, List.set_cons_zero, List.set_cons_succ]) | refine Goes.yes rfl ?_ | refine Goes.no rfl ?_ | refine Goes.drawR [] (by kernel_rfl) ?_)
      ((first | refine qp1 rfl rfl fun K hK => ?_ | refine qp3 rfl rfl fun K hK => ?_); simp (disch := (first | omega | (simp only [sz] <;> omega) | fail)) only [go_sem]; refine ⟨_, _, qpu fun w => gPages_any _ _ w, ?_⟩; (try simp only [go_sem]); with_reducible refine hK _ _ ?_; clear hK K)
      repeat (first | refine Goes.reg ?_ | refine Goes.ctl2 rfl ?_ | ((first | refine qv1 rfl rfl rfl fun K hK => ?_ | refine qv3 rfl rfl rfl fun K hK => ?_ | refine qv2 rfl rfl rfl rfl rfl rfl fun K hK => ?_ | refine qv4 rfl rfl rfl rfl rfl rfl fun K hK => ?_ | refine qn1 rfl rfl rfl fun K hK => ?_ | refine qn3 rfl rfl rfl fun K hK => ?_ | refine qt1 rfl rfl rfl fun K hK => ?_ | refine qt3 rfl rfl rfl fun K hK => ?_); simp (disch := (first | omega | (simp only [sz] <;> omega) | fail)) only [go_sem]; with_reducible refine hK _ _ ?_; clear hK K) | refine At.nil rfl ?_ | refine RG.nil rfl ?_ | ((first | refine AtL.skipg rfl rfl rfl rfl rfl ?_ | refine RGL.skipg rfl rfl rfl rfl rfl ?_ | refine AtL.skipu rfl rfl rfl rfl ?_ | refine RGL.skipu rfl rfl rfl rfl ?_); simp only [putL, List.set_cons_zero, List.set_cons_succ]) | refine Goes.yes rfl ?_ | refine Goes.no rfl ?_ | refine Goes.drawR [] (by kernel_rfl) ?_)
      refine Goes.finS rfl (by simp (disch := (first | omega | (simp only [heapL_next, List.length_cons, List.length_nil, List.size_toArray, geo_len] <;> omega) | fail)) only [go_sem, resA, res1A, Try.results36] <;> rfl) ?_ rfl ?_
      · rfl
      · exact Clo.plain rfl
    · rw [show ofV (fs L 0) = .slice (some ⟨0, 0, none⟩) (fs L 0).length (fs L 0).length by cases e : fs L 0 with | nil => exact absurd e h0 | cons r M => rfl, show ofR (fs L 0) = [⟨rowC runC (fs L 0), 63, false, some 2⟩] by cases e : fs L 0 with | nil => exact absurd e h0 | cons r M => rfl]
      repeat (first | refine Goes.reg ?_ | refine Goes.ctl2 rfl ?_ | ((first | refine qv1 rfl rfl rfl fun K hK => ?_ | refine qv3 rfl rfl rfl fun K hK => ?_ | refine qv2 rfl rfl rfl rfl rfl rfl fun K hK => ?_ | refine qv4 rfl rfl rfl rfl rfl rfl fun K hK => ?_ | refine qn1 rfl rfl rfl fun K hK => ?_ | refine qn3 rfl rfl rfl fun K hK => ?_ | refine qt1 rfl rfl rfl fun K hK => ?_ | refine qt3 rfl rfl rfl fun K hK => ?_); simp (disch := (first | omega | (simp only [sz] <;> omega) | fail)) only [go_sem]; with_reducible refine hK _ _ ?_; clear hK K) | refine At.nil rfl ?_ | refine RG.nil rfl ?_ | ((first | refine AtL.skipg rfl rfl rfl rfl rfl ?_ | refine RGL.skipg rfl rfl rfl rfl rfl ?_ | refine AtL.skipu rfl rfl rfl rfl ?_ | refine RGL.skipu rfl rfl rfl rfl ?_); simp only [putL, List.set_cons_zero, List.set_cons_succ]) | refine Goes.yes rfl ?_ | refine Goes.no rfl ?_ | refine Goes.drawR [] (by kernel_rfl) ?_)
      ((first | refine qp1 rfl rfl fun K hK => ?_ | refine qp3 rfl rfl fun K hK => ?_); simp (disch := (first | omega | (simp only [sz] <;> omega) | fail)) only [go_sem]; refine ⟨_, _, qpu fun w => gPages_any _ _ w, ?_⟩; (try simp only [go_sem]); with_reducible refine hK _ _ ?_; clear hK K)
      repeat (first | refine Goes.reg ?_ | refine Goes.ctl2 rfl ?_ | ((first | refine qv1 rfl rfl rfl fun K hK => ?_ | refine qv3 rfl rfl rfl fun K hK => ?_ | refine qv2 rfl rfl rfl rfl rfl rfl fun K hK => ?_ | refine qv4 rfl rfl rfl rfl rfl rfl fun K hK => ?_ | refine qn1 rfl rfl rfl fun K hK => ?_ | refine qn3 rfl rfl rfl fun K hK => ?_ | refine qt1 rfl rfl rfl fun K hK => ?_ | refine qt3 rfl rfl rfl fun K hK => ?_); simp (disch := (first | omega | (simp only [sz] <;> omega) | fail)) only [go_sem]; with_reducible refine hK _ _ ?_; clear hK K) | refine At.nil rfl ?_ | refine RG.nil rfl ?_ | ((first | refine AtL.skipg rfl rfl rfl rfl rfl ?_ | refine RGL.skipg rfl rfl rfl rfl rfl ?_ | refine AtL.skipu rfl rfl rfl rfl ?_ | refine RGL.skipu rfl rfl rfl rfl ?_); simp only [putL, List.set_cons_zero, List.set_cons_succ]) | refine Goes.yes rfl ?_ | refine Goes.no rfl ?_ | refine Goes.drawR [] (by kernel_rfl) ?_)
      refine Goes.giveJ rfl (by simp (disch := (first | omega | (simp only [heapL_next, List.length_cons, List.length_nil, List.size_toArray, geo_len] <;> omega) | fail)) only [go_sem, resA, res1A, Try.results36] <;> rfl) rfl ?_ (rowC_plain runC_plain _)
      unfold VB; omega
  obtain ⟨A, r, C, z, rfl, rfl, hz⟩ := pw_cut (L := L) (x := i) (by omega)
  have hlen := fu_len hpos 0 (tot A + z)
  have hrt : r.2 < 1024 := by
    rw [tot_append] at htot
    simp only [tot] at htot
    omega
  obtain ⟨hk, hn⟩ := pw_fr1 hpos hz hrt
  have hu := hP.pg (tot A + z) hlt
  have hs := fu_step hpos hz
  obtain ⟨u, hu0⟩ : ∃ u, u = pw (A ++ r :: C) (tot A + z) := ⟨_, rfl⟩
  rw [← hu0] at hu hk hn
  obtain ⟨kk, hkk⟩ : ∃ kk, kk = u.toNat / 2 ^ 0 % 2 ^ 3 := ⟨_, rfl⟩
  obtain ⟨ll, hll⟩ : ∃ ll, ll = u.toNat / 2 ^ 3 % 2 ^ 10 := ⟨_, rfl⟩
  rw [show kd u = kk from hkk.symm] at hk
  rw [show ln u = ll from hll.symm] at hn
  by_cases hf : r.1 = 1 ∧ z = 0
  · have hk1 : kk = 1 := hk.2 hf
    have hl1 : ll = r.2 := hn hf
    rw [if_pos hf] at hs
    have hz0 := hf.2
    have hne : fu (A ++ r :: C) 0 (tot A + z + 1) ≠ [] := by rw [hs]; simp
    rcases hY with ⟨h0, rfl, rfl⟩ | ⟨h0, rfl, tl, rfl⟩
    · rw [h0, List.nil_append] at hs
      repeat (first | refine Goes.reg ?_ | refine Goes.ctl2 rfl ?_ | ((first | refine qv1 rfl rfl rfl fun K hK => ?_ | refine qv3 rfl rfl rfl fun K hK => ?_ | refine qv2 rfl rfl rfl rfl rfl rfl fun K hK => ?_ | refine qv4 rfl rfl rfl rfl rfl rfl fun K hK => ?_ | refine qn1 rfl rfl rfl fun K hK => ?_ | refine qn3 rfl rfl rfl fun K hK => ?_ | refine qt1 rfl rfl rfl fun K hK => ?_ | refine qt3 rfl rfl rfl fun K hK => ?_); simp (disch := (first | omega | (simp only [sz] <;> omega) | fail)) only [go_sem]; with_reducible refine hK _ _ ?_; clear hK K) | refine At.nil rfl ?_ | refine RG.nil rfl ?_ | ((first | refine AtL.skipg rfl rfl rfl rfl rfl ?_ | refine RGL.skipg rfl rfl rfl rfl rfl ?_ | refine AtL.skipu rfl rfl rfl rfl ?_ | refine RGL.skipu rfl rfl rfl rfl ?_); simp only [putL, List.set_cons_zero, List.set_cons_succ]) | refine Goes.yes rfl ?_ | refine Goes.no rfl ?_ | refine Goes.drawR [] (by kernel_rfl) ?_)
      ((first | refine qp1 rfl rfl fun K hK => ?_ | refine qp3 rfl rfl fun K hK => ?_); simp (disch := (first | omega | (simp only [sz] <;> omega) | fail)) only [go_sem]; refine ⟨_, _, qpu fun w => gPages_any _ _ w, ?_⟩; (try simp only [go_sem]); with_reducible refine hK _ _ ?_; clear hK K)
      repeat (first | refine Goes.reg ?_ | refine Goes.ctl2 rfl ?_ | ((first | refine qv1 rfl rfl rfl fun K hK => ?_ | refine qv3 rfl rfl rfl fun K hK => ?_ | refine qv2 rfl rfl rfl rfl rfl rfl fun K hK => ?_ | refine qv4 rfl rfl rfl rfl rfl rfl fun K hK => ?_ | refine qn1 rfl rfl rfl fun K hK => ?_ | refine qn3 rfl rfl rfl fun K hK => ?_ | refine qt1 rfl rfl rfl fun K hK => ?_ | refine qt3 rfl rfl rfl fun K hK => ?_); simp (disch := (first | omega | (simp only [sz] <;> omega) | fail)) only [go_sem]; with_reducible refine hK _ _ ?_; clear hK K) | refine At.nil rfl ?_ | refine RG.nil rfl ?_ | ((first | refine AtL.skipg rfl rfl rfl rfl rfl ?_ | refine RGL.skipg rfl rfl rfl rfl rfl ?_ | refine AtL.skipu rfl rfl rfl rfl ?_ | refine RGL.skipu rfl rfl rfl rfl ?_); simp only [putL, List.set_cons_zero, List.set_cons_succ]) | refine Goes.yes rfl ?_ | refine Goes.no rfl ?_ | refine Goes.drawR [] (by kernel_rfl) ?_)
      ((first | refine qp1 rfl rfl fun K hK => ?_ | refine qp3 rfl rfl fun K hK => ?_); simp (disch := (first | omega | (simp only [sz] <;> omega) | fail)) only [go_sem]; refine ⟨_, _, qpu fun w => gPage_any N T ((tot A + z : Nat) : Int) w (by omega) (by omega), ?_⟩; (try simp only [go_sem]); with_reducible refine hK _ _ ?_; clear hK K)
      repeat (first | refine Goes.reg ?_ | refine Goes.ctl2 rfl ?_ | ((first | refine qv1 rfl rfl rfl fun K hK => ?_ | refine qv3 rfl rfl rfl fun K hK => ?_ | refine qv2 rfl rfl rfl rfl rfl rfl fun K hK => ?_ | refine qv4 rfl rfl rfl rfl rfl rfl fun K hK => ?_ | refine qn1 rfl rfl rfl fun K hK => ?_ | refine qn3 rfl rfl rfl fun K hK => ?_ | refine qt1 rfl rfl rfl fun K hK => ?_ | refine qt3 rfl rfl rfl fun K hK => ?_); simp (disch := (first | omega | (simp only [sz] <;> omega) | fail)) only [go_sem]; with_reducible refine hK _ _ ?_; clear hK K) | refine At.nil rfl ?_ | refine RG.nil rfl ?_ | ((first | refine AtL.skipg rfl rfl rfl rfl rfl ?_ | refine RGL.skipg rfl rfl rfl rfl rfl ?_ | refine AtL.skipu rfl rfl rfl rfl ?_ | refine RGL.skipu rfl rfl rfl rfl ?_); simp only [putL, List.set_cons_zero, List.set_cons_succ]) | refine Goes.yes rfl ?_ | refine Goes.no rfl ?_ | refine Goes.drawR [] (by kernel_rfl) ?_)
      ((first | refine qp1 rfl rfl fun K hK => ?_ | refine qp3 rfl rfl fun K hK => ?_); simp (disch := (first | omega | (simp only [sz] <;> omega) | fail)) only [go_sem]; refine ⟨_, _, .word _ hm, ?_⟩; (try simp only [go_sem]); with_reducible refine hK _ _ ?_; clear hK K)
      rw [ld_w hu]
      repeat (first | refine Goes.reg ?_ | refine Goes.ctl2 rfl ?_ | ((first | refine qv1 rfl rfl rfl fun K hK => ?_ | refine qv3 rfl rfl rfl fun K hK => ?_ | refine qv2 rfl rfl rfl rfl rfl rfl fun K hK => ?_ | refine qv4 rfl rfl rfl rfl rfl rfl fun K hK => ?_ | refine qn1 rfl rfl rfl fun K hK => ?_ | refine qn3 rfl rfl rfl fun K hK => ?_ | refine qt1 rfl rfl rfl fun K hK => ?_ | refine qt3 rfl rfl rfl fun K hK => ?_); simp (disch := (first | omega | (simp only [sz] <;> omega) | fail)) only [go_sem]; with_reducible refine hK _ _ ?_; clear hK K) | refine At.nil rfl ?_ | refine RG.nil rfl ?_ | ((first | refine AtL.skipg rfl rfl rfl rfl rfl ?_ | refine RGL.skipg rfl rfl rfl rfl rfl ?_ | refine AtL.skipu rfl rfl rfl rfl ?_ | refine RGL.skipu rfl rfl rfl rfl ?_); simp only [putL, List.set_cons_zero, List.set_cons_succ]) | refine Goes.yes rfl ?_ | refine Goes.no rfl ?_ | refine Goes.drawR [] (by kernel_rfl) ?_)
      ((first | refine qc1 rfl rfl fun K hK => ?_ | refine qc3 rfl rfl fun K hK => ?_); simp (disch := (first | omega | (simp only [sz] <;> omega) | fail)) only [go_sem]; refine ⟨_, _, pageOf_does _ u, ?_⟩; (try simp only [go_sem]); with_reducible refine hK _ _ ?_; clear hK K)
      rw [← hkk, ← hll]
      unfold pgV
      repeat (first | refine Goes.reg ?_ | refine Goes.ctl2 rfl ?_ | ((first | refine qv1 rfl rfl rfl fun K hK => ?_ | refine qv3 rfl rfl rfl fun K hK => ?_ | refine qv2 rfl rfl rfl rfl rfl rfl fun K hK => ?_ | refine qv4 rfl rfl rfl rfl rfl rfl fun K hK => ?_ | refine qn1 rfl rfl rfl fun K hK => ?_ | refine qn3 rfl rfl rfl fun K hK => ?_ | refine qt1 rfl rfl rfl fun K hK => ?_ | refine qt3 rfl rfl rfl fun K hK => ?_); simp (disch := (first | omega | (simp only [sz] <;> omega) | fail)) only [go_sem]; with_reducible refine hK _ _ ?_; clear hK K) | refine At.nil rfl ?_ | refine RG.nil rfl ?_ | ((first | refine AtL.skipg rfl rfl rfl rfl rfl ?_ | refine RGL.skipg rfl rfl rfl rfl rfl ?_ | refine AtL.skipu rfl rfl rfl rfl ?_ | refine RGL.skipu rfl rfl rfl rfl ?_); simp only [putL, List.set_cons_zero, List.set_cons_succ]) | refine Goes.yes rfl ?_ | refine Goes.no rfl ?_ | refine Goes.drawR [] (by kernel_rfl) ?_)
      (refine At.appE rfl rfl rfl rfl (app_nil_new appT_run (cells_gap 1 rfl rfl (by decide)) (by decide) (by decide)) (by simp (disch := (first | omega | (simp only [sz] <;> omega) | fail)) only [go_sem]; (try simp only [sz]); unfold VB; omega) fun K hK => ?_; simp (disch := (first | omega | (simp only [sz] <;> omega) | fail)) only [go_sem]; with_reducible refine hK _ _ ?_; clear hK K)
      repeat (first | refine Goes.reg ?_ | refine Goes.ctl2 rfl ?_ | ((first | refine qv1 rfl rfl rfl fun K hK => ?_ | refine qv3 rfl rfl rfl fun K hK => ?_ | refine qv2 rfl rfl rfl rfl rfl rfl fun K hK => ?_ | refine qv4 rfl rfl rfl rfl rfl rfl fun K hK => ?_ | refine qn1 rfl rfl rfl fun K hK => ?_ | refine qn3 rfl rfl rfl fun K hK => ?_ | refine qt1 rfl rfl rfl fun K hK => ?_ | refine qt3 rfl rfl rfl fun K hK => ?_); simp (disch := (first | omega | (simp only [sz] <;> omega) | fail)) only [go_sem]; with_reducible refine hK _ _ ?_; clear hK K) | refine At.nil rfl ?_ | refine RG.nil rfl ?_ | ((first | refine AtL.skipg rfl rfl rfl rfl rfl ?_ | refine RGL.skipg rfl rfl rfl rfl rfl ?_ | refine AtL.skipu rfl rfl rfl rfl ?_ | refine RGL.skipu rfl rfl rfl rfl ?_); simp only [putL, List.set_cons_zero, List.set_cons_succ]) | refine Goes.yes rfl ?_ | refine Goes.no rfl ?_ | refine Goes.drawR [] (by kernel_rfl) ?_)
      refine Goes.forgetS [_, _] [_] ?_ (by simp only [List.length_cons, List.length_nil]; omega)
      exact ih _ _ _ _ (by omega) ⟨tot A + z + 1, q + 2, _, _, rfl, hlt, by omega, (by simp only [List.length_cons, List.length_nil]; omega), (.inr ⟨hne, by rw [hs]; rfl, [], by rw [hs, hl1]; simp [rowC, runC, hz0]⟩), rfl, rfl, rfl, rfl, rfl, rfl, rfl⟩
    · (try simp only [List.length_cons] at hq2)
      repeat (first | refine Goes.reg ?_ | refine Goes.ctl2 rfl ?_ | ((first | refine qv1 rfl rfl rfl fun K hK => ?_ | refine qv3 rfl rfl rfl fun K hK => ?_ | refine qv2 rfl rfl rfl rfl rfl rfl fun K hK => ?_ | refine qv4 rfl rfl rfl rfl rfl rfl fun K hK => ?_ | refine qn1 rfl rfl rfl fun K hK => ?_ | refine qn3 rfl rfl rfl fun K hK => ?_ | refine qt1 rfl rfl rfl fun K hK => ?_ | refine qt3 rfl rfl rfl fun K hK => ?_); simp (disch := (first | omega | (simp only [sz] <;> omega) | fail)) only [go_sem]; with_reducible refine hK _ _ ?_; clear hK K) | refine At.nil rfl ?_ | refine RG.nil rfl ?_ | ((first | refine AtL.skipg rfl rfl rfl rfl rfl ?_ | refine RGL.skipg rfl rfl rfl rfl rfl ?_ | refine AtL.skipu rfl rfl rfl rfl ?_ | refine RGL.skipu rfl rfl rfl rfl ?_); simp only [putL, List.set_cons_zero, List.set_cons_succ]) | refine Goes.yes rfl ?_ | refine Goes.no rfl ?_ | refine Goes.drawR [] (by kernel_rfl) ?_)
      ((first | refine qp1 rfl rfl fun K hK => ?_ | refine qp3 rfl rfl fun K hK => ?_); simp (disch := (first | omega | (simp only [sz] <;> omega) | fail)) only [go_sem]; refine ⟨_, _, qpu fun w => gPages_any _ _ w, ?_⟩; (try simp only [go_sem]); with_reducible refine hK _ _ ?_; clear hK K)
      repeat (first | refine Goes.reg ?_ | refine Goes.ctl2 rfl ?_ | ((first | refine qv1 rfl rfl rfl fun K hK => ?_ | refine qv3 rfl rfl rfl fun K hK => ?_ | refine qv2 rfl rfl rfl rfl rfl rfl fun K hK => ?_ | refine qv4 rfl rfl rfl rfl rfl rfl fun K hK => ?_ | refine qn1 rfl rfl rfl fun K hK => ?_ | refine qn3 rfl rfl rfl fun K hK => ?_ | refine qt1 rfl rfl rfl fun K hK => ?_ | refine qt3 rfl rfl rfl fun K hK => ?_); simp (disch := (first | omega | (simp only [sz] <;> omega) | fail)) only [go_sem]; with_reducible refine hK _ _ ?_; clear hK K) | refine At.nil rfl ?_ | refine RG.nil rfl ?_ | ((first | refine AtL.skipg rfl rfl rfl rfl rfl ?_ | refine RGL.skipg rfl rfl rfl rfl rfl ?_ | refine AtL.skipu rfl rfl rfl rfl ?_ | refine RGL.skipu rfl rfl rfl rfl ?_); simp only [putL, List.set_cons_zero, List.set_cons_succ]) | refine Goes.yes rfl ?_ | refine Goes.no rfl ?_ | refine Goes.drawR [] (by kernel_rfl) ?_)
      ((first | refine qp1 rfl rfl fun K hK => ?_ | refine qp3 rfl rfl fun K hK => ?_); simp (disch := (first | omega | (simp only [sz] <;> omega) | fail)) only [go_sem]; refine ⟨_, _, qpu fun w => gPage_any N T ((tot A + z : Nat) : Int) w (by omega) (by omega), ?_⟩; (try simp only [go_sem]); with_reducible refine hK _ _ ?_; clear hK K)
      repeat (first | refine Goes.reg ?_ | refine Goes.ctl2 rfl ?_ | ((first | refine qv1 rfl rfl rfl fun K hK => ?_ | refine qv3 rfl rfl rfl fun K hK => ?_ | refine qv2 rfl rfl rfl rfl rfl rfl fun K hK => ?_ | refine qv4 rfl rfl rfl rfl rfl rfl fun K hK => ?_ | refine qn1 rfl rfl rfl fun K hK => ?_ | refine qn3 rfl rfl rfl fun K hK => ?_ | refine qt1 rfl rfl rfl fun K hK => ?_ | refine qt3 rfl rfl rfl fun K hK => ?_); simp (disch := (first | omega | (simp only [sz] <;> omega) | fail)) only [go_sem]; with_reducible refine hK _ _ ?_; clear hK K) | refine At.nil rfl ?_ | refine RG.nil rfl ?_ | ((first | refine AtL.skipg rfl rfl rfl rfl rfl ?_ | refine RGL.skipg rfl rfl rfl rfl rfl ?_ | refine AtL.skipu rfl rfl rfl rfl ?_ | refine RGL.skipu rfl rfl rfl rfl ?_); simp only [putL, List.set_cons_zero, List.set_cons_succ]) | refine Goes.yes rfl ?_ | refine Goes.no rfl ?_ | refine Goes.drawR [] (by kernel_rfl) ?_)
      ((first | refine qp1 rfl rfl fun K hK => ?_ | refine qp3 rfl rfl fun K hK => ?_); simp (disch := (first | omega | (simp only [sz] <;> omega) | fail)) only [go_sem]; refine ⟨_, _, .word _ hm, ?_⟩; (try simp only [go_sem]); with_reducible refine hK _ _ ?_; clear hK K)
      rw [ld_w hu]
      repeat (first | refine Goes.reg ?_ | refine Goes.ctl2 rfl ?_ | ((first | refine qv1 rfl rfl rfl fun K hK => ?_ | refine qv3 rfl rfl rfl fun K hK => ?_ | refine qv2 rfl rfl rfl rfl rfl rfl fun K hK => ?_ | refine qv4 rfl rfl rfl rfl rfl rfl fun K hK => ?_ | refine qn1 rfl rfl rfl fun K hK => ?_ | refine qn3 rfl rfl rfl fun K hK => ?_ | refine qt1 rfl rfl rfl fun K hK => ?_ | refine qt3 rfl rfl rfl fun K hK => ?_); simp (disch := (first | omega | (simp only [sz] <;> omega) | fail)) only [go_sem]; with_reducible refine hK _ _ ?_; clear hK K) | refine At.nil rfl ?_ | refine RG.nil rfl ?_ | ((first | refine AtL.skipg rfl rfl rfl rfl rfl ?_ | refine RGL.skipg rfl rfl rfl rfl rfl ?_ | refine AtL.skipu rfl rfl rfl rfl ?_ | refine RGL.skipu rfl rfl rfl rfl ?_); simp only [putL, List.set_cons_zero, List.set_cons_succ]) | refine Goes.yes rfl ?_ | refine Goes.no rfl ?_ | refine Goes.drawR [] (by kernel_rfl) ?_)
      ((first | refine qc1 rfl rfl fun K hK => ?_ | refine qc3 rfl rfl fun K hK => ?_); simp (disch := (first | omega | (simp only [sz] <;> omega) | fail)) only [go_sem]; refine ⟨_, _, pageOf_does _ u, ?_⟩; (try simp only [go_sem]); with_reducible refine hK _ _ ?_; clear hK K)
      rw [← hkk, ← hll]
      unfold pgV
      repeat (first | refine Goes.reg ?_ | refine Goes.ctl2 rfl ?_ | ((first | refine qv1 rfl rfl rfl fun K hK => ?_ | refine qv3 rfl rfl rfl fun K hK => ?_ | refine qv2 rfl rfl rfl rfl rfl rfl fun K hK => ?_ | refine qv4 rfl rfl rfl rfl rfl rfl fun K hK => ?_ | refine qn1 rfl rfl rfl fun K hK => ?_ | refine qn3 rfl rfl rfl fun K hK => ?_ | refine qt1 rfl rfl rfl fun K hK => ?_ | refine qt3 rfl rfl rfl fun K hK => ?_); simp (disch := (first | omega | (simp only [sz] <;> omega) | fail)) only [go_sem]; with_reducible refine hK _ _ ?_; clear hK K) | refine At.nil rfl ?_ | refine RG.nil rfl ?_ | ((first | refine AtL.skipg rfl rfl rfl rfl rfl ?_ | refine RGL.skipg rfl rfl rfl rfl rfl ?_ | refine AtL.skipu rfl rfl rfl rfl ?_ | refine RGL.skipu rfl rfl rfl rfl ?_); simp only [putL, List.set_cons_zero, List.set_cons_succ]) | refine Goes.yes rfl ?_ | refine Goes.no rfl ?_ | refine Goes.drawR [] (by kernel_rfl) ?_)
      (refine At.appE rfl rfl rfl rfl (app_grow appT_run gap_hi0 rfl rfl (rowC_len runC_len _) (cells_gap _ (List.getElem?_cons_succ.trans app_at) rfl (by decide)) rfl (by decide) (by omega)) (by simp (disch := (first | omega | (simp only [sz] <;> omega) | fail)) only [go_sem]; (try simp only [sz]); unfold VB; omega) fun K hK => ?_; simp (disch := (first | omega | (simp only [sz] <;> omega) | fail)) only [go_sem]; with_reducible refine hK _ _ ?_; clear hK K)
      repeat (first | refine Goes.reg ?_ | refine Goes.ctl2 rfl ?_ | ((first | refine qv1 rfl rfl rfl fun K hK => ?_ | refine qv3 rfl rfl rfl fun K hK => ?_ | refine qv2 rfl rfl rfl rfl rfl rfl fun K hK => ?_ | refine qv4 rfl rfl rfl rfl rfl rfl fun K hK => ?_ | refine qn1 rfl rfl rfl fun K hK => ?_ | refine qn3 rfl rfl rfl fun K hK => ?_ | refine qt1 rfl rfl rfl fun K hK => ?_ | refine qt3 rfl rfl rfl fun K hK => ?_); simp (disch := (first | omega | (simp only [sz] <;> omega) | fail)) only [go_sem]; with_reducible refine hK _ _ ?_; clear hK K) | refine At.nil rfl ?_ | refine RG.nil rfl ?_ | ((first | refine AtL.skipg rfl rfl rfl rfl rfl ?_ | refine RGL.skipg rfl rfl rfl rfl rfl ?_ | refine AtL.skipu rfl rfl rfl rfl ?_ | refine RGL.skipu rfl rfl rfl rfl ?_); simp only [putL, List.set_cons_zero, List.set_cons_succ]) | refine Goes.yes rfl ?_ | refine Goes.no rfl ?_ | refine Goes.drawR [] (by kernel_rfl) ?_)
      refine Goes.forgetS (none :: (tl ++ [_] ++ [_])) [_] ?_ (by simp only [List.length_cons, List.length_nil]; omega)
      exact ih _ _ _ _ (by omega) ⟨tot A + z + 1, _, _, _, rfl, hlt, by omega, (by simp only [List.length_cons, List.length_append, List.length_nil]; omega), (.inr ⟨hne, by rw [hs]; first | rfl | (simp; done) | (simp; rfl), [], by rw [hs, hl1]; simp [rowC, runC, hz0]⟩), rfl, rfl, rfl, rfl, rfl, rfl, rfl⟩
  · have hk1 : kk ≠ 1 := fun h => hf (hk.1 h)
    rw [if_neg hf, List.append_nil] at hs
    rcases hY with ⟨h0, rfl, rfl⟩ | ⟨h0, rfl, tl, rfl⟩
    · (try simp only [List.length_cons] at hq2)
      repeat (first | refine Goes.reg ?_ | refine Goes.ctl2 rfl ?_ | ((first | refine qv1 rfl rfl rfl fun K hK => ?_ | refine qv3 rfl rfl rfl fun K hK => ?_ | refine qv2 rfl rfl rfl rfl rfl rfl fun K hK => ?_ | refine qv4 rfl rfl rfl rfl rfl rfl fun K hK => ?_ | refine qn1 rfl rfl rfl fun K hK => ?_ | refine qn3 rfl rfl rfl fun K hK => ?_ | refine qt1 rfl rfl rfl fun K hK => ?_ | refine qt3 rfl rfl rfl fun K hK => ?_); simp (disch := (first | omega | (simp only [sz] <;> omega) | fail)) only [go_sem]; with_reducible refine hK _ _ ?_; clear hK K) | refine At.nil rfl ?_ | refine RG.nil rfl ?_ | ((first | refine AtL.skipg rfl rfl rfl rfl rfl ?_ | refine RGL.skipg rfl rfl rfl rfl rfl ?_ | refine AtL.skipu rfl rfl rfl rfl ?_ | refine RGL.skipu rfl rfl rfl rfl ?_); simp only [putL, List.set_cons_zero, List.set_cons_succ]) | refine Goes.yes rfl ?_ | refine Goes.no rfl ?_ | refine Goes.drawR [] (by kernel_rfl) ?_)
      ((first | refine qp1 rfl rfl fun K hK => ?_ | refine qp3 rfl rfl fun K hK => ?_); simp (disch := (first | omega | (simp only [sz] <;> omega) | fail)) only [go_sem]; refine ⟨_, _, qpu fun w => gPages_any _ _ w, ?_⟩; (try simp only [go_sem]); with_reducible refine hK _ _ ?_; clear hK K)
      repeat (first | refine Goes.reg ?_ | refine Goes.ctl2 rfl ?_ | ((first | refine qv1 rfl rfl rfl fun K hK => ?_ | refine qv3 rfl rfl rfl fun K hK => ?_ | refine qv2 rfl rfl rfl rfl rfl rfl fun K hK => ?_ | refine qv4 rfl rfl rfl rfl rfl rfl fun K hK => ?_ | refine qn1 rfl rfl rfl fun K hK => ?_ | refine qn3 rfl rfl rfl fun K hK => ?_ | refine qt1 rfl rfl rfl fun K hK => ?_ | refine qt3 rfl rfl rfl fun K hK => ?_); simp (disch := (first | omega | (simp only [sz] <;> omega) | fail)) only [go_sem]; with_reducible refine hK _ _ ?_; clear hK K) | refine At.nil rfl ?_ | refine RG.nil rfl ?_ | ((first | refine AtL.skipg rfl rfl rfl rfl rfl ?_ | refine RGL.skipg rfl rfl rfl rfl rfl ?_ | refine AtL.skipu rfl rfl rfl rfl ?_ | refine RGL.skipu rfl rfl rfl rfl ?_); simp only [putL, List.set_cons_zero, List.set_cons_succ]) | refine Goes.yes rfl ?_ | refine Goes.no rfl ?_ | refine Goes.drawR [] (by kernel_rfl) ?_)
      ((first | refine qp1 rfl rfl fun K hK => ?_ | refine qp3 rfl rfl fun K hK => ?_); simp (disch := (first | omega | (simp only [sz] <;> omega) | fail)) only [go_sem]; refine ⟨_, _, qpu fun w => gPage_any N T ((tot A + z : Nat) : Int) w (by omega) (by omega), ?_⟩; (try simp only [go_sem]); with_reducible refine hK _ _ ?_; clear hK K)
      repeat (first | refine Goes.reg ?_ | refine Goes.ctl2 rfl ?_ | ((first | refine qv1 rfl rfl rfl fun K hK => ?_ | refine qv3 rfl rfl rfl fun K hK => ?_ | refine qv2 rfl rfl rfl rfl rfl rfl fun K hK => ?_ | refine qv4 rfl rfl rfl rfl rfl rfl fun K hK => ?_ | refine qn1 rfl rfl rfl fun K hK => ?_ | refine qn3 rfl rfl rfl fun K hK => ?_ | refine qt1 rfl rfl rfl fun K hK => ?_ | refine qt3 rfl rfl rfl fun K hK => ?_); simp (disch := (first | omega | (simp only [sz] <;> omega) | fail)) only [go_sem]; with_reducible refine hK _ _ ?_; clear hK K) | refine At.nil rfl ?_ | refine RG.nil rfl ?_ | ((first | refine AtL.skipg rfl rfl rfl rfl rfl ?_ | refine RGL.skipg rfl rfl rfl rfl rfl ?_ | refine AtL.skipu rfl rfl rfl rfl ?_ | refine RGL.skipu rfl rfl rfl rfl ?_); simp only [putL, List.set_cons_zero, List.set_cons_succ]) | refine Goes.yes rfl ?_ | refine Goes.no rfl ?_ | refine Goes.drawR [] (by kernel_rfl) ?_)
      ((first | refine qp1 rfl rfl fun K hK => ?_ | refine qp3 rfl rfl fun K hK => ?_); simp (disch := (first | omega | (simp only [sz] <;> omega) | fail)) only [go_sem]; refine ⟨_, _, .word _ hm, ?_⟩; (try simp only [go_sem]); with_reducible refine hK _ _ ?_; clear hK K)
      rw [ld_w hu]
      repeat (first | refine Goes.reg ?_ | refine Goes.ctl2 rfl ?_ | ((first | refine qv1 rfl rfl rfl fun K hK => ?_ | refine qv3 rfl rfl rfl fun K hK => ?_ | refine qv2 rfl rfl rfl rfl rfl rfl fun K hK => ?_ | refine qv4 rfl rfl rfl rfl rfl rfl fun K hK => ?_ | refine qn1 rfl rfl rfl fun K hK => ?_ | refine qn3 rfl rfl rfl fun K hK => ?_ | refine qt1 rfl rfl rfl fun K hK => ?_ | refine qt3 rfl rfl rfl fun K hK => ?_); simp (disch := (first | omega | (simp only [sz] <;> omega) | fail)) only [go_sem]; with_reducible refine hK _ _ ?_; clear hK K) | refine At.nil rfl ?_ | refine RG.nil rfl ?_ | ((first | refine AtL.skipg rfl rfl rfl rfl rfl ?_ | refine RGL.skipg rfl rfl rfl rfl rfl ?_ | refine AtL.skipu rfl rfl rfl rfl ?_ | refine RGL.skipu rfl rfl rfl rfl ?_); simp only [putL, List.set_cons_zero, List.set_cons_succ]) | refine Goes.yes rfl ?_ | refine Goes.no rfl ?_ | refine Goes.drawR [] (by kernel_rfl) ?_)
      ((first | refine qc1 rfl rfl fun K hK => ?_ | refine qc3 rfl rfl fun K hK => ?_); simp (disch := (first | omega | (simp only [sz] <;> omega) | fail)) only [go_sem]; refine ⟨_, _, pageOf_does _ u, ?_⟩; (try simp only [go_sem]); with_reducible refine hK _ _ ?_; clear hK K)
      rw [← hkk, ← hll]
      unfold pgV
      repeat (first | refine Goes.reg ?_ | refine Goes.ctl2 rfl ?_ | ((first | refine qv1 rfl rfl rfl fun K hK => ?_ | refine qv3 rfl rfl rfl fun K hK => ?_ | refine qv2 rfl rfl rfl rfl rfl rfl fun K hK => ?_ | refine qv4 rfl rfl rfl rfl rfl rfl fun K hK => ?_ | refine qn1 rfl rfl rfl fun K hK => ?_ | refine qn3 rfl rfl rfl fun K hK => ?_ | refine qt1 rfl rfl rfl fun K hK => ?_ | refine qt3 rfl rfl rfl fun K hK => ?_); simp (disch := (first | omega | (simp only [sz] <;> omega) | fail)) only [go_sem]; with_reducible refine hK _ _ ?_; clear hK K) | refine At.nil rfl ?_ | refine RG.nil rfl ?_ | ((first | refine AtL.skipg rfl rfl rfl rfl rfl ?_ | refine RGL.skipg rfl rfl rfl rfl rfl ?_ | refine AtL.skipu rfl rfl rfl rfl ?_ | refine RGL.skipu rfl rfl rfl rfl ?_); simp only [putL, List.set_cons_zero, List.set_cons_succ]) | refine Goes.yes rfl ?_ | refine Goes.no rfl ?_ | refine Goes.drawR [] (by kernel_rfl) ?_)
      refine Goes.forgetS [_] [] ?_ (by simp only [List.length_cons, List.length_nil]; omega)
      exact ih _ _ _ _ (by omega) ⟨tot A + z + 1, q + 1, _, _, rfl, hlt, by omega, (by simp only [List.length_nil]; omega), (.inl ⟨by rw [hs]; exact h0, rfl, rfl⟩), rfl, rfl, rfl, rfl, rfl, rfl, rfl⟩
    · (try simp only [List.length_cons] at hq2)
      repeat (first | refine Goes.reg ?_ | refine Goes.ctl2 rfl ?_ | ((first | refine qv1 rfl rfl rfl fun K hK => ?_ | refine qv3 rfl rfl rfl fun K hK => ?_ | refine qv2 rfl rfl rfl rfl rfl rfl fun K hK => ?_ | refine qv4 rfl rfl rfl rfl rfl rfl fun K hK => ?_ | refine qn1 rfl rfl rfl fun K hK => ?_ | refine qn3 rfl rfl rfl fun K hK => ?_ | refine qt1 rfl rfl rfl fun K hK => ?_ | refine qt3 rfl rfl rfl fun K hK => ?_); simp (disch := (first | omega | (simp only [sz] <;> omega) | fail)) only [go_sem]; with_reducible refine hK _ _ ?_; clear hK K) | refine At.nil rfl ?_ | refine RG.nil rfl ?_ | ((first | refine AtL.skipg rfl rfl rfl rfl rfl ?_ | refine RGL.skipg rfl rfl rfl rfl rfl ?_ | refine AtL.skipu rfl rfl rfl rfl ?_ | refine RGL.skipu rfl rfl rfl rfl ?_); simp only [putL, List.set_cons_zero, List.set_cons_succ]) | refine Goes.yes rfl ?_ | refine Goes.no rfl ?_ | refine Goes.drawR [] (by kernel_rfl) ?_)
      ((first | refine qp1 rfl rfl fun K hK => ?_ | refine qp3 rfl rfl fun K hK => ?_); simp (disch := (first | omega | (simp only [sz] <;> omega) | fail)) only [go_sem]; refine ⟨_, _, qpu fun w => gPages_any _ _ w, ?_⟩; (try simp only [go_sem]); with_reducible refine hK _ _ ?_; clear hK K)
      repeat (first | refine Goes.reg ?_ | refine Goes.ctl2 rfl ?_ | ((first | refine qv1 rfl rfl rfl fun K hK => ?_ | refine qv3 rfl rfl rfl fun K hK => ?_ | refine qv2 rfl rfl rfl rfl rfl rfl fun K hK => ?_ | refine qv4 rfl rfl rfl rfl rfl rfl fun K hK => ?_ | refine qn1 rfl rfl rfl fun K hK => ?_ | refine qn3 rfl rfl rfl fun K hK => ?_ | refine qt1 rfl rfl rfl fun K hK => ?_ | refine qt3 rfl rfl rfl fun K hK => ?_); simp (disch := (first | omega | (simp only [sz] <;> omega) | fail)) only [go_sem]; with_reducible refine hK _ _ ?_; clear hK K) | refine At.nil rfl ?_ | refine RG.nil rfl ?_ | ((first | refine AtL.skipg rfl rfl rfl rfl rfl ?_ | refine RGL.skipg rfl rfl rfl rfl rfl ?_ | refine AtL.skipu rfl rfl rfl rfl ?_ | refine RGL.skipu rfl rfl rfl rfl ?_); simp only [putL, List.set_cons_zero, List.set_cons_succ]) | refine Goes.yes rfl ?_ | refine Goes.no rfl ?_ | refine Goes.drawR [] (by kernel_rfl) ?_)
      ((first | refine qp1 rfl rfl fun K hK => ?_ | refine qp3 rfl rfl fun K hK => ?_); simp (disch := (first | omega | (simp only [sz] <;> omega) | fail)) only [go_sem]; refine ⟨_, _, qpu fun w => gPage_any N T ((tot A + z : Nat) : Int) w (by omega) (by omega), ?_⟩; (try simp only [go_sem]); with_reducible refine hK _ _ ?_; clear hK K)
      repeat (first | refine Goes.reg ?_ | refine Goes.ctl2 rfl ?_ | ((first | refine qv1 rfl rfl rfl fun K hK => ?_ | refine qv3 rfl rfl rfl fun K hK => ?_ | refine qv2 rfl rfl rfl rfl rfl rfl fun K hK => ?_ | refine qv4 rfl rfl rfl rfl rfl rfl fun K hK => ?_ | refine qn1 rfl rfl rfl fun K hK => ?_ | refine qn3 rfl rfl rfl fun K hK => ?_ | refine qt1 rfl rfl rfl fun K hK => ?_ | refine qt3 rfl rfl rfl fun K hK => ?_); simp (disch := (first | omega | (simp only [sz] <;> omega) | fail)) only [go_sem]; with_reducible refine hK _ _ ?_; clear hK K) | refine At.nil rfl ?_ | refine RG.nil rfl ?_ | ((first | refine AtL.skipg rfl rfl rfl rfl rfl ?_ | refine RGL.skipg rfl rfl rfl rfl rfl ?_ | refine AtL.skipu rfl rfl rfl rfl ?_ | refine RGL.skipu rfl rfl rfl rfl ?_); simp only [putL, List.set_cons_zero, List.set_cons_succ]) | refine Goes.yes rfl ?_ | refine Goes.no rfl ?_ | refine Goes.drawR [] (by kernel_rfl) ?_)
      ((first | refine qp1 rfl rfl fun K hK => ?_ | refine qp3 rfl rfl fun K hK => ?_); simp (disch := (first | omega | (simp only [sz] <;> omega) | fail)) only [go_sem]; refine ⟨_, _, .word _ hm, ?_⟩; (try simp only [go_sem]); with_reducible refine hK _ _ ?_; clear hK K)
      rw [ld_w hu]
      repeat (first | refine Goes.reg ?_ | refine Goes.ctl2 rfl ?_ | ((first | refine qv1 rfl rfl rfl fun K hK => ?_ | refine qv3 rfl rfl rfl fun K hK => ?_ | refine qv2 rfl rfl rfl rfl rfl rfl fun K hK => ?_ | refine qv4 rfl rfl rfl rfl rfl rfl fun K hK => ?_ | refine qn1 rfl rfl rfl fun K hK => ?_ | refine qn3 rfl rfl rfl fun K hK => ?_ | refine qt1 rfl rfl rfl fun K hK => ?_ | refine qt3 rfl rfl rfl fun K hK => ?_); simp (disch := (first | omega | (simp only [sz] <;> omega) | fail)) only [go_sem]; with_reducible refine hK _ _ ?_; clear hK K) | refine At.nil rfl ?_ | refine RG.nil rfl ?_ | ((first | refine AtL.skipg rfl rfl rfl rfl rfl ?_ | refine RGL.skipg rfl rfl rfl rfl rfl ?_ | refine AtL.skipu rfl rfl rfl rfl ?_ | refine RGL.skipu rfl rfl rfl rfl ?_); simp only [putL, List.set_cons_zero, List.set_cons_succ]) | refine Goes.yes rfl ?_ | refine Goes.no rfl ?_ | refine Goes.drawR [] (by kernel_rfl) ?_)
      ((first | refine qc1 rfl rfl fun K hK => ?_ | refine qc3 rfl rfl fun K hK => ?_); simp (disch := (first | omega | (simp only [sz] <;> omega) | fail)) only [go_sem]; refine ⟨_, _, pageOf_does _ u, ?_⟩; (try simp only [go_sem]); with_reducible refine hK _ _ ?_; clear hK K)
      rw [← hkk, ← hll]
      unfold pgV
      repeat (first | refine Goes.reg ?_ | refine Goes.ctl2 rfl ?_ | ((first | refine qv1 rfl rfl rfl fun K hK => ?_ | refine qv3 rfl rfl rfl fun K hK => ?_ | refine qv2 rfl rfl rfl rfl rfl rfl fun K hK => ?_ | refine qv4 rfl rfl rfl rfl rfl rfl fun K hK => ?_ | refine qn1 rfl rfl rfl fun K hK => ?_ | refine qn3 rfl rfl rfl fun K hK => ?_ | refine qt1 rfl rfl rfl fun K hK => ?_ | refine qt3 rfl rfl rfl fun K hK => ?_); simp (disch := (first | omega | (simp only [sz] <;> omega) | fail)) only [go_sem]; with_reducible refine hK _ _ ?_; clear hK K) | refine At.nil rfl ?_ | refine RG.nil rfl ?_ | ((first | refine AtL.skipg rfl rfl rfl rfl rfl ?_ | refine RGL.skipg rfl rfl rfl rfl rfl ?_ | refine AtL.skipu rfl rfl rfl rfl ?_ | refine RGL.skipu rfl rfl rfl rfl ?_); simp only [putL, List.set_cons_zero, List.set_cons_succ]) | refine Goes.yes rfl ?_ | refine Goes.no rfl ?_ | refine Goes.drawR [] (by kernel_rfl) ?_)
      exact ih _ _ _ _ (by omega) ⟨tot A + z + 1, q, _, _, rfl, hlt, by omega, (by simp only [List.length_cons, List.length_append, List.length_nil]; omega), (.inr ⟨by rw [hs]; exact h0, by rw [hs]; rfl, _, by rw [hs]⟩), rfl, rfl, rfl, rfl, rfl, rfl, rfl⟩
end Go.Proofs.Ytceddijolfpppaa
namespace Go.Proofs.Ytceddijolfpppaa
open Go Go.RowKit
set_option linter.unusedSimpArgs false
set_option linter.unusedVariables false
def goF (k a : Nat) (o : Fit) (r : Nat × Nat) : Fit := if rup r.1 a + k ≤ r.1 + r.2 ∧ (o.2.1 = 0 ∨ r.2 < o.2.1) then (r.1, r.2, rup r.1 a) else o
theorem best_fs {k a : Nat} : ∀ (L : List Rn) (x : Nat) (o : Fit), bestL k a L x o = (fs L x).foldl (goF k a) o
  | [], _, _ => rfl
  | r :: L, x, o => by
    simp only [bestL, fs]
    rw [best_fs L]
    by_cases hr : r.1 = 1
    · rw [if_pos hr, List.cons_append, List.nil_append, List.foldl_cons]
      simp only [goF, hr, true_and]
    · rw [if_neg hr, List.nil_append, if_neg (fun h => hr h.1)]
theorem bn_fs (b : Nat) : ∀ (L : List Rn) (x : Nat), bn L b = (fs L x).countP fun r => decide (r.2.log2 = b)
  | [], _ => rfl
  | r :: L, x => by
    rw [bn_cons, bn_fs b L (x + r.2)]
    simp only [fs]
    by_cases hr : r.1 = 1
    · rw [if_pos hr, List.cons_append, List.nil_append, List.countP_cons]
      by_cases hb : r.2.log2 = b
      · simp [hr, hb]
      · simp [hr, hb]
    · rw [if_neg hr, List.nil_append, if_neg (fun h => hr h.1), Nat.add_zero]
theorem fs_mem : ∀ {L : List Rn} {x : Nat} {r : Nat × Nat}, Pos L → r ∈ fs L x → 1 ≤ r.2 ∧ x ≤ r.1 ∧ r.1 + r.2 ≤ x + tot L
  | [], _, _, _, h => by simp [fs] at h
  | q :: L, x, r, hp, h => by
    obtain ⟨h1, h2⟩ := Pos.cons.1 hp
    simp only [fs, List.mem_append] at h
    simp only [tot]
    rcases h with h | h
    · split at h
      · rw [List.mem_singleton] at h; subst h; exact ⟨h1.1, by simp, by simp only; omega⟩
      · cases h
    · have := fs_mem h2 h
      omega
theorem fs_len {L : List Rn} (hp : Pos L) (x : Nat) : (fs L x).length ≤ tot L := by
  have := fu_len hp x (x + tot L)
  rw [fu_all hp (Nat.le_refl _)] at this
  exact this
theorem log2_one {m b : Nat} (hm : 1 ≤ m) : m / 2 ^ b = 1 ↔ m.log2 = b := by
  have h0 : m ≠ 0 := by omega
  constructor
  · intro h
    have h1 : 2 ^ b ≤ m := by
      apply Nat.le_of_not_lt; intro hlt
      rw [Nat.div_eq_of_lt hlt] at h; omega
    have h2 : m < 2 ^ (b + 1) := by
      have := Nat.div_add_mod m (2 ^ b)
      have h3 := Nat.mod_lt m (show 0 < 2 ^ b from Nat.two_pow_pos b)
      rw [h, Nat.mul_one] at this
      rw [Nat.pow_succ]; omega
    exact (Nat.log2_eq_iff h0).2 ⟨h1, h2⟩
  · intro h
    obtain ⟨h1, h2⟩ := (Nat.log2_eq_iff h0).1 h
    rw [Nat.pow_succ] at h2
    exact Nat.div_eq_of_lt_le (by omega) (by omega)
theorem shr_n {m b : Nat} : ((m : Int)).fdiv (2 ^ b) = ((m / 2 ^ b : Nat) : Int) := by
  rw [Int.fdiv_eq_ediv_of_nonneg _ (by have := Nat.two_pow_pos b; have e : ((2 : Int) ^ b) = ((2 ^ b : Nat) : Int) := by push_cast; rfl
                                       rw [e]; omega)]
  push_cast; rfl
theorem bw_nat {L : List Rn} {b : Nat} (h : bn L b ≤ 1000) : (bw L b).toNat = bn L b := by
  unfold bw
  rw [UInt64.toNat_ofNat']
  omega
def ofA (F : List (Nat × Nat)) (nx : Nat) : Option Addr := match F with | [] => none | _ :: _ => some ⟨nx, 0, none⟩
theorem ofV_ren {F : List (Nat × Nat)} {nx : Nat} : ren (upE [] nx) (ofV F) = .slice (ofA F nx) F.length F.length := by
  cases F with
  | nil => exact ren_snone _ _ _
  | cons r F => simp only [ofV, ofA, ren_ssome, adr, up_00, up_base, up_slack, Nat.add_zero]
def ofO (F : List (Nat × Nat)) : List (Option Blk) := (ofR F).map some
theorem ofR_ren {F : List (Nat × Nat)} {nx : Nat} : ((ofR F).map fun b => some (renB (upE [] nx) b)) = ofO F := by
  cases F with
  | nil => rfl
  | cons r F =>
    simp only [ofR, ofO, List.map_cons, List.map_nil, renB]
    rw [← plain_map (rowC_plain runC_plain _)]
theorem ofR_ren' {F : List (Nat × Nat)} {nx : Nat} : List.map (fun b : Blk => some { cells := List.map (ren (upE [] nx)) b.cells, elem := b.elem, ro := b.ro, grow := b.grow }) (ofR F) = ofO F := ofR_ren
theorem ofO_len {F : List (Nat × Nat)} : (ofO F).length ≤ 1 := by cases F <;> simp [ofO, ofR]
theorem ofR_len {F : List (Nat × Nat)} : (ofR F).length ≤ 1 := by cases F <;> simp [ofR]
theorem ofO_row {F : List (Nat × Nat)} (h : 0 < F.length) {nx : Nat} : ofA F nx = some ⟨nx, 0, none⟩ ∧ ofO F = [some ⟨rowC runC F, 63, false, some 2⟩] := by
  cases F with
  | nil => simp at h
  | cons r F => exact ⟨rfl, rfl⟩
attribute [go_sem] ofV_ren ofR_ren'
end Go.Proofs.Ytceddijolfpppaa
