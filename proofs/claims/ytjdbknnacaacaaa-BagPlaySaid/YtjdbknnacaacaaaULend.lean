/-
  The abstract machine: rows lent to be read, out of any heap; what is kept of the rows behind a gap.
  No condition: laws.
-/
import Derived.Test.YtjdbknnacaacaaaURun5
import Derived.Test.YtjdbknnacaacaaaUCopy
namespace Go.Proofs.Ytjdbknnacaacaaa
open Go Go.RowKit
set_option linter.unusedSimpArgs false
set_option linter.unusedVariables false
theorem bnn1 : (!(false == false)) = false ∧ (!(true == true)) = false ∧ (!(true == false)) = true ∧ (!(false == true)) = true ∧ (true == true) = true ∧ (false == false) = true ∧ (true == false) = false ∧ (false == true) = false := by decide
attribute [go_sem] bnn1
theorem backL_ro : ∀ {ns : List Nat} {l l' : List Blk} {m : Nat}, l.all (·.ro) = true → backL ns l l' m = none
  | [], _, _, _, _ => by simp [backL]
  | _ :: _, [], _, _, _ => by simp [backL]
  | _ :: _, _ :: _, [], _, _ => by simp [backL]
  | n :: ns, b :: l, b' :: l', m, h => by
    simp only [List.all_cons, Bool.and_eq_true] at h
    simp only [backL, h.1]
    rw [if_neg (by simp), backL_ro h.2]
section
variable {P : Program} {σ : Type} {X : Face P σ} {fn : Func} {A : Conf σ → Prop} {ops : Array Oper} {k : List Item} {i : Nat} {tmps : List Value} {h : AHeap} {S : σ} {o : Oper}
theorem backH_ro {E : Emb} {ns : List Nat} {l : List Blk} (hlow : h.Low) (hro : l.all (·.ro) = true) : backH h E ns l l [] = h := by
  refine aheap_ext (fun m => ?_) (by simp [backH])
  unfold backH
  simp only [backL_ro hro]
  by_cases hm : h.next ≤ m
  · rw [if_pos hm]
    cases e : h.get m with
    | none => rfl
    | some b => have := hlow m b e; omega
  · rw [if_neg hm]
theorem qx1 (ns : List Nat) (ho : ops.toList[i]? = some o) (hw : Region.wanted o (yieldedL ops tmps) = true)
    (hk : ∀ K : List Value → σ → Prop, (∀ t S', At X fn A ops k (i + 1) t h S' → K t S') →
      CallK (CallX X S ns h.next h fun v l l' new S' => l.all (·.ro) = true ∧ l' = l ∧ new = [] ∧ h.next + l.length < 1000000000 ∧ K (putL o.dst (ren (upE ns h.next) v) tmps) S') (callA P (evA tmps) o.op))
    (hb : opOK o.op = true := by rfl) (hnd : ns.Nodup := by simp) (hl : h.Low := by first | exact heapL_low _ | exact gap_low _ _ _) : At X fn A ops k i tmps h S := by
  have hk := hk _ fun _ _ h => h
  unfold At
  rw [range_at (at_list ho)]
  cases hv : callA P (evA tmps) o.op with
  | none => rw [hv] at hk; exact hk.elim
  | some x =>
    obtain ⟨f, args⟩ := x
    rw [hv] at hk
    obtain ⟨zs, l, v, l', new, S', ⟨g, c, h1, v0, ex, R, d1, d2, d3, d4, d5, d6, d7⟩, rfl, hL, hro, rfl, rfl, hlim, hK⟩ := hk
    have hC := call_lent (ns := ns) (h := h) (o := o) (e := evA tmps) (f := f) (args := zs) hv d1 d2 d3 d4 d5 d6 hl hL hnd (by unfold VB; simp; omega)
    rw [backH_ro hl hro] at hC
    exact .call f g c zs _ _ _ h1 ex v0 (at_list ho) hw (opOK_all hb) hC (.inl rfl) d7 hK
end
end Go.Proofs.Ytjdbknnacaacaaa
namespace Go.Proofs.Ytjdbknnacaacaaa
open Go Go.RowKit
set_option linter.unusedSimpArgs false
set_option linter.unusedVariables false
def appAt (P : Program) (h : AHeap) (t : TypeId) (X Y : Value) : Option (Value × AHeap) := match X, tySlice P t, Y with
  | .slice none 0 0, some el, .slice _ 0 _ => (match tySize P el with | some _ => some (.slice none 0 0, h) | none => none)
  | .slice (some a) sl sc, some el, .slice b n c => (match tySize P el with
    | some s => if sl + n ≤ sc then (match n, cellsA h s (.slice b n c), h.get a.block with
        | 0, _, _ => some (.slice (some a) sl sc, h)
        | _, some news, some bk => if bk.ro = false ∧ a.spot = none ∧ a.off + sl * s + news.length ≤ bk.cells.length ∧ news.length = n * s ∧ news.all cellB = true then
            some (.slice (some a) (sl + n) sc, h.put a.block { bk with cells := spliceA bk.cells (a.off + sl * s) news }) else none
        | _, _, _ => none)
      else (match appendA P h t X Y with
        | some (cs, el, need, false) => some (.slice (some ⟨h.next, 0, none⟩) need need, (h.putO a.block none).addO (some ⟨cs, el, false, tySize P el⟩))
        | _ => none)
    | none => none)
  | _, _, _ => none
def AppTo (P : Program) (h : AHeap) (t : TypeId) (X Y : Value) (v : Value) (h' : AHeap) : Prop := appAt P h t X Y = some (v, h') ∨ ∃ ob, appV P h h.next t X Y = some (v, ob) ∧ h' = h.addO ob
structure AppT (P : Program) (t el : TypeId) (s : Nat) : Prop where
  sl : tySlice P t = some el
  sz : tySize P el = some (s + 1)
  bs : ∃ bs, tyBytes P el = some bs ∧ bs ≤ 1048576
  z : ∃ z, tyZero P el = some z ∧ plainB z = true ∧ z.cells.size = s + 1
theorem AppT.of {P : Program} {t el : TypeId} {s bs : Nat} {z : Value} (h1 : tySlice P t = some el) (h2 : tySize P el = some (s + 1)) (h3 : tyBytes P el = some bs) (h4 : tyZero P el = some z) (h5 : (plainB z && decide (z.cells.size = s + 1) && decide (bs ≤ 1048576)) = true) : AppT P t el s := by
  rw [Bool.and_eq_true, Bool.and_eq_true, decide_eq_true_eq, decide_eq_true_eq] at h5
  exact ⟨h1, h2, ⟨bs, h3, h5.2⟩, ⟨z, h4, h5.1.1, h5.1.2⟩⟩
section
variable {P : Program} {h : AHeap} {t el : TypeId} {s : Nat}
theorem app_keep (T : AppT P t el s) {a : Addr} {b : Option Addr} {sl sc c : Nat} (hl : sl ≤ sc) : AppTo P h t (.slice (some a) sl sc) (.slice b 0 c) (.slice (some a) sl sc) h := .inl (by unfold appAt; simp only [T.sl, T.sz, Nat.add_zero, hl, if_true])
theorem appN_new (T : AppT P t el s) {nx : Nat} {a b : Option Addr} {sl n c : Nat} {olds news : List Value} (c1 : cellsA h (s + 1) (.slice a sl sl) = some olds) (c2 : cellsA h (s + 1) (.slice b n c) = some news) (hn : 0 < n) (hl : sl + n ≤ 16777216) (ha : ∀ x, a = some x → ∃ bk, h.get x.block = some bk ∧ bk.grow = some 0) :
    appV P h nx t (.slice a sl sl) (.slice b n c) = some (.slice (some ⟨nx, 0, none⟩) (sl + n) (sl + n), some ⟨olds ++ news, el, false, some (s + 1)⟩) := by
  obtain ⟨h1, h2, ⟨bs, h3, h4⟩, ⟨z, h5, h6, h7⟩⟩ := T
  refine appV_new h1 h2 h3 h5 ?_ c1 c2 (by omega) hl ha
  rw [Bool.and_eq_true, Bool.and_eq_true, decide_eq_true_eq, decide_eq_true_eq]
  exact ⟨⟨h6, h7⟩, h4⟩
theorem app_new (T : AppT P t el s) {a b : Option Addr} {sl n c : Nat} {olds news : List Value} (c1 : cellsA h (s + 1) (.slice a sl sl) = some olds) (c2 : cellsA h (s + 1) (.slice b n c) = some news) (hn : 0 < n) (hl : sl + n ≤ 16777216) (ha : ∀ x, a = some x → ∃ bk, h.get x.block = some bk ∧ bk.grow = some 0) :
    AppTo P h t (.slice a sl sl) (.slice b n c) (.slice (some ⟨h.next, 0, none⟩) (sl + n) (sl + n)) (h.addO (some ⟨olds ++ news, el, false, some (s + 1)⟩)) := by
  exact .inr ⟨_, appN_new T c1 c2 hn hl ha, rfl⟩
theorem app_nil_new (T : AppT P t el s) {b : Option Addr} {n c : Nat} {news : List Value} (c2 : cellsA h (s + 1) (.slice b n c) = some news) (hn : 0 < n) (hl : n ≤ 16777216) :
    AppTo P h t (.slice none 0 0) (.slice b n c) (.slice (some ⟨h.next, 0, none⟩) n n) (h.addO (some ⟨news, el, false, some (s + 1)⟩)) := by
  have := app_new T (a := none) (sl := 0) (olds := []) (h := h) rfl c2 hn (by omega) (fun x hx => by cases hx)
  rw [Nat.zero_add] at this
  exact this
theorem app_grow (T : AppT P t el s) {a : Addr} {b : Option Addr} {sl n c : Nat} {olds news : List Value} (hg : h.get a.block = some ⟨olds, el, false, some (s + 1)⟩) (hsp : a.spot = none) (ho : a.off = 0) (hlen : olds.length = sl * (s + 1)) (c2 : cellsA h (s + 1) (.slice b n c) = some news) (hc : news.all cellB = true) (hn : 0 < n) (hl : sl + n ≤ 16777216) :
    AppTo P h t (.slice (some a) sl sl) (.slice b n c) (.slice (some ⟨h.next, 0, none⟩) (sl + n) (sl + n)) ((h.putO a.block none).addO (some ⟨olds ++ news, el, false, some (s + 1)⟩)) := by
  obtain ⟨h1, h2, ⟨bs, h3, h4⟩, ⟨z, h5, h6, h7⟩⟩ := T
  refine .inl ?_
  have c1 : cellsA h (s + 1) (.slice (some a) sl sl) = some olds := by
    by_cases h0 : sl = 0
    · subst h0
      rw [Nat.zero_mul] at hlen
      rw [List.eq_nil_of_length_eq_zero hlen]
      exact cellsA_zero
    · rw [cellsA_row h0 hg hsp (by rw [ho, hlen]; omega), ho, List.drop_zero, ← hlen, List.take_length]
  have hap : appendA P h t (.slice (some a) sl sl) (.slice b n c) = some (olds ++ news, el, sl + n, false) := by
    unfold appendA
    simp only [h1, h2, h3, h5, Option.getD_some, c1, c2, hg]
    rw [if_pos ⟨h6, h7, h4, by omega, hl⟩]
    have hne : ¬ (some (s + 1) = some 0) := by simp
    simp only [hne, if_false]
    rw [if_pos ⟨trivial, trivial, trivial, hsp, by rw [ho, hlen]; omega, Nat.le_refl _, hc⟩]
  unfold appAt
  have hn' : ¬ sl + n ≤ sl := by omega
  simp only [h1, h2, hn', if_false, hap]
theorem cells_gap {l : List (Option Blk)} {q : Nat} {ys : List (Option Blk)} {s n c : Nat} {b : Blk} (j : Nat) (hj : ys[j]? = some (some b)) (hn : n * s = b.cells.length) (h0 : n ≠ 0) : cellsA (heapJ l q ys) s (.slice (some ⟨q + j, 0, none⟩) n c) = some b.cells := by
  rw [cellsA_row h0 (b := b) (by simp only; rw [gap_hi, hj]; rfl) rfl (by simp only; omega), List.drop_zero, hn, List.take_length]
attribute [go_sem] Int.toNat_zero Int.toNat_one Option.map_some Option.map_none
theorem Goes.forgetS {σ : Type} {X : Face P σ} {fn : Func} {A : Conf σ → Prop} {S : σ} {todo : List Item} {tmps : List Value} {l : List (Option Blk)} (ys zs : List (Option Blk)) {q : Nat} (hk : Goes X fn A (.run todo tmps (heapJ l (q + ys.length) zs) S)) (hl : l.length ≤ q) : Goes X fn A (.run todo tmps (heapJ l q (ys ++ zs)) S) := by
  refine .weak (h0 := heapJ l (q + ys.length) zs) (fun n c hc => ?_) (by simp [gap_next]; omega) hk
  by_cases hn : n < q + ys.length
  · rw [gap_lo hn] at hc
    have hn2 : n < l.length := by
      apply Nat.lt_of_not_le; intro h; rw [List.getElem?_eq_none h] at hc; simp at hc
    exact ⟨c, by rw [gap_lo (by omega)]; exact hc, rfl, rfl, fun h => h, .inl rfl⟩
  · obtain ⟨i, rfl⟩ : ∃ i, n = q + ys.length + i := ⟨n - (q + ys.length), by omega⟩
    rw [gap_hi] at hc
    refine ⟨c, ?_, rfl, rfl, fun h => h, .inl rfl⟩
    rw [Nat.add_assoc, gap_hi, List.getElem?_append_right (by omega), Nat.add_sub_cancel_left]
    exact hc
end
section
variable {P : Program} {σ : Type} {X : Face P σ} {fn : Func} {A : Conf σ → Prop} {ops : Array Oper} {k : List Item} {i : Nat} {tmps : List Value} {h h' : AHeap} {S : σ} {o : Oper} {x y : Operand} {t : TypeId} {v : Value}
theorem wr_append {e : Operand → Value} : wrA P e h (.call { callee := .builtin .append, args := #[x, y], argTypes := #[t, t] }) = appAt P h t (e x) (e y) := by
  unfold wrA appAt
  simp only [if_true]
  rfl
theorem AppTo.op (e : AppTo P h t (evA tmps x) (evA tmps y) v h') (hop : o.op = .call { callee := .builtin .append, args := #[x, y], argTypes := #[t, t] }) : Op0 X o (evA tmps) h S v h' S := by
  rcases e with e | ⟨ob, e, rfl⟩
  · exact .inr (.inr (.inl ⟨by rw [hop, wr_append]; exact e, rfl⟩))
  · exact .inr (.inl ⟨ob, by rw [hop, n_append]; exact e, rfl, rfl⟩)
theorem At.appE (ho : ops.toList[i]? = some o) (hop : o.op = .call { callee := .builtin .append, args := #[x, y], argTypes := #[t, t] }) (hg : o.guard = none) (hb : opOK o.op = true) (e : AppTo P h t (evA tmps x) (evA tmps y) v h') (hl : h'.next ≤ VB) (hk : ∀ K : List Value → AHeap → Prop, (∀ t h, At X fn A ops k (i + 1) t h S → K t h) → K (putL o.dst v tmps) h') : At X fn A ops k i tmps h S :=
  At.op (at_list ho) (wanted_n hg) (opOK_all hb) (e.op hop) (.inr hl) (hk _ fun _ _ h => h)
variable {W : List Nat} {n0 : Nat} {hf : AHeap} {Kf : List Value → AHeap → σ → Prop} {born : List (Nat × Nat)}
theorem RG.appE (ho : ops.toList[i]? = some o) (hop : o.op = .call { callee := .builtin .append, args := #[x, y], argTypes := #[t, t] }) (hg : o.guard = none) (hb : opOK o.op = true) (hq : wrB W i o = true) (e : AppTo P h t (evA tmps x) (evA tmps y) v h') (hl : h'.next ≤ VB) (hk : ∀ K : List Value → AHeap → Prop, (∀ t h1, RG X W ops n0 Kf (i + 1) t h1 S (bornN i h.next h'.next ++ born) → K t h1) → K (putL o.dst v tmps) h') (hnf : farB W i = false := by rfl) : RG X W ops n0 Kf i tmps h S born :=
  RGF.op' true hnf (at_list ho) (wanted_n hg) (opOK_all hb) (.inr hl) ⟨hq, e.op hop⟩ (fun n b hb => by cases hb) (hk (fun t h1 => RG X W ops n0 Kf (i + 1) t h1 S (bornN i h.next h'.next ++ born)) fun _ _ h => h)
end
end Go.Proofs.Ytjdbknnacaacaaa
namespace Go.Proofs.Ytjdbknnacaacaaa
open Go Go.RowKit
set_option linter.unusedSimpArgs false
set_option linter.unusedVariables false
section
variable {P : Program} {σ : Type} {X : Face P σ} {fn : Func} {A : Conf σ → Prop} {ops : Array Oper} {k : List Item} {i : Nat} {tmps : List Value} {h : AHeap} {S : σ} {o : Oper}
theorem qn5 (ho : ops.toList[i]? = some o) (hw : Region.wanted o (yieldedL ops tmps) = true)
    (hk : ∀ K : List Value → AHeap → Prop, (∀ t h, At X fn A ops k (i + 1) t h S → K t h) → NewK K o tmps h (newA P (evA tmps) h h.next o.op)) (hb : opOK o.op = true := by rfl) (hl : h.next < VB := by first | exact heapL_lim rfl | (exact gap_lim (by simp only [sz]; omega))) : At X fn A ops k i tmps h S := AtL.new ho hw hb hl hk
variable {W : List Nat} {n0 : Nat} {hf : AHeap} {Kf : List Value → AHeap → σ → Prop} {born : List (Nat × Nat)}
theorem qn6 (ho : ops.toList[i]? = some o) (hw : Region.wanted o (yieldedL ops tmps) = true)
    (hk : ∀ K : List Value → AHeap → Prop, (∀ t h', RGF X W ops n0 hf Kf (i + 1) t h' S ((i, h.next) :: born) → K t h') → NewK K o tmps h (newA P (evA tmps) (lowH n0 h) h.next o.op))
    (hb : opOK o.op = true := by rfl) (hq : wrB W i o = false := by rfl) (hl : h.Low := by first | exact heapL_low _ | exact gap_low _ _ _) (hn : h.next < VB := by first | exact heapL_lim rfl | (exact gap_lim (by simp only [sz]; omega))) (hne : noEnd o.op = true := by rfl) (hnf : farB W i = false := by rfl) : RGF X W ops n0 hf Kf i tmps h S born := RGL.new hl ho hw hb hq hn hne hk hnf
end
def idxI (v : Int) : List Int → Int
  | [] => -1
  | x :: l => if x = v then 0 else (if idxI v l = -1 then -1 else idxI v l + 1)
theorem idxI_range (v : Int) : ∀ l : List Int, -1 ≤ idxI v l ∧ idxI v l < l.length
  | [] => by simp [idxI]
  | x :: l => by
    have := idxI_range v l
    unfold idxI
    split
    · simp only [List.length_cons]; omega
    · split <;> simp only [List.length_cons] <;> omega
theorem idxI_mem (v : Int) : ∀ l : List Int, (0 ≤ idxI v l) ↔ v ∈ l
  | [] => by simp [idxI]
  | x :: l => by
    have h := idxI_mem v l
    have h2 := idxI_range v l
    unfold idxI
    by_cases e : x = v
    · subst e; simp
    · rw [if_neg e, List.mem_cons]
      split
      · constructor
        · intro h; omega
        · rintro (h3 | h3)
          · exact absurd h3.symm e
          · have := h.2 h3; omega
      · constructor
        · intro _; exact .inr (h.1 (by omega))
        · intro _; omega
theorem idxI_app {v : Int} : ∀ {A B : List Int}, v ∉ A → idxI v (A ++ v :: B) = A.length
  | [], B, _ => by simp [idxI]
  | x :: A, B, h => by
    have h1 : x ≠ v := fun e => h (by simp [e])
    have h2 := idxI_app (A := A) (B := B) (v := v) (fun e => h (by simp [e]))
    rw [List.cons_append, idxI, if_neg h1, h2, if_neg (by omega)]
    simp
theorem idxI_none {v : Int} : ∀ {A : List Int}, v ∉ A → idxI v A = -1
  | [], _ => rfl
  | x :: A, h => by
    have h1 : x ≠ v := fun e => h (by simp [e])
    have h2 := idxI_none (A := A) (v := v) (fun e => h (by simp [e]))
    rw [idxI, if_neg h1, h2, if_pos rfl]
set_option maxHeartbeats 2000000 in
theorem index_any (S : St) (ks : List Int) (v : Int) (hn : ks.length ≤ 100000) : DoesX OF 147 #[.slice (some ⟨0, 0, none⟩) ks.length ks.length, .int .i64 v] [numB .i64 3 ks] S (.int .i64 (idxI v ks)) [numB .i64 3 ks] [] S := by
  refine DoesX.mk Try.func147 rfl rfl ?clo ?rows ?_
  case clo => exact clo2 (clo_sq (by simp)) iclo
  case rows => exact plain_rows (by simp [numB]; exact numRow_plain)
  rw [Try.ntmps147]; simp only [List.size_toArray, List.length_cons, List.length_nil, List.replicate, List.cons_append, List.nil_append]
  simp only [numB, List.map_cons, List.map_nil]
  refine via ?_
  refine Goes.wh (fun q tmps h S' => ∃ k, q = ks.length - k ∧ k ≤ ks.length ∧ v ∉ ks.take k ∧ S' = S ∧ h = heapL [some ⟨numRow .i64 ks, 3, true, none⟩] ∧ tmps.length = 19 ∧ tmps.getD 0 undef = .slice (some ⟨0, 0, none⟩) ks.length ks.length ∧
    tmps.getD 1 undef = .int .i64 v ∧ tmps.getD 6 undef = .slice (some ⟨0, 0, none⟩) ks.length ks.length ∧ tmps.getD 7 undef = .int .i64 ks.length ∧ tmps.getD 8 undef = .int .i64 k) (m := ks.length) ⟨0, by omega, by omega, by simp, rfl, rfl, rfl, rfl, rfl, rfl, rfl, rfl⟩ ?_
  rintro q tmps h S' ih ⟨k, rfl, hk, hpre, rfl, rfl, hlen, f0, f1, f6, f7, f8⟩
  obtain ⟨V, hV, hT⟩ := frame_lit hlen; replace hT : _ = ([V 0, V 1, V 2, V 3, V 4, V 5, V 6, V 7, V 8, V 9, V 10, V 11, V 12, V 13, V 14, V 15, V 16, V 17, V 18] : List Value) := hT; rw [hV] at f0 f1 f6 f7 f8; subst hT; simp only [f0, f1, f6, f7, f8]; clear hV hlen
  by_cases hlt : k < ks.length
  · have hm := Nat.mul_one k
    have hg1 := numRow_get (k := .i64) hlt
    by_cases hx : v = ks[k]
    · have h5 : (v == ks[k]) = true := by rw [beq_iff_eq]; exact hx
      have hi : idxI v ks = k := by
        have e : ks = ks.take k ++ v :: ks.drop (k + 1) := by rw [hx, List.getElem_cons_drop, List.take_append_drop]
        rw [e, idxI_app hpre]; simp; omega
      rw [hi]
      refine viaF (And.intro hm (And.intro hg1 h5)) ?_
      refine Goes.finS rfl (by simp (disch := (first | omega | (simp only [heapL_next, List.length_cons, List.length_nil, List.size_toArray, geo_len] <;> omega) | fail)) only [go_sem, resA, res1A, Try.results147] <;> rfl) ?_ rfl ?_
      · rfl
      · exact Clo.plain rfl
    · have h5 : (v == ks[k]) = false := by rw [beq_eq_false_iff_ne]; exact hx
      refine viaF (And.intro hm (And.intro hg1 h5)) ?_
      exact ih _ _ _ _ (by omega) ⟨k + 1, rfl, by omega, by rw [List.take_succ_eq_append_getElem hlt, List.mem_append, List.mem_singleton]; rintro (h | h); exact hpre h; exact hx h, rfl, rfl, rfl, rfl, rfl, rfl, rfl, rfl⟩
  · have hi : idxI v ks = -1 := idxI_none (by rw [List.take_of_length_le (by omega)] at hpre; exact hpre)
    rw [hi]
    refine via ?_
    refine Goes.finS rfl (by simp (disch := (first | omega | (simp only [heapL_next, List.length_cons, List.length_nil, List.size_toArray, geo_len] <;> omega) | fail)) only [go_sem, resA, res1A, Try.results147] <;> rfl) ?_ rfl ?_
    · rfl
    · exact Clo.plain rfl
theorem index_nil (S : St) (v : Int) : Does OF 147 #[.slice none 0 0, .int .i64 v] [] S (.int .i64 (-1)) S := by
  refine Does.mk Try.func147 rfl rfl ?clo ?hand ?_
  case clo => exact clo2 (Clo.plain rfl) iclo
  case hand => exact Hand.plain rfl
  rw [Try.ntmps147]; simp only [List.size_toArray, List.length_cons, List.length_nil, List.replicate, List.cons_append, List.nil_append]
  refine viaL ?_
  refine Goes.fin rfl (by simp (disch := (first | omega | (simp only [heapL_next, List.length_cons, List.length_nil, List.size_toArray, geo_len] <;> omega) | fail)) only [go_sem, resA, res1A, Try.results147] <;> rfl) ?_
  rfl
theorem contains_any (S : St) (ks : List Int) (v : Int) (hn : ks.length ≤ 100000) : DoesX OF 136 #[.slice (some ⟨0, 0, none⟩) ks.length ks.length, .int .i64 v] [numB .i64 3 ks] S (.bool (decide (v ∈ ks))) [numB .i64 3 ks] [] S := by
  refine DoesX.mk Try.func136 rfl rfl ?clo ?rows ?_
  case clo => exact clo2 (clo_sq (by simp)) iclo
  case rows => exact plain_rows (by simp [numB]; exact numRow_plain)
  rw [Try.ntmps136]; simp only [List.size_toArray, List.length_cons, List.length_nil, List.replicate, List.cons_append, List.nil_append]
  simp only [numB, List.map_cons, List.map_nil]
  refine via ?_
  ((first | refine At.callX [0] rfl rfl rfl (by decide) rfl (fun K hK => ?_) | refine RG.callX [0] rfl rfl rfl rfl (by decide) (fun K hK => ?_)); simp (disch := (first | omega | (simp only [heapL_next, List.length_cons, List.length_nil, List.size_toArray, geo_len] <;> omega) | fail)) only [go_sem]; refine ⟨_, _, _, _, _, _, index_any S ks v hn, by first | rfl | simp (disch := (first | omega | (simp only [heapL_next, List.length_cons, List.length_nil, List.size_toArray, geo_len] <;> omega) | fail)) only [go_sem], by ((repeat (refine ⟨⟨_, rfl, rfl, ?_, (by first | exact .inr rfl | exact .inl rfl), (by first | exact fun h => h | exact fun _ => rfl | (intro h; cases h))⟩, ?_⟩; · first | exact plain_map numRow_plain | (simp [up_prt]; done) | exact plain_map (by simp [plainB]; done) | simp [up_0, up_1, up_2, up_00, up_base, up_slack, adr])); exact trivial), by first | exact ⟨rfl, rfl⟩ | rfl, ?_⟩; (try simp only [go_sem]); (first | refine hK _ _ _ ?_ | refine hK _ _ _ _ ?_); clear hK K)
  simp only [numB, reduceCtorEq, if_false, reduceIte]
  refine via ?_
  rw [show decide (0 ≤ idxI v ks) = decide (v ∈ ks) by rw [decide_eq_decide]; exact idxI_mem v ks]
  refine Goes.finS rfl (by simp (disch := (first | omega | (simp only [heapL_next, List.length_cons, List.length_nil, List.size_toArray, geo_len] <;> omega) | fail)) only [go_sem, resA, res1A, Try.results136] <;> rfl) ?_ rfl ?_
  · rfl
  · exact Clo.plain rfl
theorem contains_nil (S : St) (v : Int) : Does OF 136 #[.slice none 0 0, .int .i64 v] [] S (.bool false) S := by
  refine Does.mk Try.func136 rfl rfl ?clo ?hand ?_
  case clo => exact clo2 (Clo.plain rfl) iclo
  case hand => exact Hand.plain rfl
  rw [Try.ntmps136]; simp only [List.size_toArray, List.length_cons, List.length_nil, List.replicate, List.cons_append, List.nil_append]
  refine via ?_
  ((first | refine qc1 rfl rfl fun K hK => ?_ | refine qc3 rfl rfl fun K hK => ?_); simp (disch := (first | omega | (simp only [sz] <;> omega) | fail)) only [go_sem]; refine ⟨_, _, index_nil S v, ?_⟩; (try simp only [go_sem]); with_reducible refine hK _ _ ?_; clear hK K)
  refine via ?_
  refine Goes.fin rfl (by simp (disch := (first | omega | (simp only [heapL_next, List.length_cons, List.length_nil, List.size_toArray, geo_len] <;> omega) | fail)) only [go_sem, resA, res1A, Try.results136] <;> rfl) ?_
  rfl
def rU (i : Nat) (m : Bool) (v : Nat) : UInt64 := UInt64.ofNat (rN i m v)
theorem rN_lt {i v : Nat} {m : Bool} (hi : i < 16777216) (hv : v < 4294967296) : rN i m v < 18446744073709551616 := by
  cases m <;> simp only [rN_t, rN_f, mN_t, mN_f] <;> omega
theorem rU_nat {i v : Nat} {m : Bool} (hi : i < 16777216) (hv : v < 4294967296) : (rU i m v).toNat = rN i m v := by
  have := rN_lt (m := m) hi hv
  unfold rU
  simp
  omega
theorem rWord_rU (S : St) {i v : Nat} {m : Bool} (hi : i < 16777216) (hv : v < 4294967296) : Does OF 74 #[refV i m v] [] S (.int .u64 ((rU i m v).toNat : Int)) S := by
  rw [rU_nat hi hv]; exact rWord_does S i m v hi hv
theorem rU_parts {i v : Nat} {m : Bool} (hi : i < 16777216) (hv : v < 4294967296) : (rU i m v).toNat / 2 ^ 0 % 2 ^ 24 = i ∧ bB ((rU i m v).toNat / 2 ^ 24 % 2 ^ 1) = m ∧ (rU i m v).toNat / 2 ^ 32 % 2 ^ 32 = v := by
  rw [rU_nat hi hv]
  cases m with
  | true =>
    simp only [rN_t, mN_t]
    refine ⟨by omega, ?_, by omega⟩
    rw [show (i + v * 2 ^ 32 + 16777216) / 2 ^ 24 % 2 ^ 1 = 1 by omega]; rfl
  | false =>
    simp only [rN_f, mN_f]
    refine ⟨by omega, ?_, by omega⟩
    rw [show (i + v * 2 ^ 32 + 0) / 2 ^ 24 % 2 ^ 1 = 0 by omega]; rfl
theorem refOf_rU (S : St) {i v : Nat} {m : Bool} (hi : i < 16777216) (hv : v < 4294967296) : Does OF 71 #[.int .u64 ((rU i m v).toNat : Int)] [] S (refV i m v) S := by
  have h := refOf_does S (rU i m v)
  obtain ⟨h1, h2, h3⟩ := rU_parts (m := m) hi hv
  rw [h1, h2, h3] at h
  exact h
theorem gnx {x : Nat} (h1 : 1 ≤ x) (h : x ≤ 1073741824) : gin ((x : Int) - 1) 0 1 = ((x - 1 : Nat) : Int) := by
  unfold gin; rw [if_neg (by omega)]; omega
theorem gM_lt {N T : Nat} (hN : N ≤ 256) (hT : T ≤ 64) : gM N T ≤ 74176 := by
  have h1 : T * 4 * (N + 1) ≤ 64 * 4 * 257 := Nat.mul_le_mul (by omega) (by omega)
  have h2 : T * (2 * T + 3) ≤ 64 * 131 := Nat.mul_le_mul hT (by omega)
  unfold gM; omega
theorem Wd.tells4 {N T : Nat} {ws : List UInt64} {W : Nat → Nat → UInt64} (h : Wd N T ws W) : wT 1 (gat N T 4 0) 0 ws = W 4 0 := ld_w (h 4 0 (by decide) (by show 0 < 1; omega))
theorem Wd.hits4 {N T : Nat} {ws : List UInt64} {W : Nat → Nat → UInt64} (h : Wd N T ws W) {A : UInt64} (hA : W 4 0 = A) : (wT 3 (gat N T 4 0) A ws == 1) = true := h.hits (r := 4) (n := 0) (by decide) (by show 0 < 1; omega) hA
theorem Wd.cas4 {N T : Nat} {ws : List UInt64} {W : Nat → Nat → UInt64} (h : Wd N T ws W) (hN : 1 ≤ N) {A : UInt64} (hA : W 4 0 = A) (B : UInt64) : Wd N T (wS 3 (gat N T 4 0) A B ws) (up2 W 4 0 B) := h.cas (r := 4) (n := 0) hN (by decide) (by show 0 < 1; omega) hA B
theorem gNextN (S : St) (N T x : Nat) (hN : N ≤ 256) (hT : T ≤ 64) (h1 : 1 ≤ x) (h2 : x ≤ gM N T) : Does OF 73 #[.agg (geoC N T), .int .i64 x] [] S (.int .i64 (gat N T 17 ((x - 1 : Nat) : Int))) S := by
  have := gM_lt hN hT
  have h := gNext_does S N T x hN hT (by omega) (by omega)
  rw [gnx h1 (by omega)] at h
  exact h
theorem gNextM (S : St) (N T : Nat) (x : Int) (hN1 : 1 ≤ N) (hN : N ≤ 256) (hT : T ≤ 64) (hl : -9223372036854775808 ≤ x) (hx : x ≤ 9223372036854775807) (h : ¬ (1 ≤ x ∧ x ≤ gM N T)) : Does OF 73 #[.agg (geoC N T), .int .i64 x] [] S (.int .i64 (-1)) S := by
  by_cases h0 : x = -9223372036854775808
  · subst h0
    refine Does.mk Try.func73 rfl rfl ?clo ?hand ?_
    case clo => exact clo2 gclo iclo
    case hand => exact Hand.plain rfl
    rw [Try.ntmps73]; simp only [List.size_toArray, List.length_cons, List.length_nil, List.replicate, List.cons_append, List.nil_append]
    have e1 : IntKind.i64.wrap (-9223372036854775808 - 1) = 9223372036854775807 := by decide
    refine viaF e1 ?_
    ((first | refine qp1 rfl rfl fun K hK => ?_ | refine qp3 rfl rfl fun K hK => ?_); simp (disch := (first | omega | (simp only [sz] <;> omega) | fail)) only [go_sem]; refine ⟨_, _, qpu fun w => in_any 9223372036854775807 0 1 w (by omega) (by omega) (by omega), ?_⟩; (try simp only [go_sem]); with_reducible refine hK _ _ ?_; clear hK K)
    refine via ?_
    ((first | refine qp1 rfl rfl fun K hK => ?_ | refine qp3 rfl rfl fun K hK => ?_); simp (disch := (first | omega | (simp only [sz] <;> omega) | fail)) only [go_sem]; refine ⟨_, _, qpu fun w => at_any N T 17 17 (gin 9223372036854775807 0 1) w rfl (by omega) hN hT, ?_⟩; (try simp only [go_sem]); with_reducible refine hK _ _ ?_; clear hK K)
    refine via ?_
    refine Goes.fin rfl (by simp (disch := (first | omega | (simp only [heapL_next, List.length_cons, List.length_nil, List.size_toArray, geo_len] <;> omega) | fail)) only [go_sem, resA, res1A, Try.results73] <;> rfl) ?_
    rfl
  · have h1 := gNext_does S N T x hN hT (by omega) (by omega)
    have e : gat N T 17 (gin (x - 1) 0 1) = -1 := by
      by_cases h2 : x - 1 < 0 ∨ 1073741824 < x - 1
      · rw [gin_no (by omega), gat_neg N T 17 (by omega)]
      · have e2 : gin (x - 1) 0 1 = x - 1 := by unfold gin; rw [if_neg (by omega)]; omega
        rw [e2]
        exact gat_no hN1 (.inr (by show (gM N T : Int) ≤ _; omega))
    rw [e] at h1
    exact h1
theorem gHazardN (S : St) (N T t s : Nat) (hN : N ≤ 256) (hT : T ≤ 64) (ht : t < T) (hs : s < 2) : Does OF 26 #[.agg (geoC N T), .int .i64 t, .int .i64 s] [] S (.int .i64 (gat N T 14 ((t * 2 + s : Nat) : Int))) S := by
  have h := gHazard_does S N T t s hN hT (by omega)
  rw [show gin (t : Int) (s : Int) 2 = ((t * 2 + s : Nat) : Int) from gin_of (many := 2) (by omega) hs] at h
  exact h
theorem gRetiredN (S : St) (N T t k : Nat) (hN : N ≤ 256) (hT : T ≤ 64) (ht : t < T) (hk : k < 2 * T + 2) : Does OF 123 #[.agg (geoC N T), .int .i64 t, .int .i64 k] [] S (.int .i64 (gat N T 16 ((t * (2 * T + 2) + k : Nat) : Int))) S := by
  have h := gRetired_does S N T t k hN hT (by omega)
  rw [gin_of (by omega) hk] at h
  exact h
theorem gHeadN (S : St) (N T t c : Nat) (hN : N ≤ 256) (hT : T ≤ 64) (ht : t < T) (hc : c < 4) : Does OF 70 #[.agg (geoC N T), .int .i64 t, .int .i64 c] [] S (.int .i64 (gat N T 13 ((t * 4 + c : Nat) : Int))) S := by
  have h := gHead_does S N T t c hN hT (by omega)
  rw [show gin (t : Int) (c : Int) 4 = ((t * 4 + c : Nat) : Int) from gin_of (many := 4) (by omega) hc] at h
  exact h
theorem pnone0 (S : St) (p m me : Nat) (steps : Nat) (N T : Nat) (hp : S[p]? = some (.port m me steps)) (hN1 : 1 ≤ N) :
    Does OF 115 #[prtV p, .agg (geoC N T), .slice none 0 0] [] S (.bool false) S := by
  refine Does.mk Try.func115 rfl rfl ?clo ?hand ?_
  case clo => exact clo3 (pclo (hlt_of hp)) gclo (Clo.plain rfl)
  case hand => exact Hand.plain rfl
  rw [Try.ntmps115]; simp only [List.size_toArray, List.length_cons, List.length_nil, List.replicate, List.cons_append, List.nil_append]
  have e1 : ((N : Int) == 0) = false := by rw [beq_eq_false_iff_ne]; omega
  refine via ?_
  ((first | refine qp1 rfl rfl fun K hK => ?_ | refine qp3 rfl rfl fun K hK => ?_); simp (disch := (first | omega | (simp only [sz] <;> omega) | fail)) only [go_sem]; refine ⟨_, _, qpu fun w => gPages_any N T w, ?_⟩; (try simp only [go_sem]); with_reducible refine hK _ _ ?_; clear hK K)
  refine viaF e1 ?_
  ((first | refine qc1 rfl rfl fun K hK => ?_ | refine qc3 rfl rfl fun K hK => ?_); simp (disch := (first | omega | (simp only [sz] <;> omega) | fail)) only [go_sem]; refine ⟨_, _, contains_nil S (-1), ?_⟩; (try simp only [go_sem]); with_reducible refine hK _ _ ?_; clear hK K)
  refine via ?_
  refine Goes.fin rfl (by simp (disch := (first | omega | (simp only [heapL_next, List.length_cons, List.length_nil, List.size_toArray, geo_len] <;> omega) | fail)) only [go_sem, resA, res1A, Try.results115] <;> rfl) ?_
  rfl
theorem pnone (S : St) (p m me : Nat) (steps : Nat) (N T : Nat) (ks : List Int) (hk : ks.length ≤ 100) (hp : S[p]? = some (.port m me steps)) (hN1 : 1 ≤ N) :
    DoesX OF 115 #[prtV p, .agg (geoC N T), .slice (some ⟨0, 0, none⟩) ks.length ks.length] [numB .i64 3 ks] S (.bool (decide (-1 ∈ ks))) [numB .i64 3 ks] [] S := by
  refine DoesX.mk Try.func115 rfl rfl ?clo ?rows ?_
  case clo => exact clo3 (pclo (hlt_of hp)) gclo (clo_s0 (by simp))
  case rows => exact plain_rows (by simp [numB]; exact numRow_plain)
  rw [Try.ntmps115]; simp only [List.size_toArray, List.length_cons, List.length_nil, List.replicate, List.cons_append, List.nil_append]
  simp only [numB, List.map_cons, List.map_nil]
  have e1 : ((N : Int) == 0) = false := by rw [beq_eq_false_iff_ne]; omega
  refine via ?_
  ((first | refine qp1 rfl rfl fun K hK => ?_ | refine qp3 rfl rfl fun K hK => ?_); simp (disch := (first | omega | (simp only [sz] <;> omega) | fail)) only [go_sem]; refine ⟨_, _, qpu fun w => gPages_any N T w, ?_⟩; (try simp only [go_sem]); with_reducible refine hK _ _ ?_; clear hK K)
  refine viaF e1 ?_
  ((first | refine At.callX [0] rfl rfl rfl (by decide) rfl (fun K hK => ?_) | refine RG.callX [0] rfl rfl rfl rfl (by decide) (fun K hK => ?_)); simp (disch := (first | omega | (simp only [heapL_next, List.length_cons, List.length_nil, List.size_toArray, geo_len] <;> omega) | fail)) only [go_sem]; refine ⟨_, _, _, _, _, _, contains_any S ks (-1) (by omega), by first | rfl | simp (disch := (first | omega | (simp only [heapL_next, List.length_cons, List.length_nil, List.size_toArray, geo_len] <;> omega) | fail)) only [go_sem], by ((repeat (refine ⟨⟨_, rfl, rfl, ?_, (by first | exact .inr rfl | exact .inl rfl), (by first | exact fun h => h | exact fun _ => rfl | (intro h; cases h))⟩, ?_⟩; · first | exact plain_map numRow_plain | (simp [up_prt]; done) | exact plain_map (by simp [plainB]; done) | simp [up_0, up_1, up_2, up_00, up_base, up_slack, adr])); exact trivial), by first | exact ⟨rfl, rfl⟩ | rfl, ?_⟩; (try simp only [go_sem]); (first | refine hK _ _ _ ?_ | refine hK _ _ _ _ ?_); clear hK K)
  simp only [numB, reduceCtorEq, if_false, reduceIte]
  refine via ?_
  refine Goes.finS rfl (by simp (disch := (first | omega | (simp only [heapL_next, List.length_cons, List.length_nil, List.size_toArray, geo_len] <;> omega) | fail)) only [go_sem, resA, res1A, Try.results115] <;> rfl) ?_ rfl ?_
  · rfl
  · exact Clo.plain rfl
set_option maxHeartbeats 1000000 in
theorem acquire_some (S : St) (p m me : Nat) (steps : Nat) (ws : List UInt64) (bs : List UInt8) (N T : Nat) {W : Nat → Nat → UInt64} {ver top b v : Nat} {mk : Bool} (hp : S[p]? = some (.port m me steps)) (hm : S[m]? = some (.mem ws bs)) (hst : steps ≤ 10000000000) (hN1 : 1 ≤ N) (hN : N ≤ 256) (hT : T ≤ 64) (hW : Wd N T ws W) (hver : ver + 1 < 4294967296) (h4 : W 4 0 = rU top false ver) (h1 : 1 ≤ top) (h2 : top ≤ gM N T) (h17 : W 17 (top - 1) = rU b mk v) (hb : b < 16777216) (hv : v < 4294967296) :
    Does OF 137 #[prtV p, .agg (geoC N T)] [] S (.int .i64 top) (accS S p m me (steps + 3) (wS 3 (gat N T 4 0) (rU top false ver) (rU b false (ver + 1)) ws) bs) := by
  have hne := hne_of hp hm
  have hM := gM_lt hN hT
  have hM2 : top - 1 < gsz N T 17 := by show top - 1 < gM N T; omega
  refine Does.mk Try.func137 rfl rfl ?clo ?hand ?_
  case clo => exact clo2 (pclo (hlt_of hp)) gclo
  case hand => exact Hand.plain rfl
  rw [Try.ntmps137]; simp only [List.size_toArray, List.length_cons, List.length_nil, List.replicate, List.cons_append, List.nil_append]
  have e1 : ((top : Int) == 0) = false := by rw [beq_eq_false_iff_ne]; omega
  have e2 : IntKind.u32.wrap ((ver : Int) + 1) = ((ver + 1 : Nat) : Int) := by rw [IntKind.wrap_u32]; omega
  refine via ?_
  ((first | refine qc1 rfl rfl fun K hK => ?_ | refine qc3 rfl rfl fun K hK => ?_); simp (disch := (first | omega | (simp only [sz] <;> omega) | fail)) only [go_sem]; refine ⟨_, _, pnone0 S p m me steps N T hp hN1, ?_⟩; (try simp only [go_sem]); with_reducible refine hK _ _ ?_; clear hK K)
  refine viaL ?_
  ((first | refine qp1 rfl rfl fun K hK => ?_ | refine qp3 rfl rfl fun K hK => ?_); simp (disch := (first | omega | (simp only [sz] <;> omega) | fail)) only [go_sem]; refine ⟨_, _, qpu fun w => gPool_any N T w hN hT, ?_⟩; (try simp only [go_sem]); with_reducible refine hK _ _ ?_; clear hK K)
  refine via ?_
  ((first | refine qp1 rfl rfl fun K hK => ?_ | refine qp3 rfl rfl fun K hK => ?_); simp (disch := (first | omega | (simp only [sz] <;> omega) | fail)) only [go_sem]; refine ⟨_, _, .load _ hp hm (by omega), ?_⟩; (try simp only [go_sem]); with_reducible refine hK _ _ ?_; clear hK K)
  rw [load_same, hW.tells4, h4]
  refine via ?_
  ((first | refine qc1 rfl rfl fun K hK => ?_ | refine qc3 rfl rfl fun K hK => ?_); simp (disch := (first | omega | (simp only [sz] <;> omega) | fail)) only [go_sem]; refine ⟨_, _, refOf_rU _ (by omega) (by omega), ?_⟩; (try simp only [go_sem]); with_reducible refine hK _ _ ?_; clear hK K)
  unfold refV
  refine viaF e1 ?_
  ((first | refine qc1 rfl rfl fun K hK => ?_ | refine qc3 rfl rfl fun K hK => ?_); simp (disch := (first | omega | (simp only [sz] <;> omega) | fail)) only [go_sem]; refine ⟨_, _, gNextN _ N T top hN hT h1 h2, ?_⟩; (try simp only [go_sem]); with_reducible refine hK _ _ ?_; clear hK K)
  refine via ?_
  ((first | refine qp1 rfl rfl fun K hK => ?_ | refine qp3 rfl rfl fun K hK => ?_); simp (disch := (first | omega | (simp only [sz] <;> omega) | fail)) only [go_sem]; refine ⟨_, _, .load _ (acc_p hp hm) (acc_m hp hm) (by omega), ?_⟩; (try simp only [go_sem]); with_reducible refine hK _ _ ?_; clear hK K)
  rw [load_same, hW.tells (by decide) hM2, h17, acc_acc hne]
  refine via ?_
  ((first | refine qc1 rfl rfl fun K hK => ?_ | refine qc3 rfl rfl fun K hK => ?_); simp (disch := (first | omega | (simp only [sz] <;> omega) | fail)) only [go_sem]; refine ⟨_, _, refOf_rU _ hb hv, ?_⟩; (try simp only [go_sem]); with_reducible refine hK _ _ ?_; clear hK K)
  unfold refV
  refine viaF e2 ?_
  ((first | refine qp1 rfl rfl fun K hK => ?_ | refine qp3 rfl rfl fun K hK => ?_); simp (disch := (first | omega | (simp only [sz] <;> omega) | fail)) only [go_sem]; refine ⟨_, _, qpu fun w => gPool_any N T w hN hT, ?_⟩; (try simp only [go_sem]); with_reducible refine hK _ _ ?_; clear hK K)
  refine via ?_
  ((first | refine qc1 rfl rfl fun K hK => ?_ | refine qc3 rfl rfl fun K hK => ?_); simp (disch := (first | omega | (simp only [sz] <;> omega) | fail)) only [go_sem]; refine ⟨_, _, rWord_rU (i := b) (v := ver + 1) (m := false) _ hb (by omega), ?_⟩; (try simp only [go_sem]); with_reducible refine hK _ _ ?_; clear hK K)
  refine via ?_
  ((first | refine qp1 rfl rfl fun K hK => ?_ | refine qp3 rfl rfl fun K hK => ?_); simp (disch := (first | omega | (simp only [sz] <;> omega) | fail)) only [go_sem]; refine ⟨_, _, .cas _ (rU top false ver) (rU b false (ver + 1)) (acc_p hp hm) (acc_m hp hm) (by omega), ?_⟩; (try simp only [go_sem]); with_reducible refine hK _ _ ?_; clear hK K)
  rw [hW.hits4 h4, acc_acc hne]
  refine via ?_
  refine Goes.fin rfl (by simp (disch := (first | omega | (simp only [heapL_next, List.length_cons, List.length_nil, List.size_toArray, geo_len] <;> omega) | fail)) only [go_sem, resA, res1A, Try.results137] <;> rfl) ?_
  rfl
set_option maxHeartbeats 1000000 in
theorem give_does (S : St) (p m me : Nat) (steps : Nat) (ws : List UInt64) (bs : List UInt8) (N T : Nat) {W : Nat → Nat → UInt64} {ver top x : Nat} (hp : S[p]? = some (.port m me steps)) (hm : S[m]? = some (.mem ws bs)) (hst : steps ≤ 10000000000) (hN1 : 1 ≤ N) (hN : N ≤ 256) (hT : T ≤ 64) (hW : Wd N T ws W) (hver : ver + 1 < 4294967296) (h4 : W 4 0 = rU top false ver) (ht : top < 16777216) (h1 : 1 ≤ x) (h2 : x ≤ gM N T) :
    Does OF 138 #[prtV p, .agg (geoC N T), .int .i64 x] [] S (.tuple #[]) (accS S p m me (steps + 3) (wS 3 (gat N T 4 0) (rU top false ver) (rU x false (ver + 1)) (wS 2 (gat N T 17 ((x - 1 : Nat) : Int)) (rU top false 0) 0 ws)) bs) := by
  have hne := hne_of hp hm
  have hM := gM_lt hN hT
  have hM2 : x - 1 < gsz N T 17 := by show x - 1 < gM N T; omega
  have hW2 := hW.store hN1 (by decide) hM2 (rU top false 0)
  refine Does.mk Try.func138 rfl rfl ?clo ?hand ?_
  case clo => exact clo3 (pclo (hlt_of hp)) gclo iclo
  case hand => exact Hand.plain (by simp [plainB])
  rw [Try.ntmps138]; simp only [List.size_toArray, List.length_cons, List.length_nil, List.replicate, List.cons_append, List.nil_append]
  have e2 : IntKind.u32.wrap ((ver : Int) + 1) = ((ver + 1 : Nat) : Int) := by rw [IntKind.wrap_u32]; omega
  have e3 : decide ((-1 : Int) ∈ [gat N T 17 ((x - 1 : Nat) : Int)]) = false := by
    rw [gat_of hN1 hM2]; simp; omega
  refine via ?_
  ((first | refine qc1 rfl rfl fun K hK => ?_ | refine qc3 rfl rfl fun K hK => ?_); simp (disch := (first | omega | (simp only [sz] <;> omega) | fail)) only [go_sem]; refine ⟨_, _, gNextN S N T x hN hT h1 h2, ?_⟩; (try simp only [go_sem]); with_reducible refine hK _ _ ?_; clear hK K)
  refine via ?_
  ((first | refine At.callX [1] rfl rfl rfl (by decide) rfl (fun K hK => ?_) | refine RG.callX [1] rfl rfl rfl rfl (by decide) (fun K hK => ?_)); simp (disch := (first | omega | (simp only [heapL_next, List.length_cons, List.length_nil, List.size_toArray, geo_len] <;> omega) | fail)) only [go_sem]; refine ⟨_, _, _, _, _, _, pnone S p m me steps N T [gat N T 17 ((x - 1 : Nat) : Int)] (by simp) hp hN1, by first | rfl | simp (disch := (first | omega | (simp only [heapL_next, List.length_cons, List.length_nil, List.size_toArray, geo_len] <;> omega) | fail)) only [go_sem], by ((repeat (refine ⟨⟨_, rfl, rfl, ?_, (by first | exact .inr rfl | exact .inl rfl), (by first | exact fun h => h | exact fun _ => rfl | (intro h; cases h))⟩, ?_⟩; · first | exact plain_map numRow_plain | (simp [up_prt]; done) | exact plain_map (by simp [plainB]; done) | simp [up_0, up_1, up_2, up_00, up_base, up_slack, adr])); exact trivial), by first | exact ⟨rfl, rfl⟩ | rfl, ?_⟩; (try simp only [go_sem]); (first | refine hK _ _ _ ?_ | refine hK _ _ _ _ ?_); clear hK K)
  rw [e3]
  refine viaL ?_
  ((first | refine qp1 rfl rfl fun K hK => ?_ | refine qp3 rfl rfl fun K hK => ?_); simp (disch := (first | omega | (simp only [sz] <;> omega) | fail)) only [go_sem]; refine ⟨_, _, qpu fun w => gPool_any N T w hN hT, ?_⟩; (try simp only [go_sem]); with_reducible refine hK _ _ ?_; clear hK K)
  refine via ?_
  ((first | refine qp1 rfl rfl fun K hK => ?_ | refine qp3 rfl rfl fun K hK => ?_); simp (disch := (first | omega | (simp only [sz] <;> omega) | fail)) only [go_sem]; refine ⟨_, _, .load _ hp hm (by omega), ?_⟩; (try simp only [go_sem]); with_reducible refine hK _ _ ?_; clear hK K)
  rw [load_same, hW.tells4, h4]
  refine via ?_
  ((first | refine qc1 rfl rfl fun K hK => ?_ | refine qc3 rfl rfl fun K hK => ?_); simp (disch := (first | omega | (simp only [sz] <;> omega) | fail)) only [go_sem]; refine ⟨_, _, refOf_rU _ ht (by omega), ?_⟩; (try simp only [go_sem]); with_reducible refine hK _ _ ?_; clear hK K)
  unfold refV
  refine via ?_
  ((first | refine qc1 rfl rfl fun K hK => ?_ | refine qc3 rfl rfl fun K hK => ?_); simp (disch := (first | omega | (simp only [sz] <;> omega) | fail)) only [go_sem]; refine ⟨_, _, gNextN _ N T x hN hT h1 h2, ?_⟩; (try simp only [go_sem]); with_reducible refine hK _ _ ?_; clear hK K)
  refine via ?_
  ((first | refine qc1 rfl rfl fun K hK => ?_ | refine qc3 rfl rfl fun K hK => ?_); simp (disch := (first | omega | (simp only [sz] <;> omega) | fail)) only [go_sem]; refine ⟨_, _, rWord_rU (i := top) (v := 0) (m := false) _ ht (by omega), ?_⟩; (try simp only [go_sem]); with_reducible refine hK _ _ ?_; clear hK K)
  refine via ?_
  ((first | refine qp1 rfl rfl fun K hK => ?_ | refine qp3 rfl rfl fun K hK => ?_); simp (disch := (first | omega | (simp only [sz] <;> omega) | fail)) only [go_sem]; refine ⟨_, _, .store _ (rU top false 0) (acc_p hp hm) (acc_m hp hm) (by omega), ?_⟩; (try simp only [go_sem]); with_reducible refine hK _ _ ?_; clear hK K)
  rw [acc_acc hne]
  refine via ?_
  ((first | refine qp1 rfl rfl fun K hK => ?_ | refine qp3 rfl rfl fun K hK => ?_); simp (disch := (first | omega | (simp only [sz] <;> omega) | fail)) only [go_sem]; refine ⟨_, _, qpu fun w => gPool_any N T w hN hT, ?_⟩; (try simp only [go_sem]); with_reducible refine hK _ _ ?_; clear hK K)
  refine viaF e2 ?_
  ((first | refine qc1 rfl rfl fun K hK => ?_ | refine qc3 rfl rfl fun K hK => ?_); simp (disch := (first | omega | (simp only [sz] <;> omega) | fail)) only [go_sem]; refine ⟨_, _, rWord_rU (i := x) (v := ver + 1) (m := false) _ (by omega) (by omega), ?_⟩; (try simp only [go_sem]); with_reducible refine hK _ _ ?_; clear hK K)
  refine via ?_
  ((first | refine qp1 rfl rfl fun K hK => ?_ | refine qp3 rfl rfl fun K hK => ?_); simp (disch := (first | omega | (simp only [sz] <;> omega) | fail)) only [go_sem]; refine ⟨_, _, .cas _ (rU top false ver) (rU x false (ver + 1)) (acc_p hp hm) (acc_m hp hm) (by omega), ?_⟩; (try simp only [go_sem]); with_reducible refine hK _ _ ?_; clear hK K)
  rw [hW2.hits4 (by rw [up2_r (by decide)]; exact h4), acc_acc hne]
  refine via ?_
  refine Goes.fin rfl (by simp (disch := (first | omega | (simp only [heapL_next, List.length_cons, List.length_nil, List.size_toArray, geo_len] <;> omega) | fail)) only [go_sem, resA, res1A, Try.results138] <;> rfl) ?_
  rfl
end Go.Proofs.Ytjdbknnacaacaaa
namespace Go.Proofs.Ytjdbknnacaacaaa
open Go Go.RowKit
set_option linter.unusedSimpArgs false
set_option linter.unusedVariables false
def Chn (W17 : Nat → UInt64) : List Nat → Prop
  | [] => True
  | x :: l => W17 (x - 1) = rU (l.headD 0) false 0 ∧ Chn W17 l
theorem Chn.congr {V V' : Nat → UInt64} : ∀ {l : List Nat}, Chn V l → (∀ x ∈ l, V' (x - 1) = V (x - 1)) → Chn V' l
  | [], _, _ => trivial
  | x :: l, ⟨h1, h2⟩, h => ⟨(h x (by simp)).trans h1, h2.congr fun y hy => h y (by simp [hy])⟩
def upG (G : Nat → List Nat) (t : Nat) (l : List Nat) : Nat → List Nat := fun t' => if t' = t then l else G t'
theorem upG_eq {G : Nat → List Nat} {t : Nat} {l : List Nat} : upG G t l t = l := if_pos rfl
theorem upG_ne {G : Nat → List Nat} {t t' : Nat} {l : List Nat} (h : t' ≠ t) : upG G t l t' = G t' := if_neg h
theorem upG_same {G : Nat → List Nat} {t : Nat} : upG G t (G t) = G := by
  funext t'; unfold upG; split
  · rename_i h; rw [h]
  · rfl
theorem upG_up {G : Nat → List Nat} {t : Nat} {l l' : List Nat} : upG (upG G t l) t l' = upG G t l' := by
  funext t'; unfold upG; split <;> rfl
def flat (T : Nat) (G : Nat → List Nat) : List Nat := (List.range T).flatMap G
theorem flatMap_eq {f g : Nat → List Nat} : ∀ {l : List Nat}, (∀ x ∈ l, f x = g x) → l.flatMap f = l.flatMap g
  | [], _ => rfl
  | x :: l, h => by rw [List.flatMap_cons, List.flatMap_cons, h x (by simp), flatMap_eq fun y hy => h y (by simp [hy])]
theorem flat_ts {G : Nat → List Nat} {t : Nat} {l : List Nat} : ∀ {ts : List Nat}, ts.Nodup → t ∈ ts → (ts.flatMap (upG G t l)).Perm (l ++ ts.flatMap (upG G t []))
  | [], _, h => by cases h
  | u :: ts, hn, h => by
    rw [List.nodup_cons] at hn
    simp only [List.flatMap_cons]
    by_cases e : u = t
    · subst e
      rw [upG_eq, upG_eq]
      have e2 : ts.flatMap (upG G u l) = ts.flatMap (upG G u []) := by
        refine flatMap_eq fun x hx => ?_
        have hne : x ≠ u := fun e => hn.1 (by rw [← e]; exact hx)
        rw [upG_ne hne, upG_ne hne]
      rw [e2, List.nil_append]
    · rw [upG_ne e, upG_ne e]
      have h' : t ∈ ts := by simpa [Ne.symm e] using h
      exact ((flat_ts hn.2 h').append_left _).trans (by rw [← List.append_assoc, ← List.append_assoc]; exact List.perm_append_comm.append_right _)
theorem flat_up {T : Nat} {G : Nat → List Nat} {t : Nat} {l : List Nat} (h : t < T) : (flat T (upG G t l)).Perm (l ++ flat T (upG G t [])) := flat_ts List.nodup_range (List.mem_range.2 h)
theorem flat_at {T : Nat} {G : Nat → List Nat} {t : Nat} (h : t < T) : (flat T G).Perm (G t ++ flat T (upG G t [])) := by
  have := flat_up (G := G) (l := G t) h
  rwa [upG_same] at this
theorem mem_flat {T : Nat} {G : Nat → List Nat} {t x : Nat} (h : t < T) (hx : x ∈ G t) : x ∈ flat T G := List.mem_flatMap.2 ⟨t, List.mem_range.2 h, hx⟩
structure Pl (N T : Nat) (W : Nat → Nat → UInt64) (free : List Nat) (ver : Nat) (H : Nat → Nat → Nat) (G : Nat → List Nat) (ex : Nat) : Prop where
  top : W 4 0 = rU (free.headD 0) false ver
  ch : Chn (W 17) free
  haz : ∀ t s, t < T → s < 2 → W 14 (t * 2 + s) = UInt64.ofNat (H t s)
  hlt : ∀ t s, H t s < 16777216
  gn : ∀ t, t < T → t ≠ ex → W 15 t = UInt64.ofNat (G t).length
  gk : ∀ t k x, t < T → t ≠ ex → (G t)[k]? = some x → W 16 (t * (2 * T + 2) + k) = UInt64.ofNat x
  rng : ∀ x, x ∈ free ++ flat T G → 1 ≤ x ∧ x ≤ gM N T
  nd : (free ++ flat T G).Nodup
theorem Pl.head {N T : Nat} {W : Nat → Nat → UInt64} {free : List Nat} {ver : Nat} {H : Nat → Nat → Nat} {G : Nat → List Nat} {ex : Nat} (h : Pl N T W free ver H G ex) (hM : gM N T < 16777216) : free.headD 0 < 16777216 := by
  cases free with
  | nil => simp
  | cons x l => have := (h.rng x (by simp)).2; simp; omega
theorem Pl.acquire {N T : Nat} {W : Nat → Nat → UInt64} {free : List Nat} {x ver : Nat} {H : Nat → Nat → Nat} {G : Nat → List Nat} {ex : Nat} (h : Pl N T W (x :: free) ver H G ex) : Pl N T (up2 W 4 0 (rU (free.headD 0) false (ver + 1))) free (ver + 1) H G ex where
  top := up2_eq
  ch := h.ch.2.congr fun y _ => up2_r (by decide)
  haz := fun t s ht hs => (up2_r (by decide)).trans (h.haz t s ht hs)
  hlt := h.hlt
  gn := fun t ht he => (up2_r (by decide)).trans (h.gn t ht he)
  gk := fun t k x ht he hx => (up2_r (by decide)).trans (h.gk t k x ht he hx)
  rng := fun y hy => h.rng y (by simp only [List.cons_append, List.mem_cons]; exact .inr hy)
  nd := by have := h.nd; rw [List.cons_append, List.nodup_cons] at this; exact this.2
theorem pred_ne {x y : Nat} (h1 : 1 ≤ x) (h2 : 1 ≤ y) (h : x ≠ y) : x - 1 ≠ y - 1 := by omega
theorem Pl.give {N T : Nat} {W : Nat → Nat → UInt64} {free : List Nat} {x ver : Nat} {H : Nat → Nat → Nat} {G : Nat → List Nat} {ex : Nat} (h : Pl N T W free ver H G ex) (h1 : 1 ≤ x) (h2 : x ≤ gM N T) (hf : x ∉ free ++ flat T G) :
    Pl N T (up2 (up2 W 17 (x - 1) (rU (free.headD 0) false 0)) 4 0 (rU x false (ver + 1))) (x :: free) (ver + 1) H G ex where
  top := up2_eq
  ch := by
    refine ⟨(up2_r (by decide)).trans up2_eq, h.ch.congr fun y hy => (up2_r (by decide)).trans (up2_n ?_)⟩
    exact pred_ne (h.rng y (by simp [hy])).1 h1 (fun e => hf (by simp [← e, hy]))
  haz := fun t s ht hs => (up2_r (by decide)).trans ((up2_r (by decide)).trans (h.haz t s ht hs))
  hlt := h.hlt
  gn := fun t ht he => (up2_r (by decide)).trans ((up2_r (by decide)).trans (h.gn t ht he))
  gk := fun t k x ht he hx => (up2_r (by decide)).trans ((up2_r (by decide)).trans (h.gk t k x ht he hx))
  rng := fun y hy => by
    simp only [List.cons_append, List.mem_cons] at hy
    rcases hy with rfl | hy
    · exact ⟨h1, h2⟩
    · exact h.rng y hy
  nd := by rw [List.cons_append, List.nodup_cons]; exact ⟨hf, h.nd⟩
def upH (H : Nat → Nat → Nat) (t s x : Nat) : Nat → Nat → Nat := fun t' s' => if t' = t ∧ s' = s then x else H t' s'
theorem Pl.hazard {N T : Nat} {W : Nat → Nat → UInt64} {free : List Nat} {ver : Nat} {H : Nat → Nat → Nat} {G : Nat → List Nat} {ex : Nat} (h : Pl N T W free ver H G ex) {t s x : Nat} (hs : s < 2) (hx : x < 16777216) : Pl N T (up2 W 14 (t * 2 + s) (UInt64.ofNat x)) free ver (upH H t s x) G ex where
  top := (up2_r (by decide)).trans h.top
  ch := h.ch.congr fun y _ => up2_r (by decide)
  haz := fun t' s' ht hs' => by
    unfold upH
    by_cases e : t' = t ∧ s' = s
    · obtain ⟨rfl, rfl⟩ := e; rw [if_pos ⟨rfl, rfl⟩, up2_eq]
    · rw [if_neg e, up2_n (by omega)]; exact h.haz t' s' ht hs'
  hlt := fun t' s' => by unfold upH; split; exact hx; exact h.hlt t' s'
  gn := fun t ht he => (up2_r (by decide)).trans (h.gn t ht he)
  gk := fun t k x ht he hx => (up2_r (by decide)).trans (h.gk t k x ht he hx)
  rng := h.rng
  nd := h.nd
theorem Pl.other {N T : Nat} {W W' : Nat → Nat → UInt64} {free : List Nat} {ver : Nat} {H : Nat → Nat → Nat} {G : Nat → List Nat} {ex : Nat} (h : Pl N T W free ver H G ex) (e : ∀ r n, r = 4 ∨ r = 14 ∨ r = 15 ∨ r = 16 ∨ (r = 17 ∧ n + 1 ∈ free) → W' r n = W r n) : Pl N T W' free ver H G ex where
  top := (e 4 0 (.inl rfl)).trans h.top
  ch := h.ch.congr fun y hy => e 17 (y - 1) (.inr (.inr (.inr (.inr ⟨rfl, by have := (h.rng y (by simp [hy])).1; rwa [Nat.sub_add_cancel this]⟩))))
  haz := fun t s ht hs => (e 14 _ (.inr (.inl rfl))).trans (h.haz t s ht hs)
  hlt := h.hlt
  gn := fun t ht he => (e 15 _ (.inr (.inr (.inl rfl)))).trans (h.gn t ht he)
  gk := fun t k x ht he hx => (e 16 _ (.inr (.inr (.inr (.inl rfl))))).trans (h.gk t k x ht he hx)
  rng := h.rng
  nd := h.nd
theorem cell_ne {T t t' k k' : Nat} (h : t' ≠ t) (hk : k < 2 * T + 2) (hk' : k' < 2 * T + 2) : t' * (2 * T + 2) + k' ≠ t * (2 * T + 2) + k := by
  intro e
  have e1 : (t' * (2 * T + 2) + k') / (2 * T + 2) = t' := by rw [Nat.mul_comm, Nat.mul_add_div (by omega), Nat.div_eq_of_lt hk', Nat.add_zero]
  have e2 : (t * (2 * T + 2) + k) / (2 * T + 2) = t := by rw [Nat.mul_comm, Nat.mul_add_div (by omega), Nat.div_eq_of_lt hk, Nat.add_zero]
  exact h (by rw [← e1, e, e2])
theorem Pl.retire {N T : Nat} {W : Nat → Nat → UInt64} {free : List Nat} {ver x t : Nat} {H : Nat → Nat → Nat} {G : Nat → List Nat} {ex : Nat} (h : Pl N T W free ver H G ex) (ht : t < T) (hlen : ∀ t, t < T → (G t).length ≤ 2 * T) (h1 : 1 ≤ x) (h2 : x ≤ gM N T) (hf : x ∉ free ++ flat T G) :
    Pl N T (up2 (up2 W 16 (t * (2 * T + 2) + (G t).length) (UInt64.ofNat x)) 15 t (UInt64.ofNat ((G t).length + 1))) free ver H (upG G t (G t ++ [x])) ex where
  top := (up2_r (by decide)).trans ((up2_r (by decide)).trans h.top)
  ch := h.ch.congr fun y _ => (up2_r (by decide)).trans (up2_r (by decide))
  haz := fun t s ht hs => (up2_r (by decide)).trans ((up2_r (by decide)).trans (h.haz t s ht hs))
  hlt := h.hlt
  gn := fun t' ht' he => by
    by_cases e : t' = t
    · subst e; rw [up2_eq, upG_eq]; simp
    · rw [up2_n e, up2_r (by decide), upG_ne e]; exact h.gn t' ht' he
  gk := fun t' k y ht' he hy => by
    rw [up2_r (by decide)]
    have hl := hlen t ht
    by_cases e : t' = t
    · subst e
      rw [upG_eq] at hy
      by_cases e2 : k = (G t').length
      · subst e2
        rw [List.getElem?_append_right (Nat.le_refl _), Nat.sub_self] at hy
        simp only [List.getElem?_cons_zero, Option.some.injEq] at hy
        rw [hy, up2_eq]
      · have hk : k < (G t').length := by
          have := (List.getElem?_eq_some_iff.1 hy).1
          rw [List.length_append, List.length_singleton] at this; omega
        rw [List.getElem?_append_left hk] at hy
        rw [up2_n (by omega)]
        exact h.gk t' k y ht' he hy
    · rw [upG_ne e] at hy
      have hk := (List.getElem?_eq_some_iff.1 hy).1
      have hl' := hlen t' ht'
      rw [up2_n (cell_ne e (by omega) (by omega))]
      exact h.gk t' k y ht' he hy
  rng := fun y hy => by
    rw [List.mem_append] at hy
    rcases hy with hy | hy
    · exact h.rng y (by simp [hy])
    · have := (flat_up ht).mem_iff.1 hy
      rw [List.mem_append, List.mem_append, List.mem_singleton] at this
      rcases this with (h3 | rfl) | h3
      · exact h.rng y (List.mem_append.2 (.inr (mem_flat ht h3)))
      · exact ⟨h1, h2⟩
      · exact h.rng y (List.mem_append.2 (.inr ((flat_at ht).mem_iff.2 (List.mem_append.2 (.inr h3)))))
  nd := by
    have p1 : (flat T (upG G t (G t ++ [x]))).Perm (x :: flat T G) := by
      refine (flat_up ht).trans (List.Perm.trans ?_ ((flat_at ht).symm.cons x))
      rw [List.append_assoc]
      exact List.perm_middle
    have p2 : (free ++ flat T (upG G t (G t ++ [x]))).Perm (x :: (free ++ flat T G)) := (p1.append_left free).trans List.perm_middle
    exact p2.nodup_iff.2 (List.nodup_cons.2 ⟨hf, h.nd⟩)
theorem Pl.opened {N T : Nat} {W : Nat → Nat → UInt64} {free : List Nat} {ver t : Nat} {H : Nat → Nat → Nat} {G : Nat → List Nat} (h : Pl N T W free ver H G T) : Pl N T W free ver H G t where
  top := h.top
  ch := h.ch
  haz := h.haz
  hlt := h.hlt
  gn := fun t ht _ => h.gn t ht (by omega)
  gk := fun t k x ht _ hx => h.gk t k x ht (by omega) hx
  rng := h.rng
  nd := h.nd
theorem Pl.closed {N T : Nat} {W : Nat → Nat → UInt64} {free : List Nat} {ver t : Nat} {H : Nat → Nat → Nat} {G : Nat → List Nat} {K : List Nat} (h : Pl N T W free ver H (upG G t K) t) (hk : ∀ (k x : Nat), K[k]? = some x → W 16 (t * (2 * T + 2) + k) = UInt64.ofNat x) : Pl N T (up2 W 15 t (UInt64.ofNat K.length)) free ver H (upG G t K) T where
  top := (up2_r (by decide)).trans h.top
  ch := h.ch.congr fun y _ => up2_r (by decide)
  haz := fun t s ht hs => (up2_r (by decide)).trans (h.haz t s ht hs)
  hlt := h.hlt
  gn := fun t' ht' _ => by
    by_cases e : t' = t
    · subst e; rw [up2_eq, upG_eq]
    · rw [up2_n e]; exact h.gn t' ht' e
  gk := fun t' k x ht' _ hx => by
    rw [up2_r (by decide)]
    by_cases e : t' = t
    · subst e; rw [upG_eq] at hx; exact hk k x hx
    · exact h.gk t' k x ht' e hx
  rng := h.rng
  nd := h.nd
theorem Pl.row {N T : Nat} {W : Nat → Nat → UInt64} {free : List Nat} {ver t k : Nat} {v : UInt64} {H : Nat → Nat → Nat} {G : Nat → List Nat} (h : Pl N T W free ver H G t) (hk : k < 2 * T + 2) (hl : ∀ t', t' < T → t' ≠ t → (G t').length ≤ 2 * T + 1) : Pl N T (up2 W 16 (t * (2 * T + 2) + k) v) free ver H G t where
  top := (up2_r (by decide)).trans h.top
  ch := h.ch.congr fun y _ => up2_r (by decide)
  haz := fun t s ht hs => (up2_r (by decide)).trans (h.haz t s ht hs)
  hlt := h.hlt
  gn := fun t ht he => (up2_r (by decide)).trans (h.gn t ht he)
  gk := fun t' k' x ht he hx => by
    have := (List.getElem?_eq_some_iff.1 hx).1
    have := hl t' ht he
    rw [up2_n (cell_ne he hk (by omega))]
    exact h.gk t' k' x ht he hx
  rng := h.rng
  nd := h.nd
theorem Pl.perm {N T : Nat} {W : Nat → Nat → UInt64} {free : List Nat} {ver t : Nat} {H : Nat → Nat → Nat} {G : Nat → List Nat} {l l' : List Nat} (h : Pl N T W free ver H (upG G t l) t) (ht : t < T) (hl : l'.Perm l) : Pl N T W free ver H (upG G t l') t where
  top := h.top
  ch := h.ch
  haz := h.haz
  hlt := h.hlt
  gn := fun t' ht' he => by have := h.gn t' ht' he; rw [upG_ne he] at this ⊢; exact this
  gk := fun t' k x ht' he hx => by rw [upG_ne he] at hx; exact h.gk t' k x ht' he (by rw [upG_ne he]; exact hx)
  rng := fun x hx => h.rng x ((((flat_up ht).trans (hl.append_right _)).trans (flat_up ht).symm).append_left free |>.mem_iff.1 hx)
  nd := ((((flat_up ht).trans (hl.append_right _)).trans (flat_up ht).symm).append_left free).nodup_iff.2 h.nd
theorem Pl.drop {N T : Nat} {W : Nat → Nat → UInt64} {free : List Nat} {ver t x : Nat} {H : Nat → Nat → Nat} {G : Nat → List Nat} {l : List Nat} (h : Pl N T W free ver H (upG G t (x :: l)) t) (ht : t < T) : (1 ≤ x ∧ x ≤ gM N T) ∧ x ∉ free ++ flat T (upG G t l) ∧ Pl N T W free ver H (upG G t l) t := by
  have p1 : (flat T (upG G t (x :: l))).Perm (x :: flat T (upG G t l)) := (flat_up ht).trans ((flat_up ht).symm.cons x)
  have p2 : (free ++ flat T (upG G t (x :: l))).Perm (x :: (free ++ flat T (upG G t l))) := (p1.append_left free).trans List.perm_middle
  have hn := List.nodup_cons.1 (p2.nodup_iff.1 h.nd)
  refine ⟨h.rng x (p2.mem_iff.2 (by simp)), hn.1, ?_⟩
  exact {
    top := h.top, ch := h.ch, haz := h.haz, hlt := h.hlt
    gn := fun t' ht' he => by have := h.gn t' ht' he; rw [upG_ne he] at this ⊢; exact this
    gk := fun t' k x ht' he hx => by rw [upG_ne he] at hx; exact h.gk t' k x ht' he (by rw [upG_ne he]; exact hx)
    rng := fun y hy => h.rng y (p2.mem_iff.2 (by simp only [List.mem_cons]; exact .inr hy))
    nd := hn.2 }
end Go.Proofs.Ytjdbknnacaacaaa
namespace Go.Proofs.Ytjdbknnacaacaaa
open Go Go.RowKit
set_option linter.unusedSimpArgs false
set_option linter.unusedVariables false
def farA (ns : List Nat) (h : AHeap) : AHeap := ⟨fun n => match ns.elem n with | true => (h.get n).map (fun b => { b with ro := true }) | false => none, h.next⟩
theorem farA_get {ns : List Nat} {h : AHeap} {n : Nat} : (farA ns h).get n = match ns.elem n with | true => (h.get n).map (fun b => { b with ro := true }) | false => none := rfl
section
variable {P : Program} {σ : Type} {X : Face P σ} {fn : Func} {A : Conf σ → Prop} {ops : Array Oper} {k : List Item} {i : Nat} {tmps : List Value} {h : AHeap} {S : σ} {o : Oper}
variable {W : List Nat} {n0 : Nat} {hf : AHeap} {Kf : List Value → AHeap → σ → Prop} {born : List (Nat × Nat)}
end
attribute [go_sem] farA_get List.elem_cons List.elem_nil Option.map_some
attribute [go_sem_proc] Nat.reduceBEq
end Go.Proofs.Ytjdbknnacaacaaa
namespace Go.Proofs.Ytjdbknnacaacaaa
open Go Go.RowKit
set_option linter.unusedSimpArgs false
set_option linter.unusedVariables false
theorem gap_fold {l ys : List (Option Blk)} {q : Nat} (h : l.length ≤ q) : heapJ l q ys = heapJ (l ++ List.replicate (q - l.length) none ++ ys) (q + ys.length) [] := by
  refine ah_ext (fun n => ?_) (by simp [gap_next])
  have e : (l ++ List.replicate (q - l.length) none).length = q := by simp; omega
  by_cases hn : n < q
  · rw [gap_lo hn, gap_lo (by omega), List.getElem?_append_left (by omega)]
    by_cases h2 : n < l.length
    · rw [List.getElem?_append_left h2]
    · rw [List.getElem?_append_right (by omega), List.getElem?_eq_none (by omega), List.getElem?_replicate]
      split <;> rfl
  · obtain ⟨i, rfl⟩ : ∃ i, n = q + i := ⟨n - q, by omega⟩
    rw [gap_hi]
    by_cases h3 : i < ys.length
    · rw [gap_lo (by omega), List.getElem?_append_right (by omega), e, Nat.add_sub_cancel_left]
    · rw [List.getElem?_eq_none (by omega)]
      obtain ⟨j, rfl⟩ : ∃ j, i = ys.length + j := ⟨i - ys.length, by omega⟩
      rw [← Nat.add_assoc, gap_hi]; rfl
def Ge (l l' : List (Option Blk)) : Prop := ∀ (n : Nat) (b : Blk), l[n]? = some (some b) → l'[n]? = some (some b)
theorem Ge.refl (l : List (Option Blk)) : Ge l l := fun _ _ h => h
theorem Ge.trans {l l' l'' : List (Option Blk)} (h : Ge l l') (h' : Ge l' l'') : Ge l l'' := fun n b k => h' n b (h n b k)
theorem Ge.fold (l ys : List (Option Blk)) (q : Nat) : Ge l (l ++ List.replicate (q - l.length) none ++ ys) := by
  intro n b h
  have hn : n < l.length := (List.getElem?_eq_some_iff.1 h).1
  rw [List.append_assoc, List.getElem?_append_left hn]; exact h
theorem fold_at {l ys : List (Option Blk)} {q i : Nat} (h : l.length ≤ q) : (l ++ List.replicate (q - l.length) none ++ ys)[q + i]? = ys[i]? := by
  rw [List.getElem?_append_right (by simp; omega)]
  congr 1; simp; omega
theorem fold_len {l ys : List (Option Blk)} {q : Nat} (h : l.length ≤ q) : (l ++ List.replicate (q - l.length) none ++ ys).length = q + ys.length := by simp; omega
section
variable {P : Program} {σ : Type} {X : Face P σ} {fn : Func} {A : Conf σ → Prop} {ops : Array Oper} {k : List Item} {i : Nat} {tmps : List Value} {h : AHeap} {S : σ} {o : Oper} {todo : List Item}
def DoesD (X : Face P σ) (f : FuncId) (args : Array Value) (h : AHeap) (S : σ) (v : Value) (h1 : AHeap) (S1 : σ) : Prop :=
  ∃ g c, P.funcs[f]? = some g ∧ goB g = true ∧ g.body = some c ∧ Goes X g (fun x => x = .done v h1 S1) (.run [.code c] (args.toList ++ List.replicate (g.ntmps - args.size) undef) h S)
theorem DoesD.mk {f : FuncId} {g : Func} {c : Code} {args : Array Value} {Q : Value → AHeap → σ → Prop} (hf : P.funcs[f]? = some g) (hg : goB g = true) (hb : g.body = some c)
    (hrun : Goes X g (fun x => ∃ v h1 S1, Q v h1 S1 ∧ x = .done v h1 S1) (.run [.code c] (args.toList ++ List.replicate (g.ntmps - args.size) undef) h S)) : ∃ v h1 S1, Q v h1 S1 ∧ DoesD X f args h S v h1 S1 := by
  obtain ⟨c', ⟨v, h1, S1, hq, rfl⟩, G⟩ := hrun.out
  exact ⟨v, h1, S1, hq, g, c, hf, hg, hb, G⟩
theorem Goes.finD {Q : Value → AHeap → σ → Prop} {v : Value} (ht : retB todo = true) (hv : resA P fn tmps h = some v) (hQ : Q v h S) : Goes X fn (fun x => ∃ v h1 S1, Q v h1 S1 ∧ x = .done v h1 S1) (.run todo tmps h S) :=
  .ret ht hv (.here ⟨v, h, S, hQ, rfl⟩)
theorem qd1 (ho : ops.toList[i]? = some o) (hw : Region.wanted o (yieldedL ops tmps) = true)
    (hk : ∀ K : List Value → AHeap → σ → Prop, (∀ t h S', At X fn A ops k (i + 1) t h S' → K t h S') → CallK (fun f args => ∃ v h1 S1, DoesD X f args h S v h1 S1 ∧ K (putL o.dst v tmps) h1 S1) (callA P (evA tmps) o.op)) (hb : opOK o.op = true := by rfl) : At X fn A ops k i tmps h S := by
  have hk := hk _ fun _ _ _ h => h
  unfold At
  rw [range_at (at_list ho)]
  cases hv : callA P (evA tmps) o.op with
  | none => rw [hv] at hk; exact hk.elim
  | some x =>
    obtain ⟨f, args⟩ := x
    rw [hv] at hk
    obtain ⟨v, h1, S1, ⟨g, c, hf, hg, hbd, hrun⟩, hK⟩ := hk
    exact .callD f g c args v h1 S1 (at_list ho) hw (opOK_all hb) hv hf hg hbd hrun hK
variable {W : List Nat} {n0 : Nat} {Kf : List Value → AHeap → σ → Prop} {born : List (Nat × Nat)}
theorem qd3 (ho : ops.toList[i]? = some o) (hw : Region.wanted o (yieldedL ops tmps) = true)
    (hk : ∀ K : List Value → AHeap → σ → Prop, (∀ t h1 S', RG X W ops n0 Kf (i + 1) t h1 S' (bornN i h.next h1.next ++ born) → K t h1 S') →
      CallK (fun f args => ∃ v h1 S1, DoesD X f args h S v h1 S1 ∧ (h.next ≤ h1.next ∧ h1.next ≤ VB ∧ h1.Low) ∧ K (putL o.dst v tmps) h1 S1) (callA P (evA tmps) o.op))
    (hb : opOK o.op = true := by rfl) (hq : wrB W i o = true := by rfl) (hnf : farB W i = false := by rfl) : RG X W ops n0 Kf i tmps h S born := by
  have hk := hk (fun t h1 S' => RG X W ops n0 Kf (i + 1) t h1 S' (bornN i h.next h1.next ++ born)) fun _ _ _ h => h
  cases hv : callA P (evA tmps) o.op with
  | none => rw [hv] at hk; exact hk.elim
  | some x =>
    obtain ⟨f, args⟩ := x
    rw [hv] at hk
    obtain ⟨v, h1, S1, ⟨g, c, hf, hg, hbd, hrun⟩, ⟨h2, h3, h4⟩, hK⟩ := hk
    exact .callD' f g c args hnf (at_list ho) hw (opOK_all hb) (.inr h3) hq h2 h4 hv hf hg hbd hrun (fun _ n b hb => by cases hb) hK
variable {hf : AHeap}
variable {l ys : List (Option Blk)} {q : Nat}
theorem At.folds (hl : l.length ≤ q) (hk : ∀ lf : List (Option Blk), lf.length = q + ys.length → Ge l lf → (∀ i, lf[q + i]? = ys[i]?) → At X fn A ops k i tmps (heapJ lf (q + ys.length) []) S) : At X fn A ops k i tmps (heapJ l q ys) S := by
  rw [gap_fold hl]
  exact hk _ (fold_len hl) (Ge.fold l ys q) fun i => fold_at hl
theorem Goes.folds (hl : l.length ≤ q) (hk : ∀ lf : List (Option Blk), lf.length = q + ys.length → Ge l lf → (∀ i, lf[q + i]? = ys[i]?) → Goes X fn A (.run todo tmps (heapJ lf (q + ys.length) []) S)) : Goes X fn A (.run todo tmps (heapJ l q ys) S) := by
  rw [gap_fold hl]
  exact hk _ (fold_len hl) (Ge.fold l ys q) fun i => fold_at hl
theorem named_eq {l l2 : List (Option Blk)} {q : Nat} {b : Option Blk} (h : l2 = l.set q b) (hq : q < l.length) : l2[q]? = some b := by rw [h]; exact List.getElem?_set_self hq
theorem named_ne {l l2 : List (Option Blk)} {q n : Nat} {b : Option Blk} {c : Option (Option Blk)} (h : l2 = l.set q b) (hc : l[n]? = c) (hn : q ≠ n) : l2[n]? = c := by rw [h, List.getElem?_set_ne hn]; exact hc
theorem named_len {l l2 : List (Option Blk)} {q : Nat} {b : Option Blk} (h : l2 = l.set q b) : l2.length = l.length := by rw [h, List.length_set]
theorem At.named (hk : ∀ lf : List (Option Blk), lf = l → At X fn A ops k i tmps (heapJ lf q ys) S) : At X fn A ops k i tmps (heapJ l q ys) S := hk l rfl
theorem Goes.named (hk : ∀ lf : List (Option Blk), lf = l → Goes X fn A (.run todo tmps (heapJ lf q ys) S)) : Goes X fn A (.run todo tmps (heapJ l q ys) S) := hk l rfl
end
end Go.Proofs.Ytjdbknnacaacaaa
