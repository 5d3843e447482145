/-
  The abstract machine: append, in whatever of its ways.
  No condition: laws.
-/
import Derived.Test.YtjdbknnacaacaaaURunsB
import Derived.Test.YtjdbknnacaacaaaUQuick
import Derived.Test.YtjdbknnacaacaaaURun5
namespace Go.Proofs.Ytjdbknnacaacaaa
open Go Go.RowKit
set_option linter.unusedSimpArgs false
set_option linter.unusedVariables false
def appAt (P : Program) (h : AHeap) (t : TypeId) (X Y : Value) : Option (Value × AHeap) := match X, tySlice P t, Y with
  | .slice none 0 0, some el, .slice _ 0 _ => (match tySize P el with | some _ => some (.slice none 0 0, h) | none => none)
  | .slice (some a) sl sc, some el, .slice b n c => (match tySize P el with
    | some s => if sl + n ≤ sc then (match n, cellsA h s (.slice b n c), h.get a.block with
        | 0, _, _ => some (.slice (some a) sl sc, h)
        | _, some news, some bk => if bk.ro = false ∧ a.spot = none ∧ a.off + sl * s + news.length ≤ bk.cells.length ∧ news.length = n * s ∧ news.all cellB = true then
            some (.slice (some a) (sl + n) sc, h.put a.block { bk with cells := spliceA bk.cells (a.off + sl * s) news }) else none
        | _, _, _ => none)
      else (match appendA P h t X Y with
        | some (cs, el, need, false) => some (.slice (some ⟨h.next, 0, none⟩) need need, (h.putO a.block none).addO (some ⟨cs, el, false, tySize P el⟩))
        | _ => none)
    | none => none)
  | _, _, _ => none
def AppTo (P : Program) (h : AHeap) (t : TypeId) (X Y : Value) (v : Value) (h' : AHeap) : Prop := appAt P h t X Y = some (v, h') ∨ ∃ ob, appV P h h.next t X Y = some (v, ob) ∧ h' = h.addO ob
structure AppT (P : Program) (t el : TypeId) (s : Nat) : Prop where
  sl : tySlice P t = some el
  sz : tySize P el = some (s + 1)
  bs : ∃ bs, tyBytes P el = some bs ∧ bs ≤ 1048576
  z : ∃ z, tyZero P el = some z ∧ plainB z = true ∧ z.cells.size = s + 1
theorem AppT.of {P : Program} {t el : TypeId} {s bs : Nat} {z : Value} (h1 : tySlice P t = some el) (h2 : tySize P el = some (s + 1)) (h3 : tyBytes P el = some bs) (h4 : tyZero P el = some z) (h5 : (plainB z && decide (z.cells.size = s + 1) && decide (bs ≤ 1048576)) = true) : AppT P t el s := by
  rw [Bool.and_eq_true, Bool.and_eq_true, decide_eq_true_eq, decide_eq_true_eq] at h5
  exact ⟨h1, h2, ⟨bs, h3, h5.2⟩, ⟨z, h4, h5.1.1, h5.1.2⟩⟩
section
variable {P : Program} {h : AHeap} {t el : TypeId} {s : Nat}
theorem appN_new (T : AppT P t el s) {nx : Nat} {a b : Option Addr} {sl n c : Nat} {olds news : List Value} (c1 : cellsA h (s + 1) (.slice a sl sl) = some olds) (c2 : cellsA h (s + 1) (.slice b n c) = some news) (hn : 0 < n) (hl : sl + n ≤ 16777216) (ha : ∀ x, a = some x → ∃ bk, h.get x.block = some bk ∧ bk.grow = some 0) :
    appV P h nx t (.slice a sl sl) (.slice b n c) = some (.slice (some ⟨nx, 0, none⟩) (sl + n) (sl + n), some ⟨olds ++ news, el, false, some (s + 1)⟩) := by
  obtain ⟨h1, h2, ⟨bs, h3, h4⟩, ⟨z, h5, h6, h7⟩⟩ := T
  refine appV_new h1 h2 h3 h5 ?_ c1 c2 (by omega) hl ha
  rw [Bool.and_eq_true, Bool.and_eq_true, decide_eq_true_eq, decide_eq_true_eq]
  exact ⟨⟨h6, h7⟩, h4⟩
theorem app_new (T : AppT P t el s) {a b : Option Addr} {sl n c : Nat} {olds news : List Value} (c1 : cellsA h (s + 1) (.slice a sl sl) = some olds) (c2 : cellsA h (s + 1) (.slice b n c) = some news) (hn : 0 < n) (hl : sl + n ≤ 16777216) (ha : ∀ x, a = some x → ∃ bk, h.get x.block = some bk ∧ bk.grow = some 0) :
    AppTo P h t (.slice a sl sl) (.slice b n c) (.slice (some ⟨h.next, 0, none⟩) (sl + n) (sl + n)) (h.addO (some ⟨olds ++ news, el, false, some (s + 1)⟩)) := by
  exact .inr ⟨_, appN_new T c1 c2 hn hl ha, rfl⟩
theorem app_grow (T : AppT P t el s) {a : Addr} {b : Option Addr} {sl n c : Nat} {olds news : List Value} (hg : h.get a.block = some ⟨olds, el, false, some (s + 1)⟩) (hsp : a.spot = none) (ho : a.off = 0) (hlen : olds.length = sl * (s + 1)) (c2 : cellsA h (s + 1) (.slice b n c) = some news) (hc : news.all cellB = true) (hn : 0 < n) (hl : sl + n ≤ 16777216) :
    AppTo P h t (.slice (some a) sl sl) (.slice b n c) (.slice (some ⟨h.next, 0, none⟩) (sl + n) (sl + n)) ((h.putO a.block none).addO (some ⟨olds ++ news, el, false, some (s + 1)⟩)) := by
  obtain ⟨h1, h2, ⟨bs, h3, h4⟩, ⟨z, h5, h6, h7⟩⟩ := T
  refine .inl ?_
  have c1 : cellsA h (s + 1) (.slice (some a) sl sl) = some olds := by
    by_cases h0 : sl = 0
    · subst h0
      rw [Nat.zero_mul] at hlen
      rw [List.eq_nil_of_length_eq_zero hlen]
      exact cellsA_zero
    · rw [cellsA_row h0 hg hsp (by rw [ho, hlen]; omega), ho, List.drop_zero, ← hlen, List.take_length]
  have hap : appendA P h t (.slice (some a) sl sl) (.slice b n c) = some (olds ++ news, el, sl + n, false) := by
    unfold appendA
    simp only [h1, h2, h3, h5, Option.getD_some, c1, c2, hg]
    rw [if_pos ⟨h6, h7, h4, by omega, hl⟩]
    have hne : ¬ (some (s + 1) = some 0) := by simp
    simp only [hne, if_false]
    rw [if_pos ⟨trivial, trivial, trivial, hsp, by rw [ho, hlen]; omega, Nat.le_refl _, hc⟩]
  unfold appAt
  have hn' : ¬ sl + n ≤ sl := by omega
  simp only [h1, h2, hn', if_false, hap]
theorem cells_gap {l : List (Option Blk)} {q : Nat} {ys : List (Option Blk)} {s n c : Nat} {b : Blk} (j : Nat) (hj : ys[j]? = some (some b)) (hn : n * s = b.cells.length) (h0 : n ≠ 0) : cellsA (heapJ l q ys) s (.slice (some ⟨q + j, 0, none⟩) n c) = some b.cells := by
  rw [cellsA_row h0 (b := b) (by simp only; rw [gap_hi, hj]; rfl) rfl (by simp only; omega), List.drop_zero, hn, List.take_length]
attribute [go_sem] Int.toNat_zero Int.toNat_one Option.map_some Option.map_none
theorem Goes.forgetS {σ : Type} {X : Face P σ} {fn : Func} {A : Conf σ → Prop} {S : σ} {todo : List Item} {tmps : List Value} {l : List (Option Blk)} (ys zs : List (Option Blk)) {q : Nat} (hk : Goes X fn A (.run todo tmps (heapJ l (q + ys.length) zs) S)) (hl : l.length ≤ q) : Goes X fn A (.run todo tmps (heapJ l q (ys ++ zs)) S) := by
  refine .weak (h0 := heapJ l (q + ys.length) zs) (fun n c hc => ?_) (by simp [gap_next]; omega) hk
  by_cases hn : n < q + ys.length
  · rw [gap_lo hn] at hc
    have hn2 : n < l.length := by
      apply Nat.lt_of_not_le; intro h; rw [List.getElem?_eq_none h] at hc; simp at hc
    exact ⟨c, by rw [gap_lo (by omega)]; exact hc, rfl, rfl, fun h => h, .inl rfl⟩
  · obtain ⟨i, rfl⟩ : ∃ i, n = q + ys.length + i := ⟨n - (q + ys.length), by omega⟩
    rw [gap_hi] at hc
    refine ⟨c, ?_, rfl, rfl, fun h => h, .inl rfl⟩
    rw [Nat.add_assoc, gap_hi, List.getElem?_append_right (by omega), Nat.add_sub_cancel_left]
    exact hc
end
section
variable {P : Program} {σ : Type} {X : Face P σ} {fn : Func} {A : Conf σ → Prop} {ops : Array Oper} {k : List Item} {i : Nat} {tmps : List Value} {h h' : AHeap} {S : σ} {o : Oper} {x y : Operand} {t : TypeId} {v : Value}
theorem wr_append {e : Operand → Value} : wrA P e h (.call { callee := .builtin .append, args := #[x, y], argTypes := #[t, t] }) = appAt P h t (e x) (e y) := by
  unfold wrA appAt
  simp only [if_true]
  rfl
theorem AppTo.op (e : AppTo P h t (evA tmps x) (evA tmps y) v h') (hop : o.op = .call { callee := .builtin .append, args := #[x, y], argTypes := #[t, t] }) : Op0 X o (evA tmps) h S v h' S := by
  rcases e with e | ⟨ob, e, rfl⟩
  · exact .inr (.inr (.inl ⟨by rw [hop, wr_append]; exact e, rfl⟩))
  · exact .inr (.inl ⟨ob, by rw [hop, n_append]; exact e, rfl, rfl⟩)
theorem At.appE (ho : ops.toList[i]? = some o) (hop : o.op = .call { callee := .builtin .append, args := #[x, y], argTypes := #[t, t] }) (hg : o.guard = none) (hb : opOK o.op = true) (e : AppTo P h t (evA tmps x) (evA tmps y) v h') (hl : h'.next ≤ VB) (hk : ∀ K : List Value → AHeap → Prop, (∀ t h, At X fn A ops k (i + 1) t h S → K t h) → K (putL o.dst v tmps) h') : At X fn A ops k i tmps h S :=
  At.op (at_list ho) (wanted_n hg) (opOK_all hb) (e.op hop) (.inr hl) (hk _ fun _ _ h => h)
variable {W : List Nat} {n0 : Nat} {hf : AHeap} {Kf : List Value → AHeap → σ → Prop} {born : List (Nat × Nat)}
theorem RG.appE (ho : ops.toList[i]? = some o) (hop : o.op = .call { callee := .builtin .append, args := #[x, y], argTypes := #[t, t] }) (hg : o.guard = none) (hb : opOK o.op = true) (hq : wrB W i o = true) (e : AppTo P h t (evA tmps x) (evA tmps y) v h') (hl : h'.next ≤ VB) (hk : ∀ K : List Value → AHeap → Prop, (∀ t h1, RG X W ops n0 Kf (i + 1) t h1 S (bornN i h.next h'.next ++ born) → K t h1) → K (putL o.dst v tmps) h') (hnf : farB W i = false := by rfl) : RG X W ops n0 Kf i tmps h S born :=
  RGF.op' true hnf (at_list ho) (wanted_n hg) (opOK_all hb) (.inr hl) ⟨hq, e.op hop⟩ (fun n b hb => by cases hb) (hk (fun t h1 => RG X W ops n0 Kf (i + 1) t h1 S (bornN i h.next h'.next ++ born)) fun _ _ h => h)
end
end Go.Proofs.Ytjdbknnacaacaaa
namespace Go.Proofs.Ytjdbknnacaacaaa
open Go Go.RowKit
set_option linter.unusedSimpArgs false
set_option linter.unusedVariables false
def shC (p N T x : Nat) : Array Value := dkC p N T ++ #[.int .i64 x]
def shV (p N T x : Nat) : Value := .agg (shC p N T x)
theorem sh_list (p N T x : Nat) : (shC p N T x).toList = (dkC p N T).toList ++ [.int .i64 x] := by simp [shC]
theorem sh_len (p N T x : Nat) : (shC p N T x).toList.length = 24 := by rw [sh_list, List.length_append, dk_len]; rfl
theorem sh_size (p N T x : Nat) : (shC p N T x).size = 24 := by rw [← Array.length_toList, sh_len]
theorem sh_all (p N T x : Nat) : (shC p N T x).toList.all cellB = true := by rw [sh_list, List.all_append, dk_all]; rfl
theorem sh_arr (p N T x : Nat) : (shC p N T x).toList.toArray = shC p N T x := by simp
theorem sh_splice {l : List Value} {p N T x : Nat} (h : l.length = 24) : spliceA l 0 (shC p N T x).toList = (shC p N T x).toList := splice_all (by rw [h, sh_len])
theorem sh_0 (p N T x : Nat) : (shC p N T x).toList[0]? = some (prtV p) := by rw [sh_list, List.getElem?_append_left (by rw [dk_len]; omega), dk_0]
theorem sh_23 (p N T x : Nat) : (shC p N T x).toList[23]? = some (.int .i64 x) := by rw [sh_list, List.getElem?_append_right (by rw [dk_len]; omega), dk_len]; rfl
theorem sh_g (p N T x : Nat) : (List.take 22 (List.drop 1 (shC p N T x).toList)).toArray = geoC N T := by
  rw [sh_list, List.drop_append_of_le_length (by rw [dk_len]; omega), List.take_append_of_le_length (by rw [List.length_drop, dk_len]; omega), dk_g]
theorem sh_loadg (p N T x e n : Nat) : loadR (some { cells := (shC p N T x).toList, elem := e }) (some true) (some 22) ⟨n, 1, none⟩ = some (.agg (geoC N T)) := by
  rw [loadR_sub (by simp only [sh_len]; omega), sh_g]
theorem sh_load (p N T x e n : Nat) : loadR (some { cells := (shC p N T x).toList, elem := e }) (some true) (some 24) ⟨n, 0, none⟩ = some (.agg (shC p N T x)) := by
  rw [loadR_all (by simp only [sh_len]), sh_arr]
theorem sh_clo {n p x : Nat} {S : St} (N T : Nat) (h : p < S.length) : Clo (Kn n (OF.cnt S)) (shV p N T x) := fun F F' hs => by
  have h1 := dk_clo (n := n) (S := S) N T h F F' hs
  simp only [dkV, ren_agg, Value.agg.injEq] at h1
  simp only [shV, shC, ren_agg, Value.agg.injEq, Array.map_append, h1, List.map_toArray, List.map_cons, List.map_nil, ren_int]
theorem splice_dk {l : List Value} {p N T : Nat} : spliceA l 0 (dkC p N T).toList = (dkC p N T).toList ++ l.drop 23 := by
  simp only [spliceA, List.take_zero, dk_len, List.nil_append, Nat.zero_add]
theorem fill1_end {k : IntKind} {l : List Value} {m : Nat} {c : Value} {n : Int} {K : List Value → Option (List Value)} (h : l.length = m) : fill1 (some (m, 1)) (.int k n) (l ++ [c]) K = K (l ++ [.int k n]) := by
  have hl : m < (l ++ [c]).length := by rw [List.length_append, h]; simp
  rw [fill1_int hl]
  congr 1
  rw [List.set_append_right _ _ (by omega), h, Nat.sub_self]
  rfl
theorem fill1_dk {k : IntKind} {p N T : Nat} {c : Value} {n : Int} {K : List Value → Option (List Value)} : fill1 (some (23, 1)) (.int k n) ((dkC p N T).toList ++ [c]) K = K ((dkC p N T).toList ++ [.int k n]) := fill1_end (dk_len p N T)
theorem fill1_dk0 {off p N T : Nat} {cells : List Value} {K : List Value → Option (List Value)} (hl : off + 23 ≤ cells.length) : fill1 (some (off, 23)) (.agg (dkC p N T)) cells K = K (spliceA cells off (dkC p N T).toList) :=
  fill1_agg (dk_size p N T) hl
theorem sh_mk {p N T x : Nat} : ((dkC p N T).toList ++ [Value.int .i64 (x : Int)]).toArray = shC p N T x := by rw [← sh_list, sh_arr]
attribute [go_sem high] splice_dk fill1_dk fill1_dk0 sh_mk
attribute [go_sem] sh_len sh_size sh_all sh_arr sh_splice sh_0 sh_23 sh_loadg sh_load
theorem or_mid {m c v : Nat} (hm : m < 256) (hc : c < 8) (hv : v < 4294967296) : orZ .u64 ((m + v * 2 ^ 32 : Nat) : Int) ((c * 2 ^ 8 : Nat) : Int) = ((m + c * 2 ^ 8 + v * 2 ^ 32 : Nat) : Int) := by
  show IntKind.u64.wrap ((BitVec.ofInt 64 ((m + v * 2 ^ 32 : Nat) : Int) ||| BitVec.ofInt 64 ((c * 2 ^ 8 : Nat) : Int)).toNat : Int) = _
  rw [BitVec.toNat_or, bv_nat (by omega), bv_nat (by omega)]
  have e1 : m + v * 2 ^ 32 = 2 ^ 32 * v ||| m := by rw [← Nat.two_pow_add_eq_or_of_lt (by omega)]; omega
  have e2 : m ||| c * 2 ^ 8 = 2 ^ 8 * c + m := by rw [Nat.two_pow_add_eq_or_of_lt (by omega), Nat.or_comm, Nat.mul_comm]
  have e3 : 2 ^ 32 * v ||| (2 ^ 8 * c + m) = 2 ^ 32 * v + (2 ^ 8 * c + m) := (Nat.two_pow_add_eq_or_of_lt (by omega) _).symm
  rw [e1, Nat.or_assoc, e2, e3, show 2 ^ 32 * v + (2 ^ 8 * c + m) = m + c * 2 ^ 8 + v * 2 ^ 32 by omega]
  exact w_id (by omega)
def btV (m : Nat) (l : Bool) (k v : Nat) : Value := .agg #[.int .u8 m, .bool l, .int .i64 k, .int .u32 v]
theorem btV_plain (m : Nat) (l : Bool) (k v : Nat) : plainB (btV m l k v) = true := by simp [btV, plainB]
def btN (m : Nat) (l : Bool) (k v : Nat) : Nat := m + (if l then (k + 1) * 2 ^ 8 else 0) + v * 2 ^ 32
def btU (m : Nat) (l : Bool) (k v : Nat) : UInt64 := UInt64.ofNat (btN m l k v)
theorem btU_nat {m k v : Nat} {l : Bool} (hm : m < 256) (hk : k < 4) (hv : v < 4294967296) : (btU m l k v).toNat = btN m l k v := by
  unfold btU btN
  cases l <;> simp <;> omega
set_option maxHeartbeats 1000000 in
theorem bWord_does (S : St) (m : Nat) (l : Bool) (k v : Nat) (hm : m < 256) (hk : k < 4) (hv : v < 4294967296) :
    Does OF 52 #[btV m l k v] [] S (.int .u64 ((btU m l k v).toNat : Int)) S := by
  rw [btU_nat hm hk hv]
  refine Does.mk Try.func52 rfl rfl ?clo ?hand ?_
  case clo => exact clo1 (Clo.plain (btV_plain m l k v))
  case hand => exact Hand.plain rfl
  rw [Try.ntmps52]; simp only [List.size_toArray, List.length_cons, List.length_nil, List.replicate, List.cons_append, List.nil_append]
  unfold btV
  refine via ?_
  ((first | refine qc1 rfl rfl fun K hK => ?_ | refine qc3 rfl rfl fun K hK => ?_); simp (disch := (first | omega | (simp only [sz] <;> omega) | fail)) only [go_sem]; refine ⟨_, _, field_u8 _ m 0 8 (by omega) (by decide) (by decide) (by decide), ?_⟩; (try simp only [go_sem]); with_reducible refine hK _ _ ?_; clear hK K)
  rw [show m % 2 ^ 8 * 2 ^ 0 = m by omega]
  refine via ?_
  ((first | refine qc1 rfl rfl fun K hK => ?_ | refine qc3 rfl rfl fun K hK => ?_); simp (disch := (first | omega | (simp only [sz] <;> omega) | fail)) only [go_sem]; refine ⟨_, _, field_u32 _ v 32 32 (by omega) (by decide) (by decide) (by decide), ?_⟩; (try simp only [go_sem]); with_reducible refine hK _ _ ?_; clear hK K)
  rw [show v % 2 ^ 32 * 2 ^ 32 = v * 2 ^ 32 by omega]
  have e1 := or_add (a := v) (b := m) (i := 32) (by omega) (by omega)
  cases l with
  | false =>
    refine viaF e1 ?_
    refine Goes.fin rfl (by simp (disch := (first | omega | (simp only [heapL_next, List.length_cons, List.length_nil, List.size_toArray, geo_len] <;> omega) | fail)) only [go_sem, resA, res1A, Try.results52] <;> rfl) ?_
    simp [btN]
  | true =>
    refine viaF e1 ?_
    ((first | refine qc1 rfl rfl fun K hK => ?_ | refine qc3 rfl rfl fun K hK => ?_); simp (disch := (first | omega | (simp only [sz] <;> omega) | fail)) only [go_sem]; refine ⟨_, _, field_int _ (k + 1) 8 3 (by omega) (by decide) (by decide) (by decide), ?_⟩; (try simp only [go_sem]); with_reducible refine hK _ _ ?_; clear hK K)
    rw [show (k + 1) % 2 ^ 3 * 2 ^ 8 = (k + 1) * 2 ^ 8 by omega]
    have e2 := or_mid (m := m) (c := k + 1) (v := v) hm (by omega) hv
    refine viaF e2 ?_
    refine Goes.fin rfl (by simp (disch := (first | omega | (simp only [heapL_next, List.length_cons, List.length_nil, List.size_toArray, geo_len] <;> omega) | fail)) only [go_sem, resA, res1A, Try.results52] <;> rfl) ?_
    simp [btN]
def btC (x : UInt64) : Nat := x.toNat / 2 ^ 8 % 2 ^ 3
def btOf (x : UInt64) : Value := btV (x.toNat / 2 ^ 0 % 2 ^ 8) (decide (0 < btC x)) (btC x - 1) (x.toNat / 2 ^ 32 % 2 ^ 32)
theorem btC_U {m k v : Nat} {l : Bool} (hm : m < 256) (hk : k < 4) (hv : v < 4294967296) : btC (btU m l k v) = if l then k + 1 else 0 := by
  unfold btC
  rw [btU_nat hm hk hv]
  unfold btN
  cases l <;> simp <;> omega
theorem btOf_U {m k v : Nat} (hm : m < 256) (hk : k < 4) (hv : v < 4294967296) : btOf (btU m true k v) = btV m true k v := by
  unfold btOf
  rw [btC_U hm hk hv, btU_nat hm hk hv]
  simp only [if_true, Nat.succ_pos, decide_true, Nat.add_sub_cancel]
  unfold btN
  congr 1 <;> simp <;> omega
set_option maxHeartbeats 1000000 in
theorem bitsOf_does (S : St) (x : UInt64) :
    Does OF 34 #[.int .u64 (x.toNat : Int)] [] S (btOf x) S := by
  by_cases h : 0 < x.toNat / 2 ^ 8 % 2 ^ 3
  · have hb : btOf x = btV (x.toNat / 2 ^ 0 % 2 ^ 8) true (x.toNat / 2 ^ 8 % 2 ^ 3 - 1) (x.toNat / 2 ^ 32 % 2 ^ 32) := by unfold btOf btC; rw [decide_eq_true h]
    have e1 : ((x.toNat / 2 ^ 8 % 2 ^ 3 : Nat) : Int) - 1 = ((x.toNat / 2 ^ 8 % 2 ^ 3 - 1 : Nat) : Int) := by omega
    rw [hb]
    refine Does.mk Try.func34 rfl rfl ?clo ?hand ?_
    case clo => exact clo1 iclo
    case hand => exact Hand.plain (btV_plain _ _ _ _)
    rw [Try.ntmps34]; simp only [List.size_toArray, List.length_cons, List.length_nil, List.replicate, List.cons_append, List.nil_append]
    refine via ?_
    ((first | refine qc1 rfl rfl fun K hK => ?_ | refine qc3 rfl rfl fun K hK => ?_); simp (disch := (first | omega | (simp only [sz] <;> omega) | fail)) only [go_sem]; refine ⟨_, _, of_u8 _ x 0 8 (by decide) (by decide), ?_⟩; (try simp only [go_sem]); with_reducible refine hK _ _ ?_; clear hK K)
    refine via ?_
    ((first | refine qc1 rfl rfl fun K hK => ?_ | refine qc3 rfl rfl fun K hK => ?_); simp (disch := (first | omega | (simp only [sz] <;> omega) | fail)) only [go_sem]; refine ⟨_, _, of_u32 _ x 32 32 (by decide) (by decide), ?_⟩; (try simp only [go_sem]); with_reducible refine hK _ _ ?_; clear hK K)
    refine via ?_
    ((first | refine qc1 rfl rfl fun K hK => ?_ | refine qc3 rfl rfl fun K hK => ?_); simp (disch := (first | omega | (simp only [sz] <;> omega) | fail)) only [go_sem]; refine ⟨_, _, of_int _ x 8 3 (by decide) (by decide), ?_⟩; (try simp only [go_sem]); with_reducible refine hK _ _ ?_; clear hK K)
    refine viaF e1 ?_
    refine Goes.fin rfl (by simp (disch := (first | omega | (simp only [heapL_next, List.length_cons, List.length_nil, List.size_toArray, geo_len] <;> omega) | fail)) only [go_sem, resA, res1A, Try.results34] <;> rfl) ?_
    rfl
  · have hb : btOf x = btV (x.toNat / 2 ^ 0 % 2 ^ 8) false 0 (x.toNat / 2 ^ 32 % 2 ^ 32) := by unfold btOf btC; rw [decide_eq_false h, show x.toNat / 2 ^ 8 % 2 ^ 3 - 1 = 0 by omega]
    rw [hb]
    refine Does.mk Try.func34 rfl rfl ?clo ?hand ?_
    case clo => exact clo1 iclo
    case hand => exact Hand.plain (btV_plain _ _ _ _)
    rw [Try.ntmps34]; simp only [List.size_toArray, List.length_cons, List.length_nil, List.replicate, List.cons_append, List.nil_append]
    refine via ?_
    ((first | refine qc1 rfl rfl fun K hK => ?_ | refine qc3 rfl rfl fun K hK => ?_); simp (disch := (first | omega | (simp only [sz] <;> omega) | fail)) only [go_sem]; refine ⟨_, _, of_u8 _ x 0 8 (by decide) (by decide), ?_⟩; (try simp only [go_sem]); with_reducible refine hK _ _ ?_; clear hK K)
    refine via ?_
    ((first | refine qc1 rfl rfl fun K hK => ?_ | refine qc3 rfl rfl fun K hK => ?_); simp (disch := (first | omega | (simp only [sz] <;> omega) | fail)) only [go_sem]; refine ⟨_, _, of_u32 _ x 32 32 (by decide) (by decide), ?_⟩; (try simp only [go_sem]); with_reducible refine hK _ _ ?_; clear hK K)
    refine via ?_
    ((first | refine qc1 rfl rfl fun K hK => ?_ | refine qc3 rfl rfl fun K hK => ?_); simp (disch := (first | omega | (simp only [sz] <;> omega) | fail)) only [go_sem]; refine ⟨_, _, of_int _ x 8 3 (by decide) (by decide), ?_⟩; (try simp only [go_sem]); with_reducible refine hK _ _ ?_; clear hK K)
    refine via ?_
    refine Goes.fin rfl (by simp (disch := (first | omega | (simp only [heapL_next, List.length_cons, List.length_nil, List.size_toArray, geo_len] <;> omega) | fail)) only [go_sem, resA, res1A, Try.results34] <;> rfl) ?_
    rfl
set_option maxHeartbeats 1000000 in
theorem sbits_does (S : St) (p m me : Nat) (steps : Nat) (ws : List UInt64) (bs : List UInt8) (N T : Nat) (x : Nat) (u : UInt64) (hp : S[p]? = some (.port m me steps)) (hm : S[m]? = some (.mem ws bs)) (hst : steps ≤ 100000000000) (hN : N ≤ 256) (hT : T ≤ 64) (hu : wAt ws (gat N T 8 x) = some u) :
    Does OF 87 #[shV p N T x] [] S (btOf u) (accS S p m me (steps + 1) ws bs) := by
  refine Does.mk Try.func87 rfl rfl ?clo ?hand ?_
  case clo => exact clo1 (sh_clo N T (hlt_of hp))
  case hand => exact Hand.plain (btV_plain _ _ _ _)
  rw [Try.ntmps87]; simp only [List.size_toArray, List.length_cons, List.length_nil, List.replicate, List.cons_append, List.nil_append]
  unfold shV
  refine via ?_
  ((first | refine qp1 rfl rfl fun K hK => ?_ | refine qp3 rfl rfl fun K hK => ?_); simp (disch := (first | omega | (simp only [sz] <;> omega) | fail)) only [go_sem]; refine ⟨_, _, qpu fun w => gBits_any N T x w hN hT, ?_⟩; (try simp only [go_sem]); with_reducible refine hK _ _ ?_; clear hK K)
  refine via ?_
  ((first | refine qp1 rfl rfl fun K hK => ?_ | refine qp3 rfl rfl fun K hK => ?_); simp (disch := (first | omega | (simp only [sz] <;> omega) | fail)) only [go_sem]; refine ⟨_, _, .load _ hp hm (by omega), ?_⟩; (try simp only [go_sem]); with_reducible refine hK _ _ ?_; clear hK K)
  rw [load_same, ld_w hu]
  refine via ?_
  ((first | refine qc1 rfl rfl fun K hK => ?_ | refine qc3 rfl rfl fun K hK => ?_); simp (disch := (first | omega | (simp only [sz] <;> omega) | fail)) only [go_sem]; refine ⟨_, _, bitsOf_does _ u, ?_⟩; (try simp only [go_sem]); with_reducible refine hK _ _ ?_; clear hK K)
  simp only [btOf, btV]
  refine via ?_
  refine Goes.fin rfl (by simp (disch := (first | omega | (simp only [heapL_next, List.length_cons, List.length_nil, List.size_toArray, geo_len] <;> omega) | fail)) only [go_sem, resA, res1A, Try.results87] <;> rfl) ?_
  rfl
theorem sis_t (S : St) (p N T x k : Nat) (hp : p < S.length) (hx : x < N) (hk : k < 4) :
    Does OF 86 #[shV p N T x, .int .i64 k] [] S (.bool true) S := by
  refine Does.mk Try.func86 rfl rfl ?clo ?hand ?_
  case clo => exact clo2 (sh_clo N T hp) iclo
  case hand => exact Hand.plain rfl
  rw [Try.ntmps86]; simp only [List.size_toArray, List.length_cons, List.length_nil, List.replicate, List.cons_append, List.nil_append]
  unfold shV
  refine via ?_
  ((first | refine qp1 rfl rfl fun K hK => ?_ | refine qp3 rfl rfl fun K hK => ?_); simp (disch := (first | omega | (simp only [sz] <;> omega) | fail)) only [go_sem]; refine ⟨_, _, qpu fun w => gPages_any N T w, ?_⟩; (try simp only [go_sem]); with_reducible refine hK _ _ ?_; clear hK K)
  refine via ?_
  refine Goes.fin rfl (by simp (disch := (first | omega | (simp only [heapL_next, List.length_cons, List.length_nil, List.size_toArray, geo_len] <;> omega) | fail)) only [go_sem, resA, res1A, Try.results86] <;> rfl) ?_
  rfl
theorem tab_0 : (#[Value.int .i64 8, .int .i64 8, .int .i64 8, .int .i64 16, .int .i64 16, .int .i64 4, .int .i64 24, .int .i64 8, .int .i64 2, .int .i64 32, .int .i64 32, .int .i64 2]).extract 0 3 = #[Value.int .i64 8, Value.int .i64 8, Value.int .i64 8] := by simp [List.extract_toArray]
theorem tab_1 : (#[Value.int .i64 8, .int .i64 8, .int .i64 8, .int .i64 16, .int .i64 16, .int .i64 4, .int .i64 24, .int .i64 8, .int .i64 2, .int .i64 32, .int .i64 32, .int .i64 2]).extract 3 6 = #[Value.int .i64 16, Value.int .i64 16, Value.int .i64 4] := by simp [List.extract_toArray]
theorem tab_2 : (#[Value.int .i64 8, .int .i64 8, .int .i64 8, .int .i64 16, .int .i64 16, .int .i64 4, .int .i64 24, .int .i64 8, .int .i64 2, .int .i64 32, .int .i64 32, .int .i64 2]).extract 6 9 = #[Value.int .i64 24, Value.int .i64 8, Value.int .i64 2] := by simp [List.extract_toArray]
theorem tab_3 : (#[Value.int .i64 8, .int .i64 8, .int .i64 8, .int .i64 16, .int .i64 16, .int .i64 4, .int .i64 24, .int .i64 8, .int .i64 2, .int .i64 32, .int .i64 32, .int .i64 2]).extract 9 12 = #[Value.int .i64 32, Value.int .i64 32, Value.int .i64 2] := by simp [List.extract_toArray]
theorem table_any' (w : World) : Calls Try.prog 91 #[] w (Ret (.agg #[Value.int .i64 8, .int .i64 8, .int .i64 8, .int .i64 16, .int .i64 16, .int .i64 4, .int .i64 24, .int .i64 8, .int .i64 2, .int .i64 32, .int .i64 32, .int .i64 2]) (Ext [] w)) := table_any w
attribute [go_sem high] tab_0 tab_1 tab_2 tab_3
theorem blocks_8 (S : St) (s a : Nat) : Does OF 108 #[.agg #[.int .i64 s, .int .i64 a, .int .i64 8]] [] S (.int .u8 255) S := by
  refine Does.mk Try.func108 rfl rfl ?clo ?hand ?_
  case clo => exact clo1 (Clo.plain (by simp [plainB]))
  case hand => exact Hand.plain rfl
  rw [Try.ntmps108]; simp only [List.size_toArray, List.length_cons, List.length_nil, List.replicate, List.cons_append, List.nil_append]
  have e1 : IntKind.u8.wrap (1 * 2 ^ min 8 8) = 0 := by decide
  have e2 : IntKind.u8.wrap (0 - 1) = 255 := by decide
  refine viaF (And.intro e1 e2) ?_
  refine Goes.fin rfl (by simp (disch := (first | omega | (simp only [heapL_next, List.length_cons, List.length_nil, List.size_toArray, geo_len] <;> omega) | fail)) only [go_sem, resA, res1A, Try.results108] <;> rfl) ?_
  rfl
theorem blocks_4 (S : St) (s a : Nat) : Does OF 108 #[.agg #[.int .i64 s, .int .i64 a, .int .i64 4]] [] S (.int .u8 15) S := by
  refine Does.mk Try.func108 rfl rfl ?clo ?hand ?_
  case clo => exact clo1 (Clo.plain (by simp [plainB]))
  case hand => exact Hand.plain rfl
  rw [Try.ntmps108]; simp only [List.size_toArray, List.length_cons, List.length_nil, List.replicate, List.cons_append, List.nil_append]
  have e1 : IntKind.u8.wrap (1 * 2 ^ min 4 8) = 16 := by decide
  have e2 : IntKind.u8.wrap (16 - 1) = 15 := by decide
  refine viaF (And.intro e1 e2) ?_
  refine Goes.fin rfl (by simp (disch := (first | omega | (simp only [heapL_next, List.length_cons, List.length_nil, List.size_toArray, geo_len] <;> omega) | fail)) only [go_sem, resA, res1A, Try.results108] <;> rfl) ?_
  rfl
theorem blocks_2 (S : St) (s a : Nat) : Does OF 108 #[.agg #[.int .i64 s, .int .i64 a, .int .i64 2]] [] S (.int .u8 3) S := by
  refine Does.mk Try.func108 rfl rfl ?clo ?hand ?_
  case clo => exact clo1 (Clo.plain (by simp [plainB]))
  case hand => exact Hand.plain rfl
  rw [Try.ntmps108]; simp only [List.size_toArray, List.length_cons, List.length_nil, List.replicate, List.cons_append, List.nil_append]
  have e1 : IntKind.u8.wrap (1 * 2 ^ min 2 8) = 4 := by decide
  have e2 : IntKind.u8.wrap (4 - 1) = 3 := by decide
  refine viaF (And.intro e1 e2) ?_
  refine Goes.fin rfl (by simp (disch := (first | omega | (simp only [heapL_next, List.length_cons, List.length_nil, List.size_toArray, geo_len] <;> omega) | fail)) only [go_sem, resA, res1A, Try.results108] <;> rfl) ?_
  rfl
theorem grain_does (S : St) (p N T x y s a b : Nat) (hp : p < S.length) (hx : x ≤ 1000000) (hy : y ≤ 64) (hs : s ≤ 64) :
    Does OF 90 #[shV p N T x, .int .i64 y, .agg #[.int .i64 s, .int .i64 a, .int .i64 b]] [] S (.int .i64 ((x * 8 + y * s / 8 : Nat) : Int)) S := by
  refine Does.mk Try.func90 rfl rfl ?clo ?hand ?_
  case clo => exact clo3 (sh_clo N T hp) iclo (Clo.plain (by simp [plainB]))
  case hand => exact Hand.plain rfl
  rw [Try.ntmps90]; simp only [List.size_toArray, List.length_cons, List.length_nil, List.replicate, List.cons_append, List.nil_append]
  unfold shV
  have h1 : y * s ≤ 64 * 64 := Nat.mul_le_mul hy hs
  have e0 : (y : Int) * (s : Int) = ((y * s : Nat) : Int) := by push_cast; rfl
  have e1 : IntKind.i64.wrap ((y * s : Nat) : Int) = ((y * s : Nat) : Int) := by rw [wrap_i64 (by omega) (by omega)]
  have e2 : ((y * s : Nat) : Int).tdiv 8 = ((y * s / 8 : Nat) : Int) := tdiv_n _ 8
  have e3 : (x : Int) * 8 + ((y * s / 8 : Nat) : Int) = ((x * 8 + y * s / 8 : Nat) : Int) := by push_cast; rfl
  have e4 : IntKind.i64.wrap ((y * s / 8 : Nat) : Int) = ((y * s / 8 : Nat) : Int) := by rw [wrap_i64 (by omega) (by omega)]
  refine viaF (And.intro e0 (And.intro e1 (And.intro e2 (And.intro e3 e4)))) ?_
  refine Goes.fin rfl (by simp (disch := (first | omega | (simp only [heapL_next, List.length_cons, List.length_nil, List.size_toArray, geo_len] <;> omega) | fail)) only [go_sem, resA, res1A, Try.results90] <;> rfl) ?_
  rfl
def pgO (k n c o : Nat) : UInt64 := UInt64.ofNat (pgN k n c o)
theorem pgO_nat {k n c o : Nat} (hk : k < 8) (hn : n < 1024) (hc : c < 4) (ho : o < 128) : (pgO k n c o).toNat = pgN k n c o := by
  unfold pgO pgN; simp; omega
theorem pgO_int {k n c o : Nat} (hk : k < 8) (hn : n < 1024) (hc : c < 4) (ho : o < 128) : (pgN k n c o : Int) = ((pgO k n c o).toNat : Int) := by rw [pgO_nat hk hn hc ho]
def mapK (k : Nat) : Nat := match k with | 0 => 254 | 1 => 14 | _ => 2
set_option maxHeartbeats 2000000 in
theorem make_does (S : St) (p m me : Nat) (steps : Nat) (ws : List UInt64) (bs : List UInt8) (N T x k : Nat) (u : UInt64) (hp : S[p]? = some (.port m me steps)) (hm : S[m]? = some (.mem ws bs)) (hst : steps ≤ 100000000 ) (hN1 : 1 ≤ N) (hN : N ≤ 256) (hT : T ≤ 64) (hme : me < 128) (hx : x < N) (hk : k < 4)
    (hu : wAt (wS 2 (gat N T 7 x) (pgO 3 1 k me) 0 ws) (gat N T 8 x) = some u) (hv : u.toNat / 2 ^ 32 % 2 ^ 32 + 1 < 4294967296) :
    Does OF 58 #[prtV p, .agg (geoC N T), .int .i64 x, .int .i64 k] [] S (.int .i64 ((x * 8 : Nat) : Int))
      (accS S p m me (steps + 3) (wS 2 (gat N T 8 x) (btU (mapK k) true k (u.toNat / 2 ^ 32 % 2 ^ 32 + 1)) 0 (wS 2 (gat N T 7 x) (pgO 3 1 k me) 0 ws)) bs) := by
  have hne := hne_of hp hm
  obtain rfl | rfl | rfl | rfl : k = 0 ∨ k = 1 ∨ k = 2 ∨ k = 3 := by omega
  · refine Does.mk Try.func58 rfl rfl ?clo ?hand ?_
    case clo => exact clo4 (pclo (hlt_of hp)) gclo iclo iclo
    case hand => exact Hand.plain rfl
    rw [Try.ntmps58]; simp only [List.size_toArray, List.length_cons, List.length_nil, List.replicate, List.cons_append, List.nil_append]
    refine via ?_
    ((first | refine qc1 rfl rfl fun K hK => ?_ | refine qc3 rfl rfl fun K hK => ?_); simp (disch := (first | omega | (simp only [sz] <;> omega) | fail)) only [go_sem]; refine ⟨_, _, sis_t S p N T x 0 (hlt_of hp) hx (by decide), ?_⟩; (try simp only [go_sem]); with_reducible refine hK _ _ ?_; clear hK K)
    refine via ?_
    ((first | refine qp1 rfl rfl fun K hK => ?_ | refine qp3 rfl rfl fun K hK => ?_); simp (disch := (first | omega | (simp only [sz] <;> omega) | fail)) only [go_sem]; refine ⟨_, _, qpu fun w => table_any' w, ?_⟩; (try simp only [go_sem]); with_reducible refine hK _ _ ?_; clear hK K)
    refine via ?_
    ((first | refine qp1 rfl rfl fun K hK => ?_ | refine qp3 rfl rfl fun K hK => ?_); simp (disch := (first | omega | (simp only [sz] <;> omega) | fail)) only [go_sem]; refine ⟨_, _, qpu fun w => gPage_any N T x w hN hT, ?_⟩; (try simp only [go_sem]); with_reducible refine hK _ _ ?_; clear hK K)
    refine via ?_
    ((first | refine qp1 rfl rfl fun K hK => ?_ | refine qp3 rfl rfl fun K hK => ?_); simp (disch := (first | omega | (simp only [sz] <;> omega) | fail)) only [go_sem]; refine ⟨_, _, .self hp, ?_⟩; (try simp only [go_sem]); with_reducible refine hK _ _ ?_; clear hK K)
    refine via ?_
    ((first | refine qc1 rfl rfl fun K hK => ?_ | refine qc3 rfl rfl fun K hK => ?_); simp (disch := (first | omega | (simp only [sz] <;> omega) | fail)) only [go_sem]; refine ⟨_, _, pgWord_does _ 3 1 0 me (by decide) (by decide) (by decide) hme, ?_⟩; (try simp only [go_sem]); with_reducible refine hK _ _ ?_; clear hK K)
    rw [pgO_int (k := 3) (n := 1) (c := 0) (o := me) (by decide) (by decide) (by decide) hme]
    refine via ?_
    ((first | refine qp1 rfl rfl fun K hK => ?_ | refine qp3 rfl rfl fun K hK => ?_); simp (disch := (first | omega | (simp only [sz] <;> omega) | fail)) only [go_sem]; refine ⟨_, _, .store _ (pgO 3 1 0 me) hp hm (by omega), ?_⟩; (try simp only [go_sem]); with_reducible refine hK _ _ ?_; clear hK K)
    refine via ?_
    ((first | refine qc1 rfl rfl fun K hK => ?_ | refine qc3 rfl rfl fun K hK => ?_); simp (disch := (first | omega | (simp only [sz] <;> omega) | fail)) only [go_sem]; refine ⟨_, _, sbits_does _ p m me _ _ bs N T x u (acc_p hp hm) (acc_m hp hm) (by omega) hN hT hu, ?_⟩; (try simp only [go_sem]); with_reducible refine hK _ _ ?_; clear hK K)
    rw [acc_acc hne]
    simp only [btOf, btV]
    refine via ?_
    ((first | refine qp1 rfl rfl fun K hK => ?_ | refine qp3 rfl rfl fun K hK => ?_); simp (disch := (first | omega | (simp only [sz] <;> omega) | fail)) only [go_sem]; refine ⟨_, _, qpu fun w => gBits_any N T x w hN hT, ?_⟩; (try simp only [go_sem]); with_reducible refine hK _ _ ?_; clear hK K)
    refine via ?_
    ((first | refine qc1 rfl rfl fun K hK => ?_ | refine qc3 rfl rfl fun K hK => ?_); simp (disch := (first | omega | (simp only [sz] <;> omega) | fail)) only [go_sem]; refine ⟨_, _, blocks_8 _ 8 8, ?_⟩; (try simp only [go_sem]); with_reducible refine hK _ _ ?_; clear hK K)
    have e1 : IntKind.u32.wrap ((u.toNat / 2 ^ 32 % 2 ^ 32 : Nat) + 1 : Int) = ((u.toNat / 2 ^ 32 % 2 ^ 32 + 1 : Nat) : Int) := by rw [IntKind.wrap_u32]; omega
    have e2 : andNotZ .u8 255 1 = 254 := by decide
    refine viaF (And.intro e1 e2) ?_
    ((first | refine qc1 rfl rfl fun K hK => ?_ | refine qc3 rfl rfl fun K hK => ?_); simp (disch := (first | omega | (simp only [sz] <;> omega) | fail)) only [go_sem]; refine ⟨_, _, bWord_does _ 254 true 0 (u.toNat / 2 ^ 32 % 2 ^ 32 + 1) (by decide) (by decide) hv, ?_⟩; (try simp only [go_sem]); with_reducible refine hK _ _ ?_; clear hK K)
    refine via ?_
    ((first | refine qp1 rfl rfl fun K hK => ?_ | refine qp3 rfl rfl fun K hK => ?_); simp (disch := (first | omega | (simp only [sz] <;> omega) | fail)) only [go_sem]; refine ⟨_, _, .store _ (btU (mapK 0) true 0 (u.toNat / 2 ^ 32 % 2 ^ 32 + 1)) (acc_p hp hm) (acc_m hp hm) (by omega), ?_⟩; (try simp only [go_sem]); with_reducible refine hK _ _ ?_; clear hK K)
    rw [acc_acc hne]
    refine via ?_
    ((first | refine qc1 rfl rfl fun K hK => ?_ | refine qc3 rfl rfl fun K hK => ?_); simp (disch := (first | omega | (simp only [sz] <;> omega) | fail)) only [go_sem]; refine ⟨_, _, grain_does _ p N T x 0 8 8 8 (by simp [accS]; exact hlt_of hp) (by omega) (by decide) (by decide), ?_⟩; (try simp only [go_sem]); with_reducible refine hK _ _ ?_; clear hK K)
    refine via ?_
    refine Goes.fin rfl (by simp (disch := (first | omega | (simp only [heapL_next, List.length_cons, List.length_nil, List.size_toArray, geo_len] <;> omega) | fail)) only [go_sem, resA, res1A, Try.results58] <;> rfl) ?_
    simp
  · refine Does.mk Try.func58 rfl rfl ?clo ?hand ?_
    case clo => exact clo4 (pclo (hlt_of hp)) gclo iclo iclo
    case hand => exact Hand.plain rfl
    rw [Try.ntmps58]; simp only [List.size_toArray, List.length_cons, List.length_nil, List.replicate, List.cons_append, List.nil_append]
    refine via ?_
    ((first | refine qc1 rfl rfl fun K hK => ?_ | refine qc3 rfl rfl fun K hK => ?_); simp (disch := (first | omega | (simp only [sz] <;> omega) | fail)) only [go_sem]; refine ⟨_, _, sis_t S p N T x 1 (hlt_of hp) hx (by decide), ?_⟩; (try simp only [go_sem]); with_reducible refine hK _ _ ?_; clear hK K)
    refine via ?_
    ((first | refine qp1 rfl rfl fun K hK => ?_ | refine qp3 rfl rfl fun K hK => ?_); simp (disch := (first | omega | (simp only [sz] <;> omega) | fail)) only [go_sem]; refine ⟨_, _, qpu fun w => table_any' w, ?_⟩; (try simp only [go_sem]); with_reducible refine hK _ _ ?_; clear hK K)
    refine via ?_
    ((first | refine qp1 rfl rfl fun K hK => ?_ | refine qp3 rfl rfl fun K hK => ?_); simp (disch := (first | omega | (simp only [sz] <;> omega) | fail)) only [go_sem]; refine ⟨_, _, qpu fun w => gPage_any N T x w hN hT, ?_⟩; (try simp only [go_sem]); with_reducible refine hK _ _ ?_; clear hK K)
    refine via ?_
    ((first | refine qp1 rfl rfl fun K hK => ?_ | refine qp3 rfl rfl fun K hK => ?_); simp (disch := (first | omega | (simp only [sz] <;> omega) | fail)) only [go_sem]; refine ⟨_, _, .self hp, ?_⟩; (try simp only [go_sem]); with_reducible refine hK _ _ ?_; clear hK K)
    refine via ?_
    ((first | refine qc1 rfl rfl fun K hK => ?_ | refine qc3 rfl rfl fun K hK => ?_); simp (disch := (first | omega | (simp only [sz] <;> omega) | fail)) only [go_sem]; refine ⟨_, _, pgWord_does _ 3 1 1 me (by decide) (by decide) (by decide) hme, ?_⟩; (try simp only [go_sem]); with_reducible refine hK _ _ ?_; clear hK K)
    rw [pgO_int (k := 3) (n := 1) (c := 1) (o := me) (by decide) (by decide) (by decide) hme]
    refine via ?_
    ((first | refine qp1 rfl rfl fun K hK => ?_ | refine qp3 rfl rfl fun K hK => ?_); simp (disch := (first | omega | (simp only [sz] <;> omega) | fail)) only [go_sem]; refine ⟨_, _, .store _ (pgO 3 1 1 me) hp hm (by omega), ?_⟩; (try simp only [go_sem]); with_reducible refine hK _ _ ?_; clear hK K)
    refine via ?_
    ((first | refine qc1 rfl rfl fun K hK => ?_ | refine qc3 rfl rfl fun K hK => ?_); simp (disch := (first | omega | (simp only [sz] <;> omega) | fail)) only [go_sem]; refine ⟨_, _, sbits_does _ p m me _ _ bs N T x u (acc_p hp hm) (acc_m hp hm) (by omega) hN hT hu, ?_⟩; (try simp only [go_sem]); with_reducible refine hK _ _ ?_; clear hK K)
    rw [acc_acc hne]
    simp only [btOf, btV]
    refine via ?_
    ((first | refine qp1 rfl rfl fun K hK => ?_ | refine qp3 rfl rfl fun K hK => ?_); simp (disch := (first | omega | (simp only [sz] <;> omega) | fail)) only [go_sem]; refine ⟨_, _, qpu fun w => gBits_any N T x w hN hT, ?_⟩; (try simp only [go_sem]); with_reducible refine hK _ _ ?_; clear hK K)
    refine via ?_
    ((first | refine qc1 rfl rfl fun K hK => ?_ | refine qc3 rfl rfl fun K hK => ?_); simp (disch := (first | omega | (simp only [sz] <;> omega) | fail)) only [go_sem]; refine ⟨_, _, blocks_4 _ 16 16, ?_⟩; (try simp only [go_sem]); with_reducible refine hK _ _ ?_; clear hK K)
    have e1 : IntKind.u32.wrap ((u.toNat / 2 ^ 32 % 2 ^ 32 : Nat) + 1 : Int) = ((u.toNat / 2 ^ 32 % 2 ^ 32 + 1 : Nat) : Int) := by rw [IntKind.wrap_u32]; omega
    have e2 : andNotZ .u8 15 1 = 14 := by decide
    refine viaF (And.intro e1 e2) ?_
    ((first | refine qc1 rfl rfl fun K hK => ?_ | refine qc3 rfl rfl fun K hK => ?_); simp (disch := (first | omega | (simp only [sz] <;> omega) | fail)) only [go_sem]; refine ⟨_, _, bWord_does _ 14 true 1 (u.toNat / 2 ^ 32 % 2 ^ 32 + 1) (by decide) (by decide) hv, ?_⟩; (try simp only [go_sem]); with_reducible refine hK _ _ ?_; clear hK K)
    refine via ?_
    ((first | refine qp1 rfl rfl fun K hK => ?_ | refine qp3 rfl rfl fun K hK => ?_); simp (disch := (first | omega | (simp only [sz] <;> omega) | fail)) only [go_sem]; refine ⟨_, _, .store _ (btU (mapK 1) true 1 (u.toNat / 2 ^ 32 % 2 ^ 32 + 1)) (acc_p hp hm) (acc_m hp hm) (by omega), ?_⟩; (try simp only [go_sem]); with_reducible refine hK _ _ ?_; clear hK K)
    rw [acc_acc hne]
    refine via ?_
    ((first | refine qc1 rfl rfl fun K hK => ?_ | refine qc3 rfl rfl fun K hK => ?_); simp (disch := (first | omega | (simp only [sz] <;> omega) | fail)) only [go_sem]; refine ⟨_, _, grain_does _ p N T x 0 16 16 4 (by simp [accS]; exact hlt_of hp) (by omega) (by decide) (by decide), ?_⟩; (try simp only [go_sem]); with_reducible refine hK _ _ ?_; clear hK K)
    refine via ?_
    refine Goes.fin rfl (by simp (disch := (first | omega | (simp only [heapL_next, List.length_cons, List.length_nil, List.size_toArray, geo_len] <;> omega) | fail)) only [go_sem, resA, res1A, Try.results58] <;> rfl) ?_
    simp
  · refine Does.mk Try.func58 rfl rfl ?clo ?hand ?_
    case clo => exact clo4 (pclo (hlt_of hp)) gclo iclo iclo
    case hand => exact Hand.plain rfl
    rw [Try.ntmps58]; simp only [List.size_toArray, List.length_cons, List.length_nil, List.replicate, List.cons_append, List.nil_append]
    refine via ?_
    ((first | refine qc1 rfl rfl fun K hK => ?_ | refine qc3 rfl rfl fun K hK => ?_); simp (disch := (first | omega | (simp only [sz] <;> omega) | fail)) only [go_sem]; refine ⟨_, _, sis_t S p N T x 2 (hlt_of hp) hx (by decide), ?_⟩; (try simp only [go_sem]); with_reducible refine hK _ _ ?_; clear hK K)
    refine via ?_
    ((first | refine qp1 rfl rfl fun K hK => ?_ | refine qp3 rfl rfl fun K hK => ?_); simp (disch := (first | omega | (simp only [sz] <;> omega) | fail)) only [go_sem]; refine ⟨_, _, qpu fun w => table_any' w, ?_⟩; (try simp only [go_sem]); with_reducible refine hK _ _ ?_; clear hK K)
    refine via ?_
    ((first | refine qp1 rfl rfl fun K hK => ?_ | refine qp3 rfl rfl fun K hK => ?_); simp (disch := (first | omega | (simp only [sz] <;> omega) | fail)) only [go_sem]; refine ⟨_, _, qpu fun w => gPage_any N T x w hN hT, ?_⟩; (try simp only [go_sem]); with_reducible refine hK _ _ ?_; clear hK K)
    refine via ?_
    ((first | refine qp1 rfl rfl fun K hK => ?_ | refine qp3 rfl rfl fun K hK => ?_); simp (disch := (first | omega | (simp only [sz] <;> omega) | fail)) only [go_sem]; refine ⟨_, _, .self hp, ?_⟩; (try simp only [go_sem]); with_reducible refine hK _ _ ?_; clear hK K)
    refine via ?_
    ((first | refine qc1 rfl rfl fun K hK => ?_ | refine qc3 rfl rfl fun K hK => ?_); simp (disch := (first | omega | (simp only [sz] <;> omega) | fail)) only [go_sem]; refine ⟨_, _, pgWord_does _ 3 1 2 me (by decide) (by decide) (by decide) hme, ?_⟩; (try simp only [go_sem]); with_reducible refine hK _ _ ?_; clear hK K)
    rw [pgO_int (k := 3) (n := 1) (c := 2) (o := me) (by decide) (by decide) (by decide) hme]
    refine via ?_
    ((first | refine qp1 rfl rfl fun K hK => ?_ | refine qp3 rfl rfl fun K hK => ?_); simp (disch := (first | omega | (simp only [sz] <;> omega) | fail)) only [go_sem]; refine ⟨_, _, .store _ (pgO 3 1 2 me) hp hm (by omega), ?_⟩; (try simp only [go_sem]); with_reducible refine hK _ _ ?_; clear hK K)
    refine via ?_
    ((first | refine qc1 rfl rfl fun K hK => ?_ | refine qc3 rfl rfl fun K hK => ?_); simp (disch := (first | omega | (simp only [sz] <;> omega) | fail)) only [go_sem]; refine ⟨_, _, sbits_does _ p m me _ _ bs N T x u (acc_p hp hm) (acc_m hp hm) (by omega) hN hT hu, ?_⟩; (try simp only [go_sem]); with_reducible refine hK _ _ ?_; clear hK K)
    rw [acc_acc hne]
    simp only [btOf, btV]
    refine via ?_
    ((first | refine qp1 rfl rfl fun K hK => ?_ | refine qp3 rfl rfl fun K hK => ?_); simp (disch := (first | omega | (simp only [sz] <;> omega) | fail)) only [go_sem]; refine ⟨_, _, qpu fun w => gBits_any N T x w hN hT, ?_⟩; (try simp only [go_sem]); with_reducible refine hK _ _ ?_; clear hK K)
    refine via ?_
    ((first | refine qc1 rfl rfl fun K hK => ?_ | refine qc3 rfl rfl fun K hK => ?_); simp (disch := (first | omega | (simp only [sz] <;> omega) | fail)) only [go_sem]; refine ⟨_, _, blocks_2 _ 24 8, ?_⟩; (try simp only [go_sem]); with_reducible refine hK _ _ ?_; clear hK K)
    have e1 : IntKind.u32.wrap ((u.toNat / 2 ^ 32 % 2 ^ 32 : Nat) + 1 : Int) = ((u.toNat / 2 ^ 32 % 2 ^ 32 + 1 : Nat) : Int) := by rw [IntKind.wrap_u32]; omega
    have e2 : andNotZ .u8 3 1 = 2 := by decide
    refine viaF (And.intro e1 e2) ?_
    ((first | refine qc1 rfl rfl fun K hK => ?_ | refine qc3 rfl rfl fun K hK => ?_); simp (disch := (first | omega | (simp only [sz] <;> omega) | fail)) only [go_sem]; refine ⟨_, _, bWord_does _ 2 true 2 (u.toNat / 2 ^ 32 % 2 ^ 32 + 1) (by decide) (by decide) hv, ?_⟩; (try simp only [go_sem]); with_reducible refine hK _ _ ?_; clear hK K)
    refine via ?_
    ((first | refine qp1 rfl rfl fun K hK => ?_ | refine qp3 rfl rfl fun K hK => ?_); simp (disch := (first | omega | (simp only [sz] <;> omega) | fail)) only [go_sem]; refine ⟨_, _, .store _ (btU (mapK 2) true 2 (u.toNat / 2 ^ 32 % 2 ^ 32 + 1)) (acc_p hp hm) (acc_m hp hm) (by omega), ?_⟩; (try simp only [go_sem]); with_reducible refine hK _ _ ?_; clear hK K)
    rw [acc_acc hne]
    refine via ?_
    ((first | refine qc1 rfl rfl fun K hK => ?_ | refine qc3 rfl rfl fun K hK => ?_); simp (disch := (first | omega | (simp only [sz] <;> omega) | fail)) only [go_sem]; refine ⟨_, _, grain_does _ p N T x 0 24 8 2 (by simp [accS]; exact hlt_of hp) (by omega) (by decide) (by decide), ?_⟩; (try simp only [go_sem]); with_reducible refine hK _ _ ?_; clear hK K)
    refine via ?_
    refine Goes.fin rfl (by simp (disch := (first | omega | (simp only [heapL_next, List.length_cons, List.length_nil, List.size_toArray, geo_len] <;> omega) | fail)) only [go_sem, resA, res1A, Try.results58] <;> rfl) ?_
    simp
  · refine Does.mk Try.func58 rfl rfl ?clo ?hand ?_
    case clo => exact clo4 (pclo (hlt_of hp)) gclo iclo iclo
    case hand => exact Hand.plain rfl
    rw [Try.ntmps58]; simp only [List.size_toArray, List.length_cons, List.length_nil, List.replicate, List.cons_append, List.nil_append]
    refine via ?_
    ((first | refine qc1 rfl rfl fun K hK => ?_ | refine qc3 rfl rfl fun K hK => ?_); simp (disch := (first | omega | (simp only [sz] <;> omega) | fail)) only [go_sem]; refine ⟨_, _, sis_t S p N T x 3 (hlt_of hp) hx (by decide), ?_⟩; (try simp only [go_sem]); with_reducible refine hK _ _ ?_; clear hK K)
    refine via ?_
    ((first | refine qp1 rfl rfl fun K hK => ?_ | refine qp3 rfl rfl fun K hK => ?_); simp (disch := (first | omega | (simp only [sz] <;> omega) | fail)) only [go_sem]; refine ⟨_, _, qpu fun w => table_any' w, ?_⟩; (try simp only [go_sem]); with_reducible refine hK _ _ ?_; clear hK K)
    refine via ?_
    ((first | refine qp1 rfl rfl fun K hK => ?_ | refine qp3 rfl rfl fun K hK => ?_); simp (disch := (first | omega | (simp only [sz] <;> omega) | fail)) only [go_sem]; refine ⟨_, _, qpu fun w => gPage_any N T x w hN hT, ?_⟩; (try simp only [go_sem]); with_reducible refine hK _ _ ?_; clear hK K)
    refine via ?_
    ((first | refine qp1 rfl rfl fun K hK => ?_ | refine qp3 rfl rfl fun K hK => ?_); simp (disch := (first | omega | (simp only [sz] <;> omega) | fail)) only [go_sem]; refine ⟨_, _, .self hp, ?_⟩; (try simp only [go_sem]); with_reducible refine hK _ _ ?_; clear hK K)
    refine via ?_
    ((first | refine qc1 rfl rfl fun K hK => ?_ | refine qc3 rfl rfl fun K hK => ?_); simp (disch := (first | omega | (simp only [sz] <;> omega) | fail)) only [go_sem]; refine ⟨_, _, pgWord_does _ 3 1 3 me (by decide) (by decide) (by decide) hme, ?_⟩; (try simp only [go_sem]); with_reducible refine hK _ _ ?_; clear hK K)
    rw [pgO_int (k := 3) (n := 1) (c := 3) (o := me) (by decide) (by decide) (by decide) hme]
    refine via ?_
    ((first | refine qp1 rfl rfl fun K hK => ?_ | refine qp3 rfl rfl fun K hK => ?_); simp (disch := (first | omega | (simp only [sz] <;> omega) | fail)) only [go_sem]; refine ⟨_, _, .store _ (pgO 3 1 3 me) hp hm (by omega), ?_⟩; (try simp only [go_sem]); with_reducible refine hK _ _ ?_; clear hK K)
    refine via ?_
    ((first | refine qc1 rfl rfl fun K hK => ?_ | refine qc3 rfl rfl fun K hK => ?_); simp (disch := (first | omega | (simp only [sz] <;> omega) | fail)) only [go_sem]; refine ⟨_, _, sbits_does _ p m me _ _ bs N T x u (acc_p hp hm) (acc_m hp hm) (by omega) hN hT hu, ?_⟩; (try simp only [go_sem]); with_reducible refine hK _ _ ?_; clear hK K)
    rw [acc_acc hne]
    simp only [btOf, btV]
    refine via ?_
    ((first | refine qp1 rfl rfl fun K hK => ?_ | refine qp3 rfl rfl fun K hK => ?_); simp (disch := (first | omega | (simp only [sz] <;> omega) | fail)) only [go_sem]; refine ⟨_, _, qpu fun w => gBits_any N T x w hN hT, ?_⟩; (try simp only [go_sem]); with_reducible refine hK _ _ ?_; clear hK K)
    refine via ?_
    ((first | refine qc1 rfl rfl fun K hK => ?_ | refine qc3 rfl rfl fun K hK => ?_); simp (disch := (first | omega | (simp only [sz] <;> omega) | fail)) only [go_sem]; refine ⟨_, _, blocks_2 _ 32 32, ?_⟩; (try simp only [go_sem]); with_reducible refine hK _ _ ?_; clear hK K)
    have e1 : IntKind.u32.wrap ((u.toNat / 2 ^ 32 % 2 ^ 32 : Nat) + 1 : Int) = ((u.toNat / 2 ^ 32 % 2 ^ 32 + 1 : Nat) : Int) := by rw [IntKind.wrap_u32]; omega
    have e2 : andNotZ .u8 3 1 = 2 := by decide
    refine viaF (And.intro e1 e2) ?_
    ((first | refine qc1 rfl rfl fun K hK => ?_ | refine qc3 rfl rfl fun K hK => ?_); simp (disch := (first | omega | (simp only [sz] <;> omega) | fail)) only [go_sem]; refine ⟨_, _, bWord_does _ 2 true 3 (u.toNat / 2 ^ 32 % 2 ^ 32 + 1) (by decide) (by decide) hv, ?_⟩; (try simp only [go_sem]); with_reducible refine hK _ _ ?_; clear hK K)
    refine via ?_
    ((first | refine qp1 rfl rfl fun K hK => ?_ | refine qp3 rfl rfl fun K hK => ?_); simp (disch := (first | omega | (simp only [sz] <;> omega) | fail)) only [go_sem]; refine ⟨_, _, .store _ (btU (mapK 3) true 3 (u.toNat / 2 ^ 32 % 2 ^ 32 + 1)) (acc_p hp hm) (acc_m hp hm) (by omega), ?_⟩; (try simp only [go_sem]); with_reducible refine hK _ _ ?_; clear hK K)
    rw [acc_acc hne]
    refine via ?_
    ((first | refine qc1 rfl rfl fun K hK => ?_ | refine qc3 rfl rfl fun K hK => ?_); simp (disch := (first | omega | (simp only [sz] <;> omega) | fail)) only [go_sem]; refine ⟨_, _, grain_does _ p N T x 0 32 32 2 (by simp [accS]; exact hlt_of hp) (by omega) (by decide) (by decide), ?_⟩; (try simp only [go_sem]); with_reducible refine hK _ _ ?_; clear hK K)
    refine via ?_
    refine Goes.fin rfl (by simp (disch := (first | omega | (simp only [heapL_next, List.length_cons, List.length_nil, List.size_toArray, geo_len] <;> omega) | fail)) only [go_sem, resA, res1A, Try.results58] <;> rfl) ?_
    simp
end Go.Proofs.Ytjdbknnacaacaaa
namespace Go.Proofs.Ytjdbknnacaacaaa
open Go Go.RowKit
set_option linter.unusedSimpArgs false
set_option linter.unusedVariables false
theorem gb_next {N T r : Nat} (hN : 1 ≤ N) : gb N T (r + 1) = gb N T r + gsz N T r := by rw [gb_succ, if_neg (by omega)]
theorem gat_of {N T r n : Nat} (hN : 1 ≤ N) (h : n < gsz N T r) : gat N T r n = ((gb N T r + n : Nat) : Int) := by
  rw [gat_in N T r (by omega) (by rw [gb_next hN]; omega)]; push_cast; rfl
theorem gb_le_of {N T : Nat} : ∀ {r r' : Nat}, r ≤ r' → gb N T r ≤ gb N T r'
  | r, 0, h => by obtain rfl : r = 0 := by omega
                  exact Nat.le_refl _
  | r, r' + 1, h => by
    by_cases e : r = r' + 1
    · rw [e]; exact Nat.le_refl _
    · exact Nat.le_trans (gb_le_of (by omega)) (gb_mono N T r')
theorem gat_inj {N T r n r' n' : Nat} (hN : 1 ≤ N) (h : n < gsz N T r) (h' : n' < gsz N T r') (e : gat N T r n = gat N T r' n') : r = r' ∧ n = n' := by
  rw [gat_of hN h, gat_of hN h'] at e
  have e1 := gb_next (r := r) (T := T) hN
  have e2 := gb_next (r := r') (T := T) hN
  rcases Nat.lt_trichotomy r r' with k | k | k
  · have := gb_le_of (N := N) (T := T) (show r + 1 ≤ r' from k); omega
  · subst k; exact ⟨rfl, by omega⟩
  · have := gb_le_of (N := N) (T := T) (show r' + 1 ≤ r from k); omega
def Wd (N T : Nat) (ws : List UInt64) (W : Nat → Nat → UInt64) : Prop := ∀ r n : Nat, r < 19 → n < gsz N T r → wAt ws (gat N T r n) = some (W r n)
def up2 (W : Nat → Nat → UInt64) (r n : Nat) (v : UInt64) : Nat → Nat → UInt64 := fun r' n' => if r' = r ∧ n' = n then v else W r' n'
theorem up2_eq {W : Nat → Nat → UInt64} {r n : Nat} {v : UInt64} : up2 W r n v r n = v := if_pos ⟨rfl, rfl⟩
theorem Wd.put {N T : Nat} {ws : List UInt64} {W : Nat → Nat → UInt64} (h : Wd N T ws W) (hN : 1 ≤ N) {r n : Nat} (hr : r < 19) (hn : n < gsz N T r) (c : Nat) (A B : UInt64) : Wd N T (wS c (gat N T r n) A B ws) (up2 W r n (kNow c (W r n) A B)) := by
  intro r' n' hr' hn'
  rw [wAt_wS (h r n hr hn)]
  by_cases e : gat N T r' n' = gat N T r n
  · obtain ⟨rfl, rfl⟩ := gat_inj hN hn' hn e
    rw [if_pos rfl, up2_eq]
  · rw [if_neg e, h r' n' hr' hn']
    refine congrArg some (if_neg ?_).symm
    rintro ⟨rfl, rfl⟩
    exact e rfl
theorem Wd.store {N T : Nat} {ws : List UInt64} {W : Nat → Nat → UInt64} (h : Wd N T ws W) (hN : 1 ≤ N) {r n : Nat} (hr : r < 19) (hn : n < gsz N T r) (A : UInt64) : Wd N T (wS 2 (gat N T r n) A 0 ws) (up2 W r n A) := h.put hN hr hn 2 A 0
theorem Wd.cas {N T : Nat} {ws : List UInt64} {W : Nat → Nat → UInt64} (h : Wd N T ws W) (hN : 1 ≤ N) {r n : Nat} (hr : r < 19) (hn : n < gsz N T r) {A : UInt64} (hA : W r n = A) (B : UInt64) : Wd N T (wS 3 (gat N T r n) A B ws) (up2 W r n B) := by
  have := h.put hN hr hn 3 A B
  rw [hA] at this
  simpa only [kNow, if_true] using this
theorem Wd.add {N T : Nat} {ws : List UInt64} {W : Nat → Nat → UInt64} (h : Wd N T ws W) (hN : 1 ≤ N) {r n : Nat} (hr : r < 19) (hn : n < gsz N T r) (A : UInt64) : Wd N T (wS 4 (gat N T r n) A 0 ws) (up2 W r n (W r n + A)) := h.put hN hr hn 4 A 0
theorem Wd.zero {N T n : Nat} (hN : 1 ≤ N) (h : gb N T 19 ≤ n) : Wd N T (List.replicate n 0) (fun _ _ => 0) := by
  intro r k hr hk
  rw [gat_of hN hk]
  have e1 := gb_next (r := r) (T := T) hN
  have := gb_le_of (N := N) (T := T) (show r + 1 ≤ 19 by omega)
  unfold wAt
  rw [if_neg (by omega)]
  simp only [Int.toNat_natCast]
  rw [List.getElem?_replicate, if_pos (by omega)]
theorem Wd.congr {N T : Nat} {ws : List UInt64} {W W' : Nat → Nat → UInt64} (h : Wd N T ws W) (e : ∀ r n, r < 19 → n < gsz N T r → W r n = W' r n) : Wd N T ws W' := fun r n hr hn => by rw [h r n hr hn, e r n hr hn]
end Go.Proofs.Ytjdbknnacaacaaa
namespace Go.Proofs.Ytjdbknnacaacaaa
open Go Go.RowKit
set_option linter.unusedSimpArgs false
set_option linter.unusedVariables false
def retU {P : Program} {σ : Type} {X : Face P σ} {κ : Type} (K : KF P X κ) (s : κ) (f : FuncId) (x : Nat) (y : Nat) (n : Nat) : Bool := match P.funcs[f]? with
  | some g => (match goB g, g.body with
    | true, some c => (match Nat.ble 1 g.ntmps && Nat.ble g.ntmps 4000000, goK K n g [.code c] (frameF (depN g.ntmps) g.ntmps [.int .u8 (.ofNat x)] 0 (manyT undef (depN g.ntmps))) [] s with
      | true, some (.int .i64 (.ofNat m), _, _) => Nat.beq m y
      | _, _ => false)
    | _, _ => false)
  | none => false
theorem retU_ok {f : FuncId} {x y n : Nat} (h : retU OK [] f x y n = true) (w : World) : Calls Try.prog f #[.int .u8 (x : Int)] w (Ret (.int .i64 (y : Int)) (Ext [] w)) := by
  unfold retU at h
  split at h
  · rename_i g hf
    split at h
    · rename_i c hg hb
      split at h
      · rename_i m rows s' hn hgo
        have hm := Nat.eq_of_beq_eq_true h
        subst hm
        simp only [Bool.and_eq_true] at hn
        have h1 := Nat.le_of_ble_eq_true hn.1
        have h2 := depN_le (Nat.le_of_ble_eq_true hn.2)
        obtain ⟨_, G⟩ := goK_ok OK n _ _ _ _ _ _ _ _ h2 (fun ob hob => by cases hob) hgo
        have f2 := frameF_ok h2 [.int .u8 (.ofNat x)] 0 (manyT undef (depN g.ntmps)) (by simpa using h1)
        rw [f2, absT_many undef h2] at G
        simp only [List.take_zero, List.nil_append, Nat.zero_add, List.drop_replicate] at G
        have I : AInv OF ⟨fun _ => 0, fun _ => 0, fun _ => 0⟩ w (fun _ => False) (Kn (heapL []).next (OF.cnt ([] : St))) (fun u => u ∈ (enterL g c #[.int .u8 (x : Int)]).2) (heapL []) ([] : St) w := by
          refine ⟨⟨fun n b hb => ?_, fun n m b _ hb _ _ hro => ?_⟩, ⟨fun k ob h => by simp at h, fun k ob h => by simp at h, fun k k' ob ob' _ h => by simp at h⟩, fun u hu => ?_, fun n b hb v hv => ?_, fun n b hb => ?_, fun n h1 h2 => ?_, fun n hn => ?_, Kept.refl _ _, fun n b hb hro _ => ?_, fun b hb _ => ?_, fun n b _ hf => ?_⟩
          · rw [heapL_get] at hb; simp at hb
          · rw [heapL_get] at hb; simp at hb
          · unfold enterL at hu
            rcases List.mem_append.1 hu with hu | hu
            · simp only [List.mem_cons, List.not_mem_nil, or_false] at hu
              subst hu
              exact Stab.plain rfl
            · rw [List.eq_of_mem_replicate hu]
              exact Stab.plain (by simp [undef, plainB])
          · rw [heapL_get] at hb; simp at hb
          · rw [heapL_get] at hb; simp at hb
          · have h2 : n < VB + 0 := h2
            omega
          · rcases hn with hn | ⟨hn, hn'⟩
            · rw [heapL_next] at hn
              simp at hn
            · exact hn'
          · rw [heapL_get] at hb; simp at hb
          · obtain ⟨k, ob, hk, _⟩ := hb
            simp at hk
          · obtain ⟨k, ob, hk, _⟩ := hf
            simp at hk
        have e1 : ((#[.int .u8 (x : Int)] : Array Value)).map (ren ⟨fun _ => 0, fun _ => 0, fun _ => 0⟩) = #[.int .u8 (x : Int)] := by simp
        have hG := G.simul
        rw [← e1]
        refine (calls_of_simul hf hb hG I (by rw [heapL_next]; unfold VB; simp)).mono ?_
        rintro e w' ⟨F', rfl, I', _⟩
        exact ⟨by simp, I'.kept.os, I'.kept.tape, I'.kept.output, I'.kept.size, fun b hb _ => I'.kept.block b hb (fun h => h)⟩
      · cases h
    · cases h
  · cases h
def tzF : Nat → Nat → Nat
  | 0, _ => 0
  | f + 1, m => if m % 2 = 1 then 0 else 1 + tzF f (m / 2)
def tzN (m : Nat) : Nat := tzF 8 m
theorem tz_all : (List.range 256).all (fun i => retU OK [] 130 i (tzN i) 1000) = true := by kernel_rfl
theorem tz_any (m : Nat) (w : World) (h : m < 256) : Calls Try.prog 130 #[.int .u8 (m : Int)] w (Ret (.int .i64 ((tzN m : Nat) : Int)) (Ext [] w)) := retU_ok (List.all_eq_true.1 tz_all m (List.mem_range.2 h)) w
theorem first_does (S : St) (m : Nat) (l : Bool) (k v : Nat) (hm : m < 256) (h0 : 1 ≤ m) : Does OF 88 #[btV m l k v] [] S (.int .i64 ((tzN m : Nat) : Int)) S := by
  refine Does.mk Try.func88 rfl rfl ?clo ?hand ?_
  case clo => exact clo1 (Clo.plain (btV_plain m l k v))
  case hand => exact Hand.plain rfl
  rw [Try.ntmps88]; simp only [List.size_toArray, List.length_cons, List.length_nil, List.replicate, List.cons_append, List.nil_append]
  unfold btV
  have e1 : ((m : Int) == 0) = false := by rw [beq_eq_false_iff_ne]; omega
  refine viaF e1 ?_
  ((first | refine qp1 rfl rfl fun K hK => ?_ | refine qp3 rfl rfl fun K hK => ?_); simp (disch := (first | omega | (simp only [sz] <;> omega) | fail)) only [go_sem]; refine ⟨_, _, qpu fun w => tz_any m w hm, ?_⟩; (try simp only [go_sem]); with_reducible refine hK _ _ ?_; clear hK K)
  refine via ?_
  refine Goes.fin rfl (by simp (disch := (first | omega | (simp only [heapL_next, List.length_cons, List.length_nil, List.size_toArray, geo_len] <;> omega) | fail)) only [go_sem, resA, res1A, Try.results88] <;> rfl) ?_
  rfl
theorem first_none (S : St) (l : Bool) (k v : Nat) : Does OF 88 #[btV 0 l k v] [] S (.int .i64 (-1)) S := by
  refine Does.mk Try.func88 rfl rfl ?clo ?hand ?_
  case clo => exact clo1 (Clo.plain (btV_plain 0 l k v))
  case hand => exact Hand.plain rfl
  rw [Try.ntmps88]; simp only [List.size_toArray, List.length_cons, List.length_nil, List.replicate, List.cons_append, List.nil_append]
  unfold btV
  refine via ?_
  refine Goes.fin rfl (by simp (disch := (first | omega | (simp only [heapL_next, List.length_cons, List.length_nil, List.size_toArray, geo_len] <;> omega) | fail)) only [go_sem, resA, res1A, Try.results88] <;> rfl) ?_
  rfl
theorem turns_does (S : St) (p mm me : Nat) (steps : Nat) (ws : List UInt64) (bs : List UInt8) (N T x m k v m' k' v' : Nat) (l l' : Bool) (hp : S[p]? = some (.port mm me steps)) (hm : S[mm]? = some (.mem ws bs)) (hst : steps ≤ 100000000000) (hN : N ≤ 256) (hT : T ≤ 64) (h1 : m < 256) (h2 : k < 4) (h3 : v < 4294967296) (h1' : m' < 256) (h2' : k' < 4) (h3' : v' < 4294967296)
    (hu : wAt ws (gat N T 8 x) = some (btU m l k v)) :
    Does OF 89 #[shV p N T x, btV m l k v, btV m' l' k' v'] [] S (.bool true) (accS S p mm me (steps + 1) (wS 3 (gat N T 8 x) (btU m l k v) (btU m' l' k' v') ws) bs) := by
  refine Does.mk Try.func89 rfl rfl ?clo ?hand ?_
  case clo => exact clo3 (sh_clo N T (hlt_of hp)) (Clo.plain (btV_plain _ _ _ _)) (Clo.plain (btV_plain _ _ _ _))
  case hand => exact Hand.plain rfl
  rw [Try.ntmps89]; simp only [List.size_toArray, List.length_cons, List.length_nil, List.replicate, List.cons_append, List.nil_append]
  unfold shV btV
  have ht : (wT 3 (gat N T 8 x) (btU m l k v) ws == 1) = true := by unfold wT; rw [hu]; simp only [kTold, if_true]; rfl
  refine via ?_
  ((first | refine qp1 rfl rfl fun K hK => ?_ | refine qp3 rfl rfl fun K hK => ?_); simp (disch := (first | omega | (simp only [sz] <;> omega) | fail)) only [go_sem]; refine ⟨_, _, qpu fun w => gBits_any N T x w hN hT, ?_⟩; (try simp only [go_sem]); with_reducible refine hK _ _ ?_; clear hK K)
  refine via ?_
  ((first | refine qc1 rfl rfl fun K hK => ?_ | refine qc3 rfl rfl fun K hK => ?_); simp (disch := (first | omega | (simp only [sz] <;> omega) | fail)) only [go_sem]; refine ⟨_, _, bWord_does _ m l k v h1 h2 h3, ?_⟩; (try simp only [go_sem]); with_reducible refine hK _ _ ?_; clear hK K)
  refine via ?_
  ((first | refine qc1 rfl rfl fun K hK => ?_ | refine qc3 rfl rfl fun K hK => ?_); simp (disch := (first | omega | (simp only [sz] <;> omega) | fail)) only [go_sem]; refine ⟨_, _, bWord_does _ m' l' k' v' h1' h2' h3', ?_⟩; (try simp only [go_sem]); with_reducible refine hK _ _ ?_; clear hK K)
  refine via ?_
  ((first | refine qp1 rfl rfl fun K hK => ?_ | refine qp3 rfl rfl fun K hK => ?_); simp (disch := (first | omega | (simp only [sz] <;> omega) | fail)) only [go_sem]; refine ⟨_, _, .cas _ (btU m l k v) (btU m' l' k' v') hp hm (by omega), ?_⟩; (try simp only [go_sem]); with_reducible refine hK _ _ ?_; clear hK K)
  rw [ht]
  refine via ?_
  refine Goes.fin rfl (by simp (disch := (first | omega | (simp only [heapL_next, List.length_cons, List.length_nil, List.size_toArray, geo_len] <;> omega) | fail)) only [go_sem, resA, res1A, Try.results89] <;> rfl) ?_
  rfl
def szK (k : Nat) : Nat := match k with | 0 => 8 | 1 => 16 | 2 => 24 | _ => 32
theorem bit_off : (List.range 256).all (fun m => m == 0 || (decide (tzN m < 8) && (andNotZ .u8 (m : Int) ((2 ^ tzN m : Nat) : Int) == ((m - 2 ^ tzN m : Nat) : Int) && (IntKind.u8.wrap (1 * 2 ^ min (tzN m) 8) == ((2 ^ tzN m : Nat) : Int) && decide (2 ^ tzN m ≤ m))))) = true := by kernel_rfl
theorem bit_offs {m : Nat} (h0 : 1 ≤ m) (h : m < 256) : tzN m < 8 ∧ andNotZ .u8 (m : Int) ((2 ^ tzN m : Nat) : Int) = ((m - 2 ^ tzN m : Nat) : Int) ∧ IntKind.u8.wrap (1 * 2 ^ min (tzN m) 8) = ((2 ^ tzN m : Nat) : Int) ∧ 2 ^ tzN m ≤ m := by
  have := List.all_eq_true.1 bit_off m (List.mem_range.2 h)
  simp only [Bool.or_eq_true, Bool.and_eq_true, beq_iff_eq, decide_eq_true_eq] at this
  rcases this with h1 | h1
  · omega
  · exact h1
set_option maxHeartbeats 2000000 in
theorem take_does (S : St) (p mm me : Nat) (steps : Nat) (ws : List UInt64) (bs : List UInt8) (N T x m k v : Nat) (hp : S[p]? = some (.port mm me steps)) (hm : S[mm]? = some (.mem ws bs)) (hst : steps ≤ 10000000000) (hN : N ≤ 256) (hT : T ≤ 64) (hx : x < N) (h0 : 1 ≤ m) (h1 : m < 256) (h2 : k < 4) (h3 : v < 4294967296)
    (hu : wAt ws (gat N T 8 x) = some (btU m true k v)) :
    Does OF 32 #[prtV p, .agg (geoC N T), .int .i64 x, .int .i64 k] [] S (.tuple #[.int .i64 ((x * 8 + tzN m * szK k / 8 : Nat) : Int), .bool true]) (accS S p mm me (steps + 2) (wS 3 (gat N T 8 x) (btU m true k v) (btU (m - 2 ^ tzN m) true k v) ws) bs) := by
  have hne := hne_of hp hm
  obtain ⟨b1, b2, b3, b4⟩ := bit_offs h0 h1
  obtain ⟨f, hf⟩ : ∃ f, f = tzN m := ⟨_, rfl⟩
  have hf1 := first_does (accS S p mm me (steps + 1) ws bs) m true k v h1 h0
  rw [← hf] at b1 b2 b3 b4 hf1 ⊢
  obtain ⟨F, hF⟩ : ∃ F, F = 2 ^ f := ⟨_, rfl⟩
  rw [← hF] at b2 b3 b4 ⊢
  refine Does.mk Try.func32 rfl rfl ?clo ?hand ?_
  case clo => exact clo4 (pclo (hlt_of hp)) gclo iclo iclo
  case hand => exact Hand.plain (by simp [plainB])
  rw [Try.ntmps32]; simp only [List.size_toArray, List.length_cons, List.length_nil, List.replicate, List.cons_append, List.nil_append]
  refine viaL ?_
  ((first | refine qc1 rfl rfl fun K hK => ?_ | refine qc3 rfl rfl fun K hK => ?_); simp (disch := (first | omega | (simp only [sz] <;> omega) | fail)) only [go_sem]; refine ⟨_, _, sis_t S p N T x k (hlt_of hp) hx h2, ?_⟩; (try simp only [go_sem]); with_reducible refine hK _ _ ?_; clear hK K)
  refine via ?_
  ((first | refine qc1 rfl rfl fun K hK => ?_ | refine qc3 rfl rfl fun K hK => ?_); simp (disch := (first | omega | (simp only [sz] <;> omega) | fail)) only [go_sem]; refine ⟨_, _, sbits_does _ p mm me _ _ bs N T x _ hp hm (by omega) hN hT hu, ?_⟩; (try simp only [go_sem]); with_reducible refine hK _ _ ?_; clear hK K)
  rw [btOf_U h1 h2 h3]
  unfold btV
  refine via ?_
  ((first | refine qc1 rfl rfl fun K hK => ?_ | refine qc3 rfl rfl fun K hK => ?_); simp (disch := (first | omega | (simp only [sz] <;> omega) | fail)) only [go_sem]; refine ⟨_, _, hf1, ?_⟩; (try simp only [go_sem]); with_reducible refine hK _ _ ?_; clear hK K)
  have ef : ((f : Int) < 0) = False := eq_false (by omega)
  have ek : ((k : Int) != (k : Int)) = false := by simp
  refine viaF (And.intro ek (And.intro b2 b3)) ?_
  ((first | refine qc1 rfl rfl fun K hK => ?_ | refine qc3 rfl rfl fun K hK => ?_); simp (disch := (first | omega | (simp only [sz] <;> omega) | fail)) only [go_sem]; refine ⟨_, _, turns_does _ p mm me _ ws bs N T x m k v (m - F) k v true true (acc_p hp hm) (acc_m hp hm) (by omega) hN hT h1 h2 h3 (by omega) h2 h3 hu, ?_⟩; (try simp only [go_sem]); with_reducible refine hK _ _ ?_; clear hK K)
  rw [acc_acc hne]
  obtain rfl | rfl | rfl | rfl : k = 0 ∨ k = 1 ∨ k = 2 ∨ k = 3 := by omega
  all_goals
    refine via ?_
    ((first | refine qp1 rfl rfl fun K hK => ?_ | refine qp3 rfl rfl fun K hK => ?_); simp (disch := (first | omega | (simp only [sz] <;> omega) | fail)) only [go_sem]; refine ⟨_, _, qpu fun w => table_any' w, ?_⟩; (try simp only [go_sem]); with_reducible refine hK _ _ ?_; clear hK K)
    refine via ?_
  · ((first | refine qc1 rfl rfl fun K hK => ?_ | refine qc3 rfl rfl fun K hK => ?_); simp (disch := (first | omega | (simp only [sz] <;> omega) | fail)) only [go_sem]; refine ⟨_, _, grain_does _ p N T x f 8 8 8 (by simp [accS]; exact hlt_of hp) (by omega) (by omega) (by decide), ?_⟩; (try simp only [go_sem]); with_reducible refine hK _ _ ?_; clear hK K)
    refine via ?_
    refine Goes.fin rfl (by simp (disch := (first | omega | (simp only [heapL_next, List.length_cons, List.length_nil, List.size_toArray, geo_len] <;> omega) | fail)) only [go_sem, resA, res1A, Try.results32] <;> rfl) ?_
    rfl
  · ((first | refine qc1 rfl rfl fun K hK => ?_ | refine qc3 rfl rfl fun K hK => ?_); simp (disch := (first | omega | (simp only [sz] <;> omega) | fail)) only [go_sem]; refine ⟨_, _, grain_does _ p N T x f 16 16 4 (by simp [accS]; exact hlt_of hp) (by omega) (by omega) (by decide), ?_⟩; (try simp only [go_sem]); with_reducible refine hK _ _ ?_; clear hK K)
    refine via ?_
    refine Goes.fin rfl (by simp (disch := (first | omega | (simp only [heapL_next, List.length_cons, List.length_nil, List.size_toArray, geo_len] <;> omega) | fail)) only [go_sem, resA, res1A, Try.results32] <;> rfl) ?_
    rfl
  · ((first | refine qc1 rfl rfl fun K hK => ?_ | refine qc3 rfl rfl fun K hK => ?_); simp (disch := (first | omega | (simp only [sz] <;> omega) | fail)) only [go_sem]; refine ⟨_, _, grain_does _ p N T x f 24 8 2 (by simp [accS]; exact hlt_of hp) (by omega) (by omega) (by decide), ?_⟩; (try simp only [go_sem]); with_reducible refine hK _ _ ?_; clear hK K)
    refine via ?_
    refine Goes.fin rfl (by simp (disch := (first | omega | (simp only [heapL_next, List.length_cons, List.length_nil, List.size_toArray, geo_len] <;> omega) | fail)) only [go_sem, resA, res1A, Try.results32] <;> rfl) ?_
    rfl
  · ((first | refine qc1 rfl rfl fun K hK => ?_ | refine qc3 rfl rfl fun K hK => ?_); simp (disch := (first | omega | (simp only [sz] <;> omega) | fail)) only [go_sem]; refine ⟨_, _, grain_does _ p N T x f 32 32 2 (by simp [accS]; exact hlt_of hp) (by omega) (by omega) (by decide), ?_⟩; (try simp only [go_sem]); with_reducible refine hK _ _ ?_; clear hK K)
    refine via ?_
    refine Goes.fin rfl (by simp (disch := (first | omega | (simp only [heapL_next, List.length_cons, List.length_nil, List.size_toArray, geo_len] <;> omega) | fail)) only [go_sem, resA, res1A, Try.results32] <;> rfl) ?_
    rfl
end Go.Proofs.Ytjdbknnacaacaaa
namespace Go.Proofs.Ytjdbknnacaacaaa
open Go Go.RowKit
set_option linter.unusedSimpArgs false
set_option linter.unusedVariables false
end Go.Proofs.Ytjdbknnacaacaaa
namespace Go.Proofs.Ytjdbknnacaacaaa
open Go Go.RowKit
set_option linter.unusedSimpArgs false
set_option linter.unusedVariables false
theorem sl_used {k a : Nat} : ∀ (P Q : List Rn) (x : Nat) (o : Fit), (∀ r ∈ P, r.1 ≠ 1) → bestL k a (P ++ Q) x o = bestL k a Q (x + tot P) o
  | [], Q, x, o, _ => by simp [tot]
  | r :: P, Q, x, o, h => by
    simp only [List.cons_append, bestL, tot]
    rw [if_neg (fun hc => h r (List.mem_cons_self) hc.1), sl_used P Q _ _ (fun r' hr' => h r' (List.mem_cons_of_mem _ hr')), Nat.add_assoc]
theorem sl_rup (x : Nat) : rup x 1 = x := by unfold rup; simp
theorem sl_cut {P A C : List Rn} {n m : Nat} (hu : ∀ r ∈ P, r.1 ≠ 1) (h : P ++ [(1, n)] = A ++ (1, m) :: C) : A = P ∧ C = [] ∧ m = n := by
  induction P generalizing A with
  | nil =>
    cases A with
    | nil => simp at h; exact ⟨rfl, h.2, h.1.symm⟩
    | cons a A => simp at h
  | cons r P ih =>
    cases A with
    | nil =>
      simp only [List.cons_append, List.nil_append, List.cons.injEq] at h
      exact absurd (by rw [h.1]) (hu r (List.mem_cons_self))
    | cons a A =>
      simp only [List.cons_append, List.cons.injEq] at h
      obtain ⟨h1, h2, h3⟩ := ih (fun r' hr' => hu r' (List.mem_cons_of_mem _ hr')) h.2
      exact ⟨by rw [h.1, h1], h2, h3⟩
theorem sl_tail {P : List Rn} {n k N T : Nat} {ws0 ws ws' : List UInt64} {v : Value} {L' : List Rn} (hu : ∀ r ∈ P, r.1 ≠ 1) (hk : 1 ≤ k) (hn : k ≤ n) (hN : k ≤ N) (h : AllocSaid k 1 N T ws0 ws (P ++ [(1, n)]) v ws' L') :
    L' = P ++ (4, k) :: fr (n - k) ∧ v = .tuple #[.int .i64 ((tot P : Nat) : Int), .bool true] := by
  have hb : bestL k 1 (P ++ [(1, n)]) 0 (0, 0, 0) = (tot P, n, tot P) := by
    rw [sl_used P _ _ _ hu]
    simp only [bestL, sl_rup, Nat.zero_add]
    rw [if_pos ⟨trivial, by omega, .inl trivial⟩]
  rcases h with ⟨_, _, _, h4⟩ | ⟨_, _, A, C, f, r, hL, hB, hL', hv⟩
  · have := h4 (by omega) (by omega) (by omega)
    rw [show (min (1 : Int) 256).toNat = 1 by decide, Int.toNat_natCast, hb] at this
    simp only at this
    omega
  · obtain ⟨rfl, rfl, hm⟩ := sl_cut hu hL
    rw [show (min (1 : Int) 256).toNat = 1 by decide, Int.toNat_natCast, hb] at hB
    simp only [Prod.mk.injEq] at hB
    obtain rfl : f = 0 := by omega
    rw [Int.toNat_natCast] at hm hL'
    refine ⟨?_, ?_⟩
    · rw [hL', fr_0, List.nil_append, List.append_nil, show n - k = r by omega]
    · rw [hv, Nat.add_zero]
theorem Pg.other {N T : Nat} {ws0 ws : List UInt64} {P B : Nat → UInt64} (h : Pg N T ws0 ws P B) (hN : 1 ≤ N) {i : Nat} (h1 : ∀ x, x < N → i ≠ 21 + T + x) (h2 : ∀ b, b < 9 → i ≠ 7 + b) {u : UInt64} (hu : wAt ws0 (i : Nat) = some u) (c : Nat) (v V : UInt64) :
    Pg N T (wS c (i : Nat) v V ws0) (wS c (i : Nat) v V ws) P B := by
  have hu2 : wAt ws (i : Nat) = some u := by rw [h.rest i h1 h2]; exact hu
  have e := wAt_wS (c := c) (A := v) (B := V) hu2
  have e0 := wAt_wS (c := c) (A := v) (B := V) hu
  refine ⟨by rw [wS_length, wS_length, h.len], fun y hy => ?_, fun b hb => ?_, fun j k1 k2 => ?_⟩
  · rw [e, gPage_at hN hy, if_neg (by have := h1 y hy; omega), ← gPage_at hN hy]; exact h.pg y hy
  · rw [e, gBin_at hN hb, if_neg (by have := h2 b hb; omega), ← gBin_at (T := T) hN hb]; exact h.bn b hb
  · rw [e, e0]
    by_cases hj : (j : Int) = (i : Int)
    · rw [if_pos hj, if_pos hj]
    · rw [if_neg hj, if_neg hj]; exact h.rest j k1 k2
theorem gBits_of {N T k : Nat} (hN : 1 ≤ N) (hk : k < N) : gat N T 8 k = ((21 + T + N + k : Nat) : Int) := by
  rw [gat_of hN (by show k < N; exact hk), gb8 hN]
theorem slab_word {k o : Nat} (hk : k < 4) (ho : o < 128) : pgO 3 1 k o = pgU (3 + k * 8192 + o * 65536) 1 := by
  unfold pgO pgU pgN; congr 1; omega
set_option maxHeartbeats 1000000 in
theorem page_does (S : St) (p m me : Nat) (steps : Nat) (ws0 ws : List UInt64) (bs : List UInt8) (N T k n : Nat) {A : List Rn} (hp : S[p]? = some (.port m me steps)) (hm : S[m]? = some (.mem ws bs)) (hst : steps ≤ 10000000) (h1 : 1 ≤ N) (hN : N ≤ 256) (hT : T ≤ 64) (hme : me < 128) (hk : k < 4) (hP : Pg N T ws0 ws (pw (A ++ [(1, n)])) (bw (A ++ [(1, n)]))) (hA : ∀ r ∈ A, r.1 ≠ 1) (hpos : Pos (A ++ [(1, n)])) (htot : tot A + n = N)
    (hb : wAt ws0 (gat N T 8 (tot A : Nat)) = some 0) :
    ∃ v S', (v = .tuple #[.int .i64 (tot A : Nat), .int .i64 (tot A * 8 : Nat)] ∧ ∃ st' ws', st' ≤ steps + 700 ∧ S' = accS S p m me st' ws' bs ∧
      Pg N T (wS 2 (gat N T 8 (tot A : Nat)) (btU (mapK k) true k 1) 0 ws0) ws' (pw (A ++ (3 + k * 8192 + me * 65536, 1) :: fr (n - 1))) (bw (A ++ (3 + k * 8192 + me * 65536, 1) :: fr (n - 1)))) ∧
      Does OF 31 #[hndV p, .agg (geoC N T), .int .i64 k] [] S v S' := by
  have hne := hne_of hp hm
  have hn1 : 1 ≤ n := (Pos.cons.1 (Pos.append.1 hpos).2).1.1
  have hx : tot A < N := by omega
  obtain ⟨v1, S1, ⟨s1, w1, L1, hs1, rfl, hP1, hsaid⟩, hd1⟩ := alloc_does S p m me steps ws0 ws bs N T 1 1 hp hm (by omega) h1 hN hT hP hpos (by rw [tot_append]; simp only [tot]; omega)
  obtain ⟨rfl, rfl⟩ := sl_tail hA (Nat.le_refl 1) hn1 h1 hsaid
  have hbi : ∀ y, y < N → 21 + T + N + tot A ≠ 21 + T + y := fun y hy => by omega
  have hbj : ∀ b, b < 9 → 21 + T + N + tot A ≠ 7 + b := fun b hb => by omega
  have hb1 : wAt w1 (gat N T 8 (tot A : Nat)) = some 0 := by
    rw [gBits_of h1 hx] at hb ⊢
    rw [hP1.rest _ hbi hbj]; exact hb
  have hb2 : wAt (wS 2 (gat N T 7 (tot A : Nat)) (pgO 3 1 k me) 0 w1) (gat N T 8 (tot A : Nat)) = some 0 := by
    rw [wAt_wS (hP1.pg _ hx), if_neg (by rw [gBits_of h1 hx, gPage_at h1 hx]; omega)]; exact hb1
  have hd2 := make_does (accS S p m me s1 w1 bs) p m me s1 w1 bs N T (tot A) k 0 (acc_p hp hm) (acc_m hp hm) (by omega) h1 hN hT hme hx hk hb2 (by decide)
  rw [acc_acc hne] at hd2
  refine Does.ex Try.func31 rfl rfl ?clo ?hand ?_
  case clo => exact clo3 (hclo (hlt_of hp)) gclo iclo
  case hand => rintro v S' ⟨rfl, _⟩; exact Hand.plain (by simp [plainB])
  rw [Try.ntmps31]; simp only [List.size_toArray, List.length_cons, List.length_nil, List.replicate, List.cons_append, List.nil_append]
  refine via ?_
  ((first | refine qc1 rfl rfl fun K hK => ?_ | refine qc3 rfl rfl fun K hK => ?_); simp (disch := (first | omega | (simp only [sz] <;> omega) | fail)) only [go_sem]; refine ⟨_, _, hd1, ?_⟩; (try simp only [go_sem]); with_reducible refine hK _ _ ?_; clear hK K)
  refine via ?_
  ((first | refine qc1 rfl rfl fun K hK => ?_ | refine qc3 rfl rfl fun K hK => ?_); simp (disch := (first | omega | (simp only [sz] <;> omega) | fail)) only [go_sem]; refine ⟨_, _, hd2, ?_⟩; (try simp only [go_sem]); with_reducible refine hK _ _ ?_; clear hK K)
  refine via ?_
  refine Goes.finE rfl (by simp (disch := (first | omega | (simp only [heapL_next, List.length_cons, List.length_nil, List.size_toArray, geo_len] <;> omega) | fail)) only [go_sem, resA, res1A, Try.results31] <;> rfl) ?_
  refine ⟨rfl, s1 + 3, _, by omega, rfl, ?_⟩
  have hP2 := hP1.put h1 hx 2 (pgO 3 1 k me) 0
  have hP3 := Pg.other hP2 h1 hbi hbj (by rw [gBits_of h1 hx] at hb; exact hb) 2 (btU (mapK k) true k 1) 0
  rw [gBits_of h1 hx]
  refine hP3.congr (fun y _ => ?_) (fun b _ => bw_kind (by decide) (by omega) b)
  simp only [kNow]
  rw [slab_word hk hme]
  exact pw_kind (q := 4) (Pos.append.1 hpos).1 (by decide) (by decide) (by omega) y
theorem size_does (S : St) (k : Nat) (hk : k < 4) : Does OF 33 #[.int .i64 k] [] S (.int .i64 (szK k : Nat)) S := by
  obtain rfl | rfl | rfl | rfl : k = 0 ∨ k = 1 ∨ k = 2 ∨ k = 3 := by omega
  all_goals
    refine Does.mk Try.func33 rfl rfl ?clo ?hand ?_
    case clo => exact clo1 iclo
    case hand => exact Hand.plain rfl
    rw [Try.ntmps33]; simp only [List.size_toArray, List.length_cons, List.length_nil, List.replicate, List.cons_append, List.nil_append]
    refine via ?_
    ((first | refine qp1 rfl rfl fun K hK => ?_ | refine qp3 rfl rfl fun K hK => ?_); simp (disch := (first | omega | (simp only [sz] <;> omega) | fail)) only [go_sem]; refine ⟨_, _, qpu fun w => table_any' w, ?_⟩; (try simp only [go_sem]); with_reducible refine hK _ _ ?_; clear hK K)
    refine via ?_
    refine Goes.fin rfl (by simp (disch := (first | omega | (simp only [heapL_next, List.length_cons, List.length_nil, List.size_toArray, geo_len] <;> omega) | fail)) only [go_sem, resA, res1A, Try.results33] <;> rfl) ?_
    rfl
theorem awake11_true : trueB OK6 [] 36 1000000 = true := by kernel_rfl
theorem awake11_any (w : World) : Calls Try.prog 36 #[] w (Ret (.bool true) (Ext [] w)) := by
  have L := (closed_lawK awake11_true).calls ⟨fun _ => 0, fun _ => 0, fun _ => 0⟩ w (fun n b hb => by simp at hb) (by simp)
  rwa [show (#[] : Array Value).map (ren ⟨fun _ => 0, fun _ => 0, fun _ => 0⟩) = #[] by simp] at L
end Go.Proofs.Ytjdbknnacaacaaa
