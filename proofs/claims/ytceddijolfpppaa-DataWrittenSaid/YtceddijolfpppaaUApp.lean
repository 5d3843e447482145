/-
  The abstract machine: append, in whatever of its ways.
  No condition: laws.
-/
import Derived.Test.YtceddijolfpppaaURunsB
import Derived.Test.YtceddijolfpppaaUQuick
import Derived.Test.YtceddijolfpppaaURun5
namespace Go.Proofs.Ytceddijolfpppaa
open Go Go.RowKit
set_option linter.unusedSimpArgs false
set_option linter.unusedVariables false
def appAt (P : Program) (h : AHeap) (t : TypeId) (X Y : Value) : Option (Value × AHeap) := match X, tySlice P t, Y with
  | .slice none 0 0, some el, .slice _ 0 _ => (match tySize P el with | some _ => some (.slice none 0 0, h) | none => none)
  | .slice (some a) sl sc, some el, .slice b n c => (match tySize P el with
    | some s => if sl + n ≤ sc then (match n, cellsA h s (.slice b n c), h.get a.block with
        | 0, _, _ => some (.slice (some a) sl sc, h)
        | _, some news, some bk => if bk.ro = false ∧ a.spot = none ∧ a.off + sl * s + news.length ≤ bk.cells.length ∧ news.length = n * s ∧ news.all cellB = true then
            some (.slice (some a) (sl + n) sc, h.put a.block { bk with cells := spliceA bk.cells (a.off + sl * s) news }) else none
        | _, _, _ => none)
      else (match appendA P h t X Y with
        | some (cs, el, need, false) => some (.slice (some ⟨h.next, 0, none⟩) need need, (h.putO a.block none).addO (some ⟨cs, el, false, tySize P el⟩))
        | _ => none)
    | none => none)
  | _, _, _ => none
def AppTo (P : Program) (h : AHeap) (t : TypeId) (X Y : Value) (v : Value) (h' : AHeap) : Prop := appAt P h t X Y = some (v, h') ∨ ∃ ob, appV P h h.next t X Y = some (v, ob) ∧ h' = h.addO ob
structure AppT (P : Program) (t el : TypeId) (s : Nat) : Prop where
  sl : tySlice P t = some el
  sz : tySize P el = some (s + 1)
  bs : ∃ bs, tyBytes P el = some bs ∧ bs ≤ 1048576
  z : ∃ z, tyZero P el = some z ∧ plainB z = true ∧ z.cells.size = s + 1
section
variable {P : Program} {h : AHeap} {t el : TypeId} {s : Nat}
attribute [go_sem] Int.toNat_zero Int.toNat_one Option.map_some Option.map_none
end
section
variable {P : Program} {σ : Type} {X : Face P σ} {fn : Func} {A : Conf σ → Prop} {ops : Array Oper} {k : List Item} {i : Nat} {tmps : List Value} {h h' : AHeap} {S : σ} {o : Oper} {x y : Operand} {t : TypeId} {v : Value}
theorem wr_append {e : Operand → Value} : wrA P e h (.call { callee := .builtin .append, args := #[x, y], argTypes := #[t, t] }) = appAt P h t (e x) (e y) := by
  unfold wrA appAt
  simp only [if_true]
  rfl
theorem AppTo.op (e : AppTo P h t (evA tmps x) (evA tmps y) v h') (hop : o.op = .call { callee := .builtin .append, args := #[x, y], argTypes := #[t, t] }) : Op0 X o (evA tmps) h S v h' S := by
  rcases e with e | ⟨ob, e, rfl⟩
  · exact .inr (.inr (.inl ⟨by rw [hop, wr_append]; exact e, rfl⟩))
  · exact .inr (.inl ⟨ob, by rw [hop, n_append]; exact e, rfl, rfl⟩)
variable {W : List Nat} {n0 : Nat} {hf : AHeap} {Kf : List Value → AHeap → σ → Prop} {born : List (Nat × Nat)}
end
end Go.Proofs.Ytceddijolfpppaa
namespace Go.Proofs.Ytceddijolfpppaa
open Go Go.RowKit
set_option linter.unusedSimpArgs false
set_option linter.unusedVariables false
def shC (p N T x : Nat) : Array Value := dkC p N T ++ #[.int .i64 x]
def shV (p N T x : Nat) : Value := .agg (shC p N T x)
theorem sh_list (p N T x : Nat) : (shC p N T x).toList = (dkC p N T).toList ++ [.int .i64 x] := by simp [shC]
theorem sh_len (p N T x : Nat) : (shC p N T x).toList.length = 24 := by rw [sh_list, List.length_append, dk_len]; rfl
theorem sh_size (p N T x : Nat) : (shC p N T x).size = 24 := by rw [← Array.length_toList, sh_len]
theorem sh_all (p N T x : Nat) : (shC p N T x).toList.all cellB = true := by rw [sh_list, List.all_append, dk_all]; rfl
theorem sh_arr (p N T x : Nat) : (shC p N T x).toList.toArray = shC p N T x := by simp
theorem sh_splice {l : List Value} {p N T x : Nat} (h : l.length = 24) : spliceA l 0 (shC p N T x).toList = (shC p N T x).toList := splice_all (by rw [h, sh_len])
theorem sh_0 (p N T x : Nat) : (shC p N T x).toList[0]? = some (prtV p) := by rw [sh_list, List.getElem?_append_left (by rw [dk_len]; omega), dk_0]
theorem sh_23 (p N T x : Nat) : (shC p N T x).toList[23]? = some (.int .i64 x) := by rw [sh_list, List.getElem?_append_right (by rw [dk_len]; omega), dk_len]; rfl
theorem sh_g (p N T x : Nat) : (List.take 22 (List.drop 1 (shC p N T x).toList)).toArray = geoC N T := by
  rw [sh_list, List.drop_append_of_le_length (by rw [dk_len]; omega), List.take_append_of_le_length (by rw [List.length_drop, dk_len]; omega), dk_g]
theorem sh_loadg (p N T x e n : Nat) : loadR (some { cells := (shC p N T x).toList, elem := e }) (some true) (some 22) ⟨n, 1, none⟩ = some (.agg (geoC N T)) := by
  rw [loadR_sub (by simp only [sh_len]; omega), sh_g]
theorem sh_load (p N T x e n : Nat) : loadR (some { cells := (shC p N T x).toList, elem := e }) (some true) (some 24) ⟨n, 0, none⟩ = some (.agg (shC p N T x)) := by
  rw [loadR_all (by simp only [sh_len]), sh_arr]
theorem sh_clo {n p x : Nat} {S : St} (N T : Nat) (h : p < S.length) : Clo (Kn n (OF.cnt S)) (shV p N T x) := fun F F' hs => by
  have h1 := dk_clo (n := n) (S := S) N T h F F' hs
  simp only [dkV, ren_agg, Value.agg.injEq] at h1
  simp only [shV, shC, ren_agg, Value.agg.injEq, Array.map_append, h1, List.map_toArray, List.map_cons, List.map_nil, ren_int]
theorem splice_dk {l : List Value} {p N T : Nat} : spliceA l 0 (dkC p N T).toList = (dkC p N T).toList ++ l.drop 23 := by
  simp only [spliceA, List.take_zero, dk_len, List.nil_append, Nat.zero_add]
theorem fill1_end {k : IntKind} {l : List Value} {m : Nat} {c : Value} {n : Int} {K : List Value → Option (List Value)} (h : l.length = m) : fill1 (some (m, 1)) (.int k n) (l ++ [c]) K = K (l ++ [.int k n]) := by
  have hl : m < (l ++ [c]).length := by rw [List.length_append, h]; simp
  rw [fill1_int hl]
  congr 1
  rw [List.set_append_right _ _ (by omega), h, Nat.sub_self]
  rfl
theorem fill1_dk {k : IntKind} {p N T : Nat} {c : Value} {n : Int} {K : List Value → Option (List Value)} : fill1 (some (23, 1)) (.int k n) ((dkC p N T).toList ++ [c]) K = K ((dkC p N T).toList ++ [.int k n]) := fill1_end (dk_len p N T)
theorem fill1_dk0 {off p N T : Nat} {cells : List Value} {K : List Value → Option (List Value)} (hl : off + 23 ≤ cells.length) : fill1 (some (off, 23)) (.agg (dkC p N T)) cells K = K (spliceA cells off (dkC p N T).toList) :=
  fill1_agg (dk_size p N T) hl
theorem sh_mk {p N T x : Nat} : ((dkC p N T).toList ++ [Value.int .i64 (x : Int)]).toArray = shC p N T x := by rw [← sh_list, sh_arr]
attribute [go_sem high] splice_dk fill1_dk fill1_dk0 sh_mk
attribute [go_sem] sh_len sh_size sh_all sh_arr sh_splice sh_0 sh_23 sh_loadg sh_load
theorem sh_hand {c p : Nat} (N T x : Nat) (h : p < c) : Hand c (shV p N T x) := fun F F' hs => by
  have h1 := prt_clo 0 c p h
  have h2 : ren F (prtV p) = ren F' (prtV p) := h1 F F' (by
    intro n hn
    rcases hn with hn | hn
    · omega
    · exact hs n hn)
  have h3 := ren_plain F (geo_plain N T)
  have h4 := ren_plain F' (geo_plain N T)
  simp only [ren_agg, Value.agg.injEq] at h3 h4
  simp only [shV, shC, dkC, ren_agg, Value.agg.injEq, Array.map_append, h3, h4, List.map_toArray, List.map_cons, List.map_nil, ren_int, h2]
theorem hand3' {c : Nat} {a b d : Value} (ha : Hand c a) (hb : Hand c b) (hd : Hand c d) : Hand c (.tuple #[a, b, d]) := fun F F' hs => by
  simp only [ren_tuple, List.map_toArray, List.map_cons, List.map_nil]
  rw [ha F F' hs, hb F F' hs, hd F F' hs]
theorem or_mid {m c v : Nat} (hm : m < 256) (hc : c < 8) (hv : v < 4294967296) : orZ .u64 ((m + v * 2 ^ 32 : Nat) : Int) ((c * 2 ^ 8 : Nat) : Int) = ((m + c * 2 ^ 8 + v * 2 ^ 32 : Nat) : Int) := by
  show IntKind.u64.wrap ((BitVec.ofInt 64 ((m + v * 2 ^ 32 : Nat) : Int) ||| BitVec.ofInt 64 ((c * 2 ^ 8 : Nat) : Int)).toNat : Int) = _
  rw [BitVec.toNat_or, bv_nat (by omega), bv_nat (by omega)]
  have e1 : m + v * 2 ^ 32 = 2 ^ 32 * v ||| m := by rw [← Nat.two_pow_add_eq_or_of_lt (by omega)]; omega
  have e2 : m ||| c * 2 ^ 8 = 2 ^ 8 * c + m := by rw [Nat.two_pow_add_eq_or_of_lt (by omega), Nat.or_comm, Nat.mul_comm]
  have e3 : 2 ^ 32 * v ||| (2 ^ 8 * c + m) = 2 ^ 32 * v + (2 ^ 8 * c + m) := (Nat.two_pow_add_eq_or_of_lt (by omega) _).symm
  rw [e1, Nat.or_assoc, e2, e3, show 2 ^ 32 * v + (2 ^ 8 * c + m) = m + c * 2 ^ 8 + v * 2 ^ 32 by omega]
  exact w_id (by omega)
def btV (m : Nat) (l : Bool) (k v : Nat) : Value := .agg #[.int .u8 m, .bool l, .int .i64 k, .int .u32 v]
theorem btV_plain (m : Nat) (l : Bool) (k v : Nat) : plainB (btV m l k v) = true := by simp [btV, plainB]
def btN (m : Nat) (l : Bool) (k v : Nat) : Nat := m + (if l then (k + 1) * 2 ^ 8 else 0) + v * 2 ^ 32
def btU (m : Nat) (l : Bool) (k v : Nat) : UInt64 := UInt64.ofNat (btN m l k v)
theorem btU_nat {m k v : Nat} {l : Bool} (hm : m < 256) (hk : k < 4) (hv : v < 4294967296) : (btU m l k v).toNat = btN m l k v := by
  unfold btU btN
  cases l <;> simp <;> omega
set_option maxHeartbeats 1000000 in
theorem bWord_does (S : St) (m : Nat) (l : Bool) (k v : Nat) (hm : m < 256) (hk : k < 4) (hv : v < 4294967296) :
    Does OF 146 #[btV m l k v] [] S (.int .u64 ((btU m l k v).toNat : Int)) S := by
  rw [btU_nat hm hk hv]
  refine Does.mk Try.func146 rfl rfl ?clo ?hand ?_
  case clo => exact clo1 (Clo.plain (btV_plain m l k v))
  case hand => exact Hand.plain rfl
  rw [Try.ntmps146]; simp only [List.size_toArray, List.length_cons, List.length_nil, List.replicate, List.cons_append, List.nil_append]
  unfold btV
  refine via ?_
  ((first | refine qc1 rfl rfl fun K hK => ?_ | refine qc3 rfl rfl fun K hK => ?_); simp (disch := (first | omega | (simp only [sz] <;> omega) | fail)) only [go_sem]; refine ⟨_, _, field_u8 _ m 0 8 (by omega) (by decide) (by decide) (by decide), ?_⟩; (try simp only [go_sem]); with_reducible refine hK _ _ ?_; clear hK K)
  rw [show m % 2 ^ 8 * 2 ^ 0 = m by omega]
  refine via ?_
  ((first | refine qc1 rfl rfl fun K hK => ?_ | refine qc3 rfl rfl fun K hK => ?_); simp (disch := (first | omega | (simp only [sz] <;> omega) | fail)) only [go_sem]; refine ⟨_, _, field_u32 _ v 32 32 (by omega) (by decide) (by decide) (by decide), ?_⟩; (try simp only [go_sem]); with_reducible refine hK _ _ ?_; clear hK K)
  rw [show v % 2 ^ 32 * 2 ^ 32 = v * 2 ^ 32 by omega]
  have e1 := or_add (a := v) (b := m) (i := 32) (by omega) (by omega)
  cases l with
  | false =>
    refine viaF e1 ?_
    refine Goes.fin rfl (by simp (disch := (first | omega | (simp only [heapL_next, List.length_cons, List.length_nil, List.size_toArray, geo_len] <;> omega) | fail)) only [go_sem, resA, res1A, Try.results146] <;> rfl) ?_
    simp [btN]
  | true =>
    refine viaF e1 ?_
    ((first | refine qc1 rfl rfl fun K hK => ?_ | refine qc3 rfl rfl fun K hK => ?_); simp (disch := (first | omega | (simp only [sz] <;> omega) | fail)) only [go_sem]; refine ⟨_, _, field_int _ (k + 1) 8 3 (by omega) (by decide) (by decide) (by decide), ?_⟩; (try simp only [go_sem]); with_reducible refine hK _ _ ?_; clear hK K)
    rw [show (k + 1) % 2 ^ 3 * 2 ^ 8 = (k + 1) * 2 ^ 8 by omega]
    have e2 := or_mid (m := m) (c := k + 1) (v := v) hm (by omega) hv
    refine viaF e2 ?_
    refine Goes.fin rfl (by simp (disch := (first | omega | (simp only [heapL_next, List.length_cons, List.length_nil, List.size_toArray, geo_len] <;> omega) | fail)) only [go_sem, resA, res1A, Try.results146] <;> rfl) ?_
    simp [btN]
def btC (x : UInt64) : Nat := x.toNat / 2 ^ 8 % 2 ^ 3
def btOf (x : UInt64) : Value := btV (x.toNat / 2 ^ 0 % 2 ^ 8) (decide (0 < btC x)) (btC x - 1) (x.toNat / 2 ^ 32 % 2 ^ 32)
set_option maxHeartbeats 1000000 in
theorem bitsOf_does (S : St) (x : UInt64) :
    Does OF 155 #[.int .u64 (x.toNat : Int)] [] S (btOf x) S := by
  by_cases h : 0 < x.toNat / 2 ^ 8 % 2 ^ 3
  · have hb : btOf x = btV (x.toNat / 2 ^ 0 % 2 ^ 8) true (x.toNat / 2 ^ 8 % 2 ^ 3 - 1) (x.toNat / 2 ^ 32 % 2 ^ 32) := by unfold btOf btC; rw [decide_eq_true h]
    have e1 : ((x.toNat / 2 ^ 8 % 2 ^ 3 : Nat) : Int) - 1 = ((x.toNat / 2 ^ 8 % 2 ^ 3 - 1 : Nat) : Int) := by omega
    rw [hb]
    refine Does.mk Try.func155 rfl rfl ?clo ?hand ?_
    case clo => exact clo1 iclo
    case hand => exact Hand.plain (btV_plain _ _ _ _)
    rw [Try.ntmps155]; simp only [List.size_toArray, List.length_cons, List.length_nil, List.replicate, List.cons_append, List.nil_append]
    refine via ?_
    ((first | refine qc1 rfl rfl fun K hK => ?_ | refine qc3 rfl rfl fun K hK => ?_); simp (disch := (first | omega | (simp only [sz] <;> omega) | fail)) only [go_sem]; refine ⟨_, _, of_u8 _ x 0 8 (by decide) (by decide), ?_⟩; (try simp only [go_sem]); with_reducible refine hK _ _ ?_; clear hK K)
    refine via ?_
    ((first | refine qc1 rfl rfl fun K hK => ?_ | refine qc3 rfl rfl fun K hK => ?_); simp (disch := (first | omega | (simp only [sz] <;> omega) | fail)) only [go_sem]; refine ⟨_, _, of_u32 _ x 32 32 (by decide) (by decide), ?_⟩; (try simp only [go_sem]); with_reducible refine hK _ _ ?_; clear hK K)
    refine via ?_
    ((first | refine qc1 rfl rfl fun K hK => ?_ | refine qc3 rfl rfl fun K hK => ?_); simp (disch := (first | omega | (simp only [sz] <;> omega) | fail)) only [go_sem]; refine ⟨_, _, of_int _ x 8 3 (by decide) (by decide), ?_⟩; (try simp only [go_sem]); with_reducible refine hK _ _ ?_; clear hK K)
    refine viaF e1 ?_
    refine Goes.fin rfl (by simp (disch := (first | omega | (simp only [heapL_next, List.length_cons, List.length_nil, List.size_toArray, geo_len] <;> omega) | fail)) only [go_sem, resA, res1A, Try.results155] <;> rfl) ?_
    rfl
  · have hb : btOf x = btV (x.toNat / 2 ^ 0 % 2 ^ 8) false 0 (x.toNat / 2 ^ 32 % 2 ^ 32) := by unfold btOf btC; rw [decide_eq_false h, show x.toNat / 2 ^ 8 % 2 ^ 3 - 1 = 0 by omega]
    rw [hb]
    refine Does.mk Try.func155 rfl rfl ?clo ?hand ?_
    case clo => exact clo1 iclo
    case hand => exact Hand.plain (btV_plain _ _ _ _)
    rw [Try.ntmps155]; simp only [List.size_toArray, List.length_cons, List.length_nil, List.replicate, List.cons_append, List.nil_append]
    refine via ?_
    ((first | refine qc1 rfl rfl fun K hK => ?_ | refine qc3 rfl rfl fun K hK => ?_); simp (disch := (first | omega | (simp only [sz] <;> omega) | fail)) only [go_sem]; refine ⟨_, _, of_u8 _ x 0 8 (by decide) (by decide), ?_⟩; (try simp only [go_sem]); with_reducible refine hK _ _ ?_; clear hK K)
    refine via ?_
    ((first | refine qc1 rfl rfl fun K hK => ?_ | refine qc3 rfl rfl fun K hK => ?_); simp (disch := (first | omega | (simp only [sz] <;> omega) | fail)) only [go_sem]; refine ⟨_, _, of_u32 _ x 32 32 (by decide) (by decide), ?_⟩; (try simp only [go_sem]); with_reducible refine hK _ _ ?_; clear hK K)
    refine via ?_
    ((first | refine qc1 rfl rfl fun K hK => ?_ | refine qc3 rfl rfl fun K hK => ?_); simp (disch := (first | omega | (simp only [sz] <;> omega) | fail)) only [go_sem]; refine ⟨_, _, of_int _ x 8 3 (by decide) (by decide), ?_⟩; (try simp only [go_sem]); with_reducible refine hK _ _ ?_; clear hK K)
    refine via ?_
    refine Goes.fin rfl (by simp (disch := (first | omega | (simp only [heapL_next, List.length_cons, List.length_nil, List.size_toArray, geo_len] <;> omega) | fail)) only [go_sem, resA, res1A, Try.results155] <;> rfl) ?_
    rfl
theorem of_does (S : St) (p m me : Nat) (steps : Nat) (N T : Nat) (k : Nat) (hp : S[p]? = some (.port m me steps)) (hN : N ≤ 256) (hk : k < 8 * N) :
    Does OF 148 #[prtV p, .agg (geoC N T), .int .i64 k] [] S (.tuple #[shV p N T (k / 8), .int .i64 ((k % 8 * 8 : Nat) : Int), .bool true]) S := by
  refine Does.mk Try.func148 rfl rfl ?clo ?hand ?_
  case clo => exact clo3 (pclo (hlt_of hp)) gclo iclo
  case hand => exact hand3' (sh_hand N T _ (hlt_of hp)) (Hand.plain rfl) (Hand.plain rfl)
  rw [Try.ntmps148]; simp only [List.size_toArray, List.length_cons, List.length_nil, List.replicate, List.cons_append, List.nil_append]
  have e1 : (k : Int).tdiv 8 = ((k / 8 : Nat) : Int) := tdiv_n k 8
  have e2 : (k : Int).tmod 8 = ((k % 8 : Nat) : Int) := tmod_n k 8
  refine via ?_
  ((first | refine qp1 rfl rfl fun K hK => ?_ | refine qp3 rfl rfl fun K hK => ?_); simp (disch := (first | omega | (simp only [sz] <;> omega) | fail)) only [go_sem]; refine ⟨_, _, qpu fun w => gPages_any N T w, ?_⟩; (try simp only [go_sem]); with_reducible refine hK _ _ ?_; clear hK K)
  refine viaF (And.intro e1 e2) ?_
  refine Goes.fin rfl (by simp (disch := (first | omega | (simp only [heapL_next, List.length_cons, List.length_nil, List.size_toArray, geo_len] <;> omega) | fail)) only [go_sem, resA, res1A, Try.results148] <;> rfl) ?_
  rfl
set_option maxHeartbeats 1000000 in
theorem sbits_does (S : St) (p m me : Nat) (steps : Nat) (ws : List UInt64) (bs : List UInt8) (N T : Nat) (x : Nat) (u : UInt64) (hp : S[p]? = some (.port m me steps)) (hm : S[m]? = some (.mem ws bs)) (hst : steps ≤ 100000000000) (hN : N ≤ 256) (hT : T ≤ 64) (hu : wAt ws (gat N T 8 x) = some u) :
    Does OF 143 #[shV p N T x] [] S (btOf u) (accS S p m me (steps + 1) ws bs) := by
  refine Does.mk Try.func143 rfl rfl ?clo ?hand ?_
  case clo => exact clo1 (sh_clo N T (hlt_of hp))
  case hand => exact Hand.plain (btV_plain _ _ _ _)
  rw [Try.ntmps143]; simp only [List.size_toArray, List.length_cons, List.length_nil, List.replicate, List.cons_append, List.nil_append]
  unfold shV
  refine via ?_
  ((first | refine qp1 rfl rfl fun K hK => ?_ | refine qp3 rfl rfl fun K hK => ?_); simp (disch := (first | omega | (simp only [sz] <;> omega) | fail)) only [go_sem]; refine ⟨_, _, qpu fun w => gBits_any N T x w hN hT, ?_⟩; (try simp only [go_sem]); with_reducible refine hK _ _ ?_; clear hK K)
  refine via ?_
  ((first | refine qp1 rfl rfl fun K hK => ?_ | refine qp3 rfl rfl fun K hK => ?_); simp (disch := (first | omega | (simp only [sz] <;> omega) | fail)) only [go_sem]; refine ⟨_, _, .load _ hp hm (by omega), ?_⟩; (try simp only [go_sem]); with_reducible refine hK _ _ ?_; clear hK K)
  rw [load_same, ld_w hu]
  refine via ?_
  ((first | refine qc1 rfl rfl fun K hK => ?_ | refine qc3 rfl rfl fun K hK => ?_); simp (disch := (first | omega | (simp only [sz] <;> omega) | fail)) only [go_sem]; refine ⟨_, _, bitsOf_does _ u, ?_⟩; (try simp only [go_sem]); with_reducible refine hK _ _ ?_; clear hK K)
  simp only [btOf, btV]
  refine via ?_
  refine Goes.fin rfl (by simp (disch := (first | omega | (simp only [heapL_next, List.length_cons, List.length_nil, List.size_toArray, geo_len] <;> omega) | fail)) only [go_sem, resA, res1A, Try.results143] <;> rfl) ?_
  rfl
theorem sis_t (S : St) (p N T x k : Nat) (hp : p < S.length) (hx : x < N) (hk : k < 4) :
    Does OF 141 #[shV p N T x, .int .i64 k] [] S (.bool true) S := by
  refine Does.mk Try.func141 rfl rfl ?clo ?hand ?_
  case clo => exact clo2 (sh_clo N T hp) iclo
  case hand => exact Hand.plain rfl
  rw [Try.ntmps141]; simp only [List.size_toArray, List.length_cons, List.length_nil, List.replicate, List.cons_append, List.nil_append]
  unfold shV
  refine via ?_
  ((first | refine qp1 rfl rfl fun K hK => ?_ | refine qp3 rfl rfl fun K hK => ?_); simp (disch := (first | omega | (simp only [sz] <;> omega) | fail)) only [go_sem]; refine ⟨_, _, qpu fun w => gPages_any N T w, ?_⟩; (try simp only [go_sem]); with_reducible refine hK _ _ ?_; clear hK K)
  refine via ?_
  refine Goes.fin rfl (by simp (disch := (first | omega | (simp only [heapL_next, List.length_cons, List.length_nil, List.size_toArray, geo_len] <;> omega) | fail)) only [go_sem, resA, res1A, Try.results141] <;> rfl) ?_
  rfl
set_option maxHeartbeats 1000000 in
theorem find_does (S : St) (p m me : Nat) (steps : Nat) (ws : List UInt64) (bs : List UInt8) (N T k : Nat) (u : UInt64) (hp : S[p]? = some (.port m me steps)) (hm : S[m]? = some (.mem ws bs)) (hst : steps ≤ 100000000000) (hN : N ≤ 256) (hT : T ≤ 64) (hk : k < 8 * N) (hu : wAt ws (gat N T 7 ((k / 8 : Nat) : Int)) = some u) :
    Does OF 134 #[prtV p, .agg (geoC N T), .int .i64 k] [] S (pgV (u.toNat / 2 ^ 0 % 2 ^ 3) (u.toNat / 2 ^ 3 % 2 ^ 10) (u.toNat / 2 ^ 13 % 2 ^ 2) (u.toNat / 2 ^ 16 % 2 ^ 7)) (accS S p m me (steps + 1) ws bs) := by
  refine Does.mk Try.func134 rfl rfl ?clo ?hand ?_
  case clo => exact clo3 (pclo (hlt_of hp)) gclo iclo
  case hand => exact Hand.plain (pgV_plain _ _ _ _)
  rw [Try.ntmps134]; simp only [List.size_toArray, List.length_cons, List.length_nil, List.replicate, List.cons_append, List.nil_append]
  refine via ?_
  ((first | refine qc1 rfl rfl fun K hK => ?_ | refine qc3 rfl rfl fun K hK => ?_); simp (disch := (first | omega | (simp only [sz] <;> omega) | fail)) only [go_sem]; refine ⟨_, _, of_does S p m me steps N T k hp hN hk, ?_⟩; (try simp only [go_sem]); with_reducible refine hK _ _ ?_; clear hK K)
  unfold shV
  refine via ?_
  ((first | refine qp1 rfl rfl fun K hK => ?_ | refine qp3 rfl rfl fun K hK => ?_); simp (disch := (first | omega | (simp only [sz] <;> omega) | fail)) only [go_sem]; refine ⟨_, _, qpu fun w => gPage_any N T (k / 8 : Nat) w hN hT, ?_⟩; (try simp only [go_sem]); with_reducible refine hK _ _ ?_; clear hK K)
  refine via ?_
  ((first | refine qp1 rfl rfl fun K hK => ?_ | refine qp3 rfl rfl fun K hK => ?_); simp (disch := (first | omega | (simp only [sz] <;> omega) | fail)) only [go_sem]; refine ⟨_, _, .load _ hp hm (by omega), ?_⟩; (try simp only [go_sem]); with_reducible refine hK _ _ ?_; clear hK K)
  rw [load_same, ld_w hu]
  refine via ?_
  ((first | refine qc1 rfl rfl fun K hK => ?_ | refine qc3 rfl rfl fun K hK => ?_); simp (disch := (first | omega | (simp only [sz] <;> omega) | fail)) only [go_sem]; refine ⟨_, _, pageOf_does _ u, ?_⟩; (try simp only [go_sem]); with_reducible refine hK _ _ ?_; clear hK K)
  repeat (first | refine Goes.reg ?_ | refine Goes.ctl2 rfl ?_ | ((first | refine qv1 rfl rfl rfl fun K hK => ?_ | refine qv3 rfl rfl rfl fun K hK => ?_ | refine qv2 rfl rfl rfl rfl rfl rfl fun K hK => ?_ | refine qv4 rfl rfl rfl rfl rfl rfl fun K hK => ?_ | refine qn1 rfl rfl rfl fun K hK => ?_ | refine qn3 rfl rfl rfl fun K hK => ?_ | refine qt1 rfl rfl rfl fun K hK => ?_ | refine qt3 rfl rfl rfl fun K hK => ?_); simp (disch := (first | omega | (simp only [sz] <;> omega) | fail)) only [go_sem, pgV]; with_reducible refine hK _ _ ?_; clear hK K) | refine At.nil rfl ?_ | refine RG.nil rfl ?_ | ((first | refine AtL.skipg rfl rfl rfl rfl rfl ?_ | refine RGL.skipg rfl rfl rfl rfl rfl ?_ | refine AtL.skipu rfl rfl rfl rfl ?_ | refine RGL.skipu rfl rfl rfl rfl ?_); simp only [putL, List.set_cons_zero, List.set_cons_succ]) | refine Goes.yes rfl ?_ | refine Goes.no rfl ?_ | refine Goes.drawR [] (by kernel_rfl) ?_)
  refine Goes.fin rfl (by simp (disch := (first | omega | (simp only [heapL_next, List.length_cons, List.length_nil, List.size_toArray, geo_len] <;> omega) | fail)) only [go_sem, resA, res1A, Try.results134] <;> rfl) ?_
  rfl
theorem tab_0 : (#[Value.int .i64 8, .int .i64 8, .int .i64 8, .int .i64 16, .int .i64 16, .int .i64 4, .int .i64 24, .int .i64 8, .int .i64 2, .int .i64 32, .int .i64 32, .int .i64 2]).extract 0 3 = #[Value.int .i64 8, Value.int .i64 8, Value.int .i64 8] := by simp [List.extract_toArray]
theorem tab_1 : (#[Value.int .i64 8, .int .i64 8, .int .i64 8, .int .i64 16, .int .i64 16, .int .i64 4, .int .i64 24, .int .i64 8, .int .i64 2, .int .i64 32, .int .i64 32, .int .i64 2]).extract 3 6 = #[Value.int .i64 16, Value.int .i64 16, Value.int .i64 4] := by simp [List.extract_toArray]
theorem tab_2 : (#[Value.int .i64 8, .int .i64 8, .int .i64 8, .int .i64 16, .int .i64 16, .int .i64 4, .int .i64 24, .int .i64 8, .int .i64 2, .int .i64 32, .int .i64 32, .int .i64 2]).extract 6 9 = #[Value.int .i64 24, Value.int .i64 8, Value.int .i64 2] := by simp [List.extract_toArray]
theorem tab_3 : (#[Value.int .i64 8, .int .i64 8, .int .i64 8, .int .i64 16, .int .i64 16, .int .i64 4, .int .i64 24, .int .i64 8, .int .i64 2, .int .i64 32, .int .i64 32, .int .i64 2]).extract 9 12 = #[Value.int .i64 32, Value.int .i64 32, Value.int .i64 2] := by simp [List.extract_toArray]
theorem table_any' (w : World) : Calls Try.prog 142 #[] w (Ret (.agg #[Value.int .i64 8, .int .i64 8, .int .i64 8, .int .i64 16, .int .i64 16, .int .i64 4, .int .i64 24, .int .i64 8, .int .i64 2, .int .i64 32, .int .i64 32, .int .i64 2]) (Ext [] w)) := table_any w
attribute [go_sem high] tab_0 tab_1 tab_2 tab_3
theorem blocks_8 (S : St) (s a : Nat) : Does OF 145 #[.agg #[.int .i64 s, .int .i64 a, .int .i64 8]] [] S (.int .u8 255) S := by
  refine Does.mk Try.func145 rfl rfl ?clo ?hand ?_
  case clo => exact clo1 (Clo.plain (by simp [plainB]))
  case hand => exact Hand.plain rfl
  rw [Try.ntmps145]; simp only [List.size_toArray, List.length_cons, List.length_nil, List.replicate, List.cons_append, List.nil_append]
  have e1 : IntKind.u8.wrap (1 * 2 ^ min 8 8) = 0 := by decide
  have e2 : IntKind.u8.wrap (0 - 1) = 255 := by decide
  refine viaF (And.intro e1 e2) ?_
  refine Goes.fin rfl (by simp (disch := (first | omega | (simp only [heapL_next, List.length_cons, List.length_nil, List.size_toArray, geo_len] <;> omega) | fail)) only [go_sem, resA, res1A, Try.results145] <;> rfl) ?_
  rfl
theorem blocks_4 (S : St) (s a : Nat) : Does OF 145 #[.agg #[.int .i64 s, .int .i64 a, .int .i64 4]] [] S (.int .u8 15) S := by
  refine Does.mk Try.func145 rfl rfl ?clo ?hand ?_
  case clo => exact clo1 (Clo.plain (by simp [plainB]))
  case hand => exact Hand.plain rfl
  rw [Try.ntmps145]; simp only [List.size_toArray, List.length_cons, List.length_nil, List.replicate, List.cons_append, List.nil_append]
  have e1 : IntKind.u8.wrap (1 * 2 ^ min 4 8) = 16 := by decide
  have e2 : IntKind.u8.wrap (16 - 1) = 15 := by decide
  refine viaF (And.intro e1 e2) ?_
  refine Goes.fin rfl (by simp (disch := (first | omega | (simp only [heapL_next, List.length_cons, List.length_nil, List.size_toArray, geo_len] <;> omega) | fail)) only [go_sem, resA, res1A, Try.results145] <;> rfl) ?_
  rfl
theorem blocks_2 (S : St) (s a : Nat) : Does OF 145 #[.agg #[.int .i64 s, .int .i64 a, .int .i64 2]] [] S (.int .u8 3) S := by
  refine Does.mk Try.func145 rfl rfl ?clo ?hand ?_
  case clo => exact clo1 (Clo.plain (by simp [plainB]))
  case hand => exact Hand.plain rfl
  rw [Try.ntmps145]; simp only [List.size_toArray, List.length_cons, List.length_nil, List.replicate, List.cons_append, List.nil_append]
  have e1 : IntKind.u8.wrap (1 * 2 ^ min 2 8) = 4 := by decide
  have e2 : IntKind.u8.wrap (4 - 1) = 3 := by decide
  refine viaF (And.intro e1 e2) ?_
  refine Goes.fin rfl (by simp (disch := (first | omega | (simp only [heapL_next, List.length_cons, List.length_nil, List.size_toArray, geo_len] <;> omega) | fail)) only [go_sem, resA, res1A, Try.results145] <;> rfl) ?_
  rfl
theorem grain_does (S : St) (p N T x y s a b : Nat) (hp : p < S.length) (hx : x ≤ 1000000) (hy : y ≤ 64) (hs : s ≤ 64) :
    Does OF 147 #[shV p N T x, .int .i64 y, .agg #[.int .i64 s, .int .i64 a, .int .i64 b]] [] S (.int .i64 ((x * 8 + y * s / 8 : Nat) : Int)) S := by
  refine Does.mk Try.func147 rfl rfl ?clo ?hand ?_
  case clo => exact clo3 (sh_clo N T hp) iclo (Clo.plain (by simp [plainB]))
  case hand => exact Hand.plain rfl
  rw [Try.ntmps147]; simp only [List.size_toArray, List.length_cons, List.length_nil, List.replicate, List.cons_append, List.nil_append]
  unfold shV
  have h1 : y * s ≤ 64 * 64 := Nat.mul_le_mul hy hs
  have e0 : (y : Int) * (s : Int) = ((y * s : Nat) : Int) := by push_cast; rfl
  have e1 : IntKind.i64.wrap ((y * s : Nat) : Int) = ((y * s : Nat) : Int) := by rw [wrap_i64 (by omega) (by omega)]
  have e2 : ((y * s : Nat) : Int).tdiv 8 = ((y * s / 8 : Nat) : Int) := tdiv_n _ 8
  have e3 : (x : Int) * 8 + ((y * s / 8 : Nat) : Int) = ((x * 8 + y * s / 8 : Nat) : Int) := by push_cast; rfl
  have e4 : IntKind.i64.wrap ((y * s / 8 : Nat) : Int) = ((y * s / 8 : Nat) : Int) := by rw [wrap_i64 (by omega) (by omega)]
  refine viaF (And.intro e0 (And.intro e1 (And.intro e2 (And.intro e3 e4)))) ?_
  refine Goes.fin rfl (by simp (disch := (first | omega | (simp only [heapL_next, List.length_cons, List.length_nil, List.size_toArray, geo_len] <;> omega) | fail)) only [go_sem, resA, res1A, Try.results147] <;> rfl) ?_
  rfl
def pgO (k n c o : Nat) : UInt64 := UInt64.ofNat (pgN k n c o)
theorem pgO_nat {k n c o : Nat} (hk : k < 8) (hn : n < 1024) (hc : c < 4) (ho : o < 128) : (pgO k n c o).toNat = pgN k n c o := by
  unfold pgO pgN; simp; omega
theorem pgO_int {k n c o : Nat} (hk : k < 8) (hn : n < 1024) (hc : c < 4) (ho : o < 128) : (pgN k n c o : Int) = ((pgO k n c o).toNat : Int) := by rw [pgO_nat hk hn hc ho]
def mapK (k : Nat) : Nat := match k with | 0 => 254 | 1 => 14 | _ => 2
set_option maxHeartbeats 2000000 in
theorem make_does (S : St) (p m me : Nat) (steps : Nat) (ws : List UInt64) (bs : List UInt8) (N T x k : Nat) (u : UInt64) (hp : S[p]? = some (.port m me steps)) (hm : S[m]? = some (.mem ws bs)) (hst : steps ≤ 100000000 ) (hN1 : 1 ≤ N) (hN : N ≤ 256) (hT : T ≤ 64) (hme : me < 128) (hx : x < N) (hk : k < 4)
    (hu : wAt (wS 2 (gat N T 7 x) (pgO 3 1 k me) 0 ws) (gat N T 8 x) = some u) (hv : u.toNat / 2 ^ 32 % 2 ^ 32 + 1 < 4294967296) :
    Does OF 128 #[prtV p, .agg (geoC N T), .int .i64 x, .int .i64 k] [] S (.int .i64 ((x * 8 : Nat) : Int))
      (accS S p m me (steps + 3) (wS 2 (gat N T 8 x) (btU (mapK k) true k (u.toNat / 2 ^ 32 % 2 ^ 32 + 1)) 0 (wS 2 (gat N T 7 x) (pgO 3 1 k me) 0 ws)) bs) := by
  have hne := hne_of hp hm
  obtain rfl | rfl | rfl | rfl : k = 0 ∨ k = 1 ∨ k = 2 ∨ k = 3 := by omega
  · refine Does.mk Try.func128 rfl rfl ?clo ?hand ?_
    case clo => exact clo4 (pclo (hlt_of hp)) gclo iclo iclo
    case hand => exact Hand.plain rfl
    rw [Try.ntmps128]; simp only [List.size_toArray, List.length_cons, List.length_nil, List.replicate, List.cons_append, List.nil_append]
    refine via ?_
    ((first | refine qc1 rfl rfl fun K hK => ?_ | refine qc3 rfl rfl fun K hK => ?_); simp (disch := (first | omega | (simp only [sz] <;> omega) | fail)) only [go_sem]; refine ⟨_, _, sis_t S p N T x 0 (hlt_of hp) hx (by decide), ?_⟩; (try simp only [go_sem]); with_reducible refine hK _ _ ?_; clear hK K)
    refine via ?_
    ((first | refine qp1 rfl rfl fun K hK => ?_ | refine qp3 rfl rfl fun K hK => ?_); simp (disch := (first | omega | (simp only [sz] <;> omega) | fail)) only [go_sem]; refine ⟨_, _, qpu fun w => table_any' w, ?_⟩; (try simp only [go_sem]); with_reducible refine hK _ _ ?_; clear hK K)
    refine via ?_
    ((first | refine qp1 rfl rfl fun K hK => ?_ | refine qp3 rfl rfl fun K hK => ?_); simp (disch := (first | omega | (simp only [sz] <;> omega) | fail)) only [go_sem]; refine ⟨_, _, qpu fun w => gPage_any N T x w hN hT, ?_⟩; (try simp only [go_sem]); with_reducible refine hK _ _ ?_; clear hK K)
    refine via ?_
    ((first | refine qp1 rfl rfl fun K hK => ?_ | refine qp3 rfl rfl fun K hK => ?_); simp (disch := (first | omega | (simp only [sz] <;> omega) | fail)) only [go_sem]; refine ⟨_, _, .self hp, ?_⟩; (try simp only [go_sem]); with_reducible refine hK _ _ ?_; clear hK K)
    refine via ?_
    ((first | refine qc1 rfl rfl fun K hK => ?_ | refine qc3 rfl rfl fun K hK => ?_); simp (disch := (first | omega | (simp only [sz] <;> omega) | fail)) only [go_sem]; refine ⟨_, _, pgWord_does _ 3 1 0 me (by decide) (by decide) (by decide) hme, ?_⟩; (try simp only [go_sem]); with_reducible refine hK _ _ ?_; clear hK K)
    rw [pgO_int (k := 3) (n := 1) (c := 0) (o := me) (by decide) (by decide) (by decide) hme]
    refine via ?_
    ((first | refine qp1 rfl rfl fun K hK => ?_ | refine qp3 rfl rfl fun K hK => ?_); simp (disch := (first | omega | (simp only [sz] <;> omega) | fail)) only [go_sem]; refine ⟨_, _, .store _ (pgO 3 1 0 me) hp hm (by omega), ?_⟩; (try simp only [go_sem]); with_reducible refine hK _ _ ?_; clear hK K)
    refine via ?_
    ((first | refine qc1 rfl rfl fun K hK => ?_ | refine qc3 rfl rfl fun K hK => ?_); simp (disch := (first | omega | (simp only [sz] <;> omega) | fail)) only [go_sem]; refine ⟨_, _, sbits_does _ p m me _ _ bs N T x u (acc_p hp hm) (acc_m hp hm) (by omega) hN hT hu, ?_⟩; (try simp only [go_sem]); with_reducible refine hK _ _ ?_; clear hK K)
    rw [acc_acc hne]
    simp only [btOf, btV]
    refine via ?_
    ((first | refine qp1 rfl rfl fun K hK => ?_ | refine qp3 rfl rfl fun K hK => ?_); simp (disch := (first | omega | (simp only [sz] <;> omega) | fail)) only [go_sem]; refine ⟨_, _, qpu fun w => gBits_any N T x w hN hT, ?_⟩; (try simp only [go_sem]); with_reducible refine hK _ _ ?_; clear hK K)
    refine via ?_
    ((first | refine qc1 rfl rfl fun K hK => ?_ | refine qc3 rfl rfl fun K hK => ?_); simp (disch := (first | omega | (simp only [sz] <;> omega) | fail)) only [go_sem]; refine ⟨_, _, blocks_8 _ 8 8, ?_⟩; (try simp only [go_sem]); with_reducible refine hK _ _ ?_; clear hK K)
    have e1 : IntKind.u32.wrap ((u.toNat / 2 ^ 32 % 2 ^ 32 : Nat) + 1 : Int) = ((u.toNat / 2 ^ 32 % 2 ^ 32 + 1 : Nat) : Int) := by rw [IntKind.wrap_u32]; omega
    have e2 : andNotZ .u8 255 1 = 254 := by decide
    refine viaF (And.intro e1 e2) ?_
    ((first | refine qc1 rfl rfl fun K hK => ?_ | refine qc3 rfl rfl fun K hK => ?_); simp (disch := (first | omega | (simp only [sz] <;> omega) | fail)) only [go_sem]; refine ⟨_, _, bWord_does _ 254 true 0 (u.toNat / 2 ^ 32 % 2 ^ 32 + 1) (by decide) (by decide) hv, ?_⟩; (try simp only [go_sem]); with_reducible refine hK _ _ ?_; clear hK K)
    refine via ?_
    ((first | refine qp1 rfl rfl fun K hK => ?_ | refine qp3 rfl rfl fun K hK => ?_); simp (disch := (first | omega | (simp only [sz] <;> omega) | fail)) only [go_sem]; refine ⟨_, _, .store _ (btU (mapK 0) true 0 (u.toNat / 2 ^ 32 % 2 ^ 32 + 1)) (acc_p hp hm) (acc_m hp hm) (by omega), ?_⟩; (try simp only [go_sem]); with_reducible refine hK _ _ ?_; clear hK K)
    rw [acc_acc hne]
    refine via ?_
    ((first | refine qc1 rfl rfl fun K hK => ?_ | refine qc3 rfl rfl fun K hK => ?_); simp (disch := (first | omega | (simp only [sz] <;> omega) | fail)) only [go_sem]; refine ⟨_, _, grain_does _ p N T x 0 8 8 8 (by simp [accS]; exact hlt_of hp) (by omega) (by decide) (by decide), ?_⟩; (try simp only [go_sem]); with_reducible refine hK _ _ ?_; clear hK K)
    refine via ?_
    refine Goes.fin rfl (by simp (disch := (first | omega | (simp only [heapL_next, List.length_cons, List.length_nil, List.size_toArray, geo_len] <;> omega) | fail)) only [go_sem, resA, res1A, Try.results128] <;> rfl) ?_
    simp
  · refine Does.mk Try.func128 rfl rfl ?clo ?hand ?_
    case clo => exact clo4 (pclo (hlt_of hp)) gclo iclo iclo
    case hand => exact Hand.plain rfl
    rw [Try.ntmps128]; simp only [List.size_toArray, List.length_cons, List.length_nil, List.replicate, List.cons_append, List.nil_append]
    refine via ?_
    ((first | refine qc1 rfl rfl fun K hK => ?_ | refine qc3 rfl rfl fun K hK => ?_); simp (disch := (first | omega | (simp only [sz] <;> omega) | fail)) only [go_sem]; refine ⟨_, _, sis_t S p N T x 1 (hlt_of hp) hx (by decide), ?_⟩; (try simp only [go_sem]); with_reducible refine hK _ _ ?_; clear hK K)
    refine via ?_
    ((first | refine qp1 rfl rfl fun K hK => ?_ | refine qp3 rfl rfl fun K hK => ?_); simp (disch := (first | omega | (simp only [sz] <;> omega) | fail)) only [go_sem]; refine ⟨_, _, qpu fun w => table_any' w, ?_⟩; (try simp only [go_sem]); with_reducible refine hK _ _ ?_; clear hK K)
    refine via ?_
    ((first | refine qp1 rfl rfl fun K hK => ?_ | refine qp3 rfl rfl fun K hK => ?_); simp (disch := (first | omega | (simp only [sz] <;> omega) | fail)) only [go_sem]; refine ⟨_, _, qpu fun w => gPage_any N T x w hN hT, ?_⟩; (try simp only [go_sem]); with_reducible refine hK _ _ ?_; clear hK K)
    refine via ?_
    ((first | refine qp1 rfl rfl fun K hK => ?_ | refine qp3 rfl rfl fun K hK => ?_); simp (disch := (first | omega | (simp only [sz] <;> omega) | fail)) only [go_sem]; refine ⟨_, _, .self hp, ?_⟩; (try simp only [go_sem]); with_reducible refine hK _ _ ?_; clear hK K)
    refine via ?_
    ((first | refine qc1 rfl rfl fun K hK => ?_ | refine qc3 rfl rfl fun K hK => ?_); simp (disch := (first | omega | (simp only [sz] <;> omega) | fail)) only [go_sem]; refine ⟨_, _, pgWord_does _ 3 1 1 me (by decide) (by decide) (by decide) hme, ?_⟩; (try simp only [go_sem]); with_reducible refine hK _ _ ?_; clear hK K)
    rw [pgO_int (k := 3) (n := 1) (c := 1) (o := me) (by decide) (by decide) (by decide) hme]
    refine via ?_
    ((first | refine qp1 rfl rfl fun K hK => ?_ | refine qp3 rfl rfl fun K hK => ?_); simp (disch := (first | omega | (simp only [sz] <;> omega) | fail)) only [go_sem]; refine ⟨_, _, .store _ (pgO 3 1 1 me) hp hm (by omega), ?_⟩; (try simp only [go_sem]); with_reducible refine hK _ _ ?_; clear hK K)
    refine via ?_
    ((first | refine qc1 rfl rfl fun K hK => ?_ | refine qc3 rfl rfl fun K hK => ?_); simp (disch := (first | omega | (simp only [sz] <;> omega) | fail)) only [go_sem]; refine ⟨_, _, sbits_does _ p m me _ _ bs N T x u (acc_p hp hm) (acc_m hp hm) (by omega) hN hT hu, ?_⟩; (try simp only [go_sem]); with_reducible refine hK _ _ ?_; clear hK K)
    rw [acc_acc hne]
    simp only [btOf, btV]
    refine via ?_
    ((first | refine qp1 rfl rfl fun K hK => ?_ | refine qp3 rfl rfl fun K hK => ?_); simp (disch := (first | omega | (simp only [sz] <;> omega) | fail)) only [go_sem]; refine ⟨_, _, qpu fun w => gBits_any N T x w hN hT, ?_⟩; (try simp only [go_sem]); with_reducible refine hK _ _ ?_; clear hK K)
    refine via ?_
    ((first | refine qc1 rfl rfl fun K hK => ?_ | refine qc3 rfl rfl fun K hK => ?_); simp (disch := (first | omega | (simp only [sz] <;> omega) | fail)) only [go_sem]; refine ⟨_, _, blocks_4 _ 16 16, ?_⟩; (try simp only [go_sem]); with_reducible refine hK _ _ ?_; clear hK K)
    have e1 : IntKind.u32.wrap ((u.toNat / 2 ^ 32 % 2 ^ 32 : Nat) + 1 : Int) = ((u.toNat / 2 ^ 32 % 2 ^ 32 + 1 : Nat) : Int) := by rw [IntKind.wrap_u32]; omega
    have e2 : andNotZ .u8 15 1 = 14 := by decide
    refine viaF (And.intro e1 e2) ?_
    ((first | refine qc1 rfl rfl fun K hK => ?_ | refine qc3 rfl rfl fun K hK => ?_); simp (disch := (first | omega | (simp only [sz] <;> omega) | fail)) only [go_sem]; refine ⟨_, _, bWord_does _ 14 true 1 (u.toNat / 2 ^ 32 % 2 ^ 32 + 1) (by decide) (by decide) hv, ?_⟩; (try simp only [go_sem]); with_reducible refine hK _ _ ?_; clear hK K)
    refine via ?_
    ((first | refine qp1 rfl rfl fun K hK => ?_ | refine qp3 rfl rfl fun K hK => ?_); simp (disch := (first | omega | (simp only [sz] <;> omega) | fail)) only [go_sem]; refine ⟨_, _, .store _ (btU (mapK 1) true 1 (u.toNat / 2 ^ 32 % 2 ^ 32 + 1)) (acc_p hp hm) (acc_m hp hm) (by omega), ?_⟩; (try simp only [go_sem]); with_reducible refine hK _ _ ?_; clear hK K)
    rw [acc_acc hne]
    refine via ?_
    ((first | refine qc1 rfl rfl fun K hK => ?_ | refine qc3 rfl rfl fun K hK => ?_); simp (disch := (first | omega | (simp only [sz] <;> omega) | fail)) only [go_sem]; refine ⟨_, _, grain_does _ p N T x 0 16 16 4 (by simp [accS]; exact hlt_of hp) (by omega) (by decide) (by decide), ?_⟩; (try simp only [go_sem]); with_reducible refine hK _ _ ?_; clear hK K)
    refine via ?_
    refine Goes.fin rfl (by simp (disch := (first | omega | (simp only [heapL_next, List.length_cons, List.length_nil, List.size_toArray, geo_len] <;> omega) | fail)) only [go_sem, resA, res1A, Try.results128] <;> rfl) ?_
    simp
  · refine Does.mk Try.func128 rfl rfl ?clo ?hand ?_
    case clo => exact clo4 (pclo (hlt_of hp)) gclo iclo iclo
    case hand => exact Hand.plain rfl
    rw [Try.ntmps128]; simp only [List.size_toArray, List.length_cons, List.length_nil, List.replicate, List.cons_append, List.nil_append]
    refine via ?_
    ((first | refine qc1 rfl rfl fun K hK => ?_ | refine qc3 rfl rfl fun K hK => ?_); simp (disch := (first | omega | (simp only [sz] <;> omega) | fail)) only [go_sem]; refine ⟨_, _, sis_t S p N T x 2 (hlt_of hp) hx (by decide), ?_⟩; (try simp only [go_sem]); with_reducible refine hK _ _ ?_; clear hK K)
    refine via ?_
    ((first | refine qp1 rfl rfl fun K hK => ?_ | refine qp3 rfl rfl fun K hK => ?_); simp (disch := (first | omega | (simp only [sz] <;> omega) | fail)) only [go_sem]; refine ⟨_, _, qpu fun w => table_any' w, ?_⟩; (try simp only [go_sem]); with_reducible refine hK _ _ ?_; clear hK K)
    refine via ?_
    ((first | refine qp1 rfl rfl fun K hK => ?_ | refine qp3 rfl rfl fun K hK => ?_); simp (disch := (first | omega | (simp only [sz] <;> omega) | fail)) only [go_sem]; refine ⟨_, _, qpu fun w => gPage_any N T x w hN hT, ?_⟩; (try simp only [go_sem]); with_reducible refine hK _ _ ?_; clear hK K)
    refine via ?_
    ((first | refine qp1 rfl rfl fun K hK => ?_ | refine qp3 rfl rfl fun K hK => ?_); simp (disch := (first | omega | (simp only [sz] <;> omega) | fail)) only [go_sem]; refine ⟨_, _, .self hp, ?_⟩; (try simp only [go_sem]); with_reducible refine hK _ _ ?_; clear hK K)
    refine via ?_
    ((first | refine qc1 rfl rfl fun K hK => ?_ | refine qc3 rfl rfl fun K hK => ?_); simp (disch := (first | omega | (simp only [sz] <;> omega) | fail)) only [go_sem]; refine ⟨_, _, pgWord_does _ 3 1 2 me (by decide) (by decide) (by decide) hme, ?_⟩; (try simp only [go_sem]); with_reducible refine hK _ _ ?_; clear hK K)
    rw [pgO_int (k := 3) (n := 1) (c := 2) (o := me) (by decide) (by decide) (by decide) hme]
    refine via ?_
    ((first | refine qp1 rfl rfl fun K hK => ?_ | refine qp3 rfl rfl fun K hK => ?_); simp (disch := (first | omega | (simp only [sz] <;> omega) | fail)) only [go_sem]; refine ⟨_, _, .store _ (pgO 3 1 2 me) hp hm (by omega), ?_⟩; (try simp only [go_sem]); with_reducible refine hK _ _ ?_; clear hK K)
    refine via ?_
    ((first | refine qc1 rfl rfl fun K hK => ?_ | refine qc3 rfl rfl fun K hK => ?_); simp (disch := (first | omega | (simp only [sz] <;> omega) | fail)) only [go_sem]; refine ⟨_, _, sbits_does _ p m me _ _ bs N T x u (acc_p hp hm) (acc_m hp hm) (by omega) hN hT hu, ?_⟩; (try simp only [go_sem]); with_reducible refine hK _ _ ?_; clear hK K)
    rw [acc_acc hne]
    simp only [btOf, btV]
    refine via ?_
    ((first | refine qp1 rfl rfl fun K hK => ?_ | refine qp3 rfl rfl fun K hK => ?_); simp (disch := (first | omega | (simp only [sz] <;> omega) | fail)) only [go_sem]; refine ⟨_, _, qpu fun w => gBits_any N T x w hN hT, ?_⟩; (try simp only [go_sem]); with_reducible refine hK _ _ ?_; clear hK K)
    refine via ?_
    ((first | refine qc1 rfl rfl fun K hK => ?_ | refine qc3 rfl rfl fun K hK => ?_); simp (disch := (first | omega | (simp only [sz] <;> omega) | fail)) only [go_sem]; refine ⟨_, _, blocks_2 _ 24 8, ?_⟩; (try simp only [go_sem]); with_reducible refine hK _ _ ?_; clear hK K)
    have e1 : IntKind.u32.wrap ((u.toNat / 2 ^ 32 % 2 ^ 32 : Nat) + 1 : Int) = ((u.toNat / 2 ^ 32 % 2 ^ 32 + 1 : Nat) : Int) := by rw [IntKind.wrap_u32]; omega
    have e2 : andNotZ .u8 3 1 = 2 := by decide
    refine viaF (And.intro e1 e2) ?_
    ((first | refine qc1 rfl rfl fun K hK => ?_ | refine qc3 rfl rfl fun K hK => ?_); simp (disch := (first | omega | (simp only [sz] <;> omega) | fail)) only [go_sem]; refine ⟨_, _, bWord_does _ 2 true 2 (u.toNat / 2 ^ 32 % 2 ^ 32 + 1) (by decide) (by decide) hv, ?_⟩; (try simp only [go_sem]); with_reducible refine hK _ _ ?_; clear hK K)
    refine via ?_
    ((first | refine qp1 rfl rfl fun K hK => ?_ | refine qp3 rfl rfl fun K hK => ?_); simp (disch := (first | omega | (simp only [sz] <;> omega) | fail)) only [go_sem]; refine ⟨_, _, .store _ (btU (mapK 2) true 2 (u.toNat / 2 ^ 32 % 2 ^ 32 + 1)) (acc_p hp hm) (acc_m hp hm) (by omega), ?_⟩; (try simp only [go_sem]); with_reducible refine hK _ _ ?_; clear hK K)
    rw [acc_acc hne]
    refine via ?_
    ((first | refine qc1 rfl rfl fun K hK => ?_ | refine qc3 rfl rfl fun K hK => ?_); simp (disch := (first | omega | (simp only [sz] <;> omega) | fail)) only [go_sem]; refine ⟨_, _, grain_does _ p N T x 0 24 8 2 (by simp [accS]; exact hlt_of hp) (by omega) (by decide) (by decide), ?_⟩; (try simp only [go_sem]); with_reducible refine hK _ _ ?_; clear hK K)
    refine via ?_
    refine Goes.fin rfl (by simp (disch := (first | omega | (simp only [heapL_next, List.length_cons, List.length_nil, List.size_toArray, geo_len] <;> omega) | fail)) only [go_sem, resA, res1A, Try.results128] <;> rfl) ?_
    simp
  · refine Does.mk Try.func128 rfl rfl ?clo ?hand ?_
    case clo => exact clo4 (pclo (hlt_of hp)) gclo iclo iclo
    case hand => exact Hand.plain rfl
    rw [Try.ntmps128]; simp only [List.size_toArray, List.length_cons, List.length_nil, List.replicate, List.cons_append, List.nil_append]
    refine via ?_
    ((first | refine qc1 rfl rfl fun K hK => ?_ | refine qc3 rfl rfl fun K hK => ?_); simp (disch := (first | omega | (simp only [sz] <;> omega) | fail)) only [go_sem]; refine ⟨_, _, sis_t S p N T x 3 (hlt_of hp) hx (by decide), ?_⟩; (try simp only [go_sem]); with_reducible refine hK _ _ ?_; clear hK K)
    refine via ?_
    ((first | refine qp1 rfl rfl fun K hK => ?_ | refine qp3 rfl rfl fun K hK => ?_); simp (disch := (first | omega | (simp only [sz] <;> omega) | fail)) only [go_sem]; refine ⟨_, _, qpu fun w => table_any' w, ?_⟩; (try simp only [go_sem]); with_reducible refine hK _ _ ?_; clear hK K)
    refine via ?_
    ((first | refine qp1 rfl rfl fun K hK => ?_ | refine qp3 rfl rfl fun K hK => ?_); simp (disch := (first | omega | (simp only [sz] <;> omega) | fail)) only [go_sem]; refine ⟨_, _, qpu fun w => gPage_any N T x w hN hT, ?_⟩; (try simp only [go_sem]); with_reducible refine hK _ _ ?_; clear hK K)
    refine via ?_
    ((first | refine qp1 rfl rfl fun K hK => ?_ | refine qp3 rfl rfl fun K hK => ?_); simp (disch := (first | omega | (simp only [sz] <;> omega) | fail)) only [go_sem]; refine ⟨_, _, .self hp, ?_⟩; (try simp only [go_sem]); with_reducible refine hK _ _ ?_; clear hK K)
    refine via ?_
    ((first | refine qc1 rfl rfl fun K hK => ?_ | refine qc3 rfl rfl fun K hK => ?_); simp (disch := (first | omega | (simp only [sz] <;> omega) | fail)) only [go_sem]; refine ⟨_, _, pgWord_does _ 3 1 3 me (by decide) (by decide) (by decide) hme, ?_⟩; (try simp only [go_sem]); with_reducible refine hK _ _ ?_; clear hK K)
    rw [pgO_int (k := 3) (n := 1) (c := 3) (o := me) (by decide) (by decide) (by decide) hme]
    refine via ?_
    ((first | refine qp1 rfl rfl fun K hK => ?_ | refine qp3 rfl rfl fun K hK => ?_); simp (disch := (first | omega | (simp only [sz] <;> omega) | fail)) only [go_sem]; refine ⟨_, _, .store _ (pgO 3 1 3 me) hp hm (by omega), ?_⟩; (try simp only [go_sem]); with_reducible refine hK _ _ ?_; clear hK K)
    refine via ?_
    ((first | refine qc1 rfl rfl fun K hK => ?_ | refine qc3 rfl rfl fun K hK => ?_); simp (disch := (first | omega | (simp only [sz] <;> omega) | fail)) only [go_sem]; refine ⟨_, _, sbits_does _ p m me _ _ bs N T x u (acc_p hp hm) (acc_m hp hm) (by omega) hN hT hu, ?_⟩; (try simp only [go_sem]); with_reducible refine hK _ _ ?_; clear hK K)
    rw [acc_acc hne]
    simp only [btOf, btV]
    refine via ?_
    ((first | refine qp1 rfl rfl fun K hK => ?_ | refine qp3 rfl rfl fun K hK => ?_); simp (disch := (first | omega | (simp only [sz] <;> omega) | fail)) only [go_sem]; refine ⟨_, _, qpu fun w => gBits_any N T x w hN hT, ?_⟩; (try simp only [go_sem]); with_reducible refine hK _ _ ?_; clear hK K)
    refine via ?_
    ((first | refine qc1 rfl rfl fun K hK => ?_ | refine qc3 rfl rfl fun K hK => ?_); simp (disch := (first | omega | (simp only [sz] <;> omega) | fail)) only [go_sem]; refine ⟨_, _, blocks_2 _ 32 32, ?_⟩; (try simp only [go_sem]); with_reducible refine hK _ _ ?_; clear hK K)
    have e1 : IntKind.u32.wrap ((u.toNat / 2 ^ 32 % 2 ^ 32 : Nat) + 1 : Int) = ((u.toNat / 2 ^ 32 % 2 ^ 32 + 1 : Nat) : Int) := by rw [IntKind.wrap_u32]; omega
    have e2 : andNotZ .u8 3 1 = 2 := by decide
    refine viaF (And.intro e1 e2) ?_
    ((first | refine qc1 rfl rfl fun K hK => ?_ | refine qc3 rfl rfl fun K hK => ?_); simp (disch := (first | omega | (simp only [sz] <;> omega) | fail)) only [go_sem]; refine ⟨_, _, bWord_does _ 2 true 3 (u.toNat / 2 ^ 32 % 2 ^ 32 + 1) (by decide) (by decide) hv, ?_⟩; (try simp only [go_sem]); with_reducible refine hK _ _ ?_; clear hK K)
    refine via ?_
    ((first | refine qp1 rfl rfl fun K hK => ?_ | refine qp3 rfl rfl fun K hK => ?_); simp (disch := (first | omega | (simp only [sz] <;> omega) | fail)) only [go_sem]; refine ⟨_, _, .store _ (btU (mapK 3) true 3 (u.toNat / 2 ^ 32 % 2 ^ 32 + 1)) (acc_p hp hm) (acc_m hp hm) (by omega), ?_⟩; (try simp only [go_sem]); with_reducible refine hK _ _ ?_; clear hK K)
    rw [acc_acc hne]
    refine via ?_
    ((first | refine qc1 rfl rfl fun K hK => ?_ | refine qc3 rfl rfl fun K hK => ?_); simp (disch := (first | omega | (simp only [sz] <;> omega) | fail)) only [go_sem]; refine ⟨_, _, grain_does _ p N T x 0 32 32 2 (by simp [accS]; exact hlt_of hp) (by omega) (by decide) (by decide), ?_⟩; (try simp only [go_sem]); with_reducible refine hK _ _ ?_; clear hK K)
    refine via ?_
    refine Goes.fin rfl (by simp (disch := (first | omega | (simp only [heapL_next, List.length_cons, List.length_nil, List.size_toArray, geo_len] <;> omega) | fail)) only [go_sem, resA, res1A, Try.results128] <;> rfl) ?_
    simp
end Go.Proofs.Ytceddijolfpppaa
namespace Go.Proofs.Ytceddijolfpppaa
open Go Go.RowKit
set_option linter.unusedSimpArgs false
set_option linter.unusedVariables false
def sU (k s o v : Nat) : UInt64 := UInt64.ofNat (sN k s o v)
theorem sU_nat {k s o v : Nat} (hk : k < 4) (hs : s < 65536) (ho : o < 4096) (hv : v < 4294967296) : (sU k s o v).toNat = sN k s o v := by
  have := sN_lt hk hs ho hv
  unfold sU
  simp
  omega
theorem sU_int {k s o v : Nat} (hk : k < 4) (hs : s < 65536) (ho : o < 4096) (hv : v < 4294967296) : ((sU k s o v).toNat : Int) = (sN k s o v : Int) := by rw [sU_nat hk hs ho hv]
theorem gState_at {N T k : Nat} (hN : 1 ≤ N) (hk : k < N * 8) : gat N T 11 k = ((gb N T 11 + k : Nat) : Int) := by
  have e : gb N T 12 = gb N T 11 + N * 8 := by unfold gb; rw [if_neg (by omega), if_neg (by omega)]; rfl
  rw [gat_in N T 11 (by omega) (by rw [e]; omega)]; push_cast; rfl
theorem gSerial_at {N T t : Nat} (hN : 1 ≤ N) (ht : t < T) : gat N T 6 t = ((gb N T 6 + t : Nat) : Int) := by
  have e : gb N T 7 = gb N T 6 + T := by unfold gb; rw [if_neg (by omega), if_neg (by omega)]; rfl
  rw [gat_in N T 6 (by omega) (by rw [e]; omega)]; push_cast; rfl
theorem ne_m1 {n : Int} (h : 0 ≤ n) : (n == -1) = false := by rw [beq_eq_false_iff_ne]; omega
theorem none1_f (S : St) (p m me : Nat) (steps : Nat) (N T : Nat) (k : Int) (hp : S[p]? = some (.port m me steps)) (hN : N ≤ 256) (hT : T ≤ 64) (h1 : 0 ≤ gat N T 6 me) (h2 : 0 ≤ gat N T 11 k) :
    DoesX OF 91 #[prtV p, .agg (geoC N T), .slice (some ⟨0, 0, none⟩) 1 1] [numB .i64 3 [k]] S (.bool false) [numB .i64 3 [k]] [] S := by
  refine DoesX.mk Try.func91 rfl rfl ?clo ?rows ?_
  case clo => exact clo3 (pclo (hlt_of hp)) gclo (clo_s0 (by simp))
  case rows => exact plain_rows (by simp [numB, numRow, plainB])
  rw [Try.ntmps91]; simp only [List.size_toArray, List.length_cons, List.length_nil, List.replicate, List.cons_append, List.nil_append]
  simp only [numB, numRow, List.map_cons, List.map_nil]
  have e1 := ne_m1 h1
  have e2 := ne_m1 h2
  refine viaLF (And.intro e1 e2) ?_
  ((first | refine qp1 rfl rfl fun K hK => ?_ | refine qp3 rfl rfl fun K hK => ?_); simp (disch := (first | omega | (simp only [sz] <;> omega) | fail)) only [go_sem]; refine ⟨_, _, .self hp, ?_⟩; (try simp only [go_sem]); with_reducible refine hK _ _ ?_; clear hK K)
  refine viaLF (And.intro e1 e2) ?_
  ((first | refine qp1 rfl rfl fun K hK => ?_ | refine qp3 rfl rfl fun K hK => ?_); simp (disch := (first | omega | (simp only [sz] <;> omega) | fail)) only [go_sem]; refine ⟨_, _, qpu fun w => gSerial_any N T me w hN hT, ?_⟩; (try simp only [go_sem]); with_reducible refine hK _ _ ?_; clear hK K)
  refine viaLF (And.intro e1 e2) ?_
  ((first | refine qp1 rfl rfl fun K hK => ?_ | refine qp3 rfl rfl fun K hK => ?_); simp (disch := (first | omega | (simp only [sz] <;> omega) | fail)) only [go_sem]; refine ⟨_, _, qpu fun w => gState_any N T k w hN hT, ?_⟩; (try simp only [go_sem]); with_reducible refine hK _ _ ?_; clear hK K)
  refine viaLF (And.intro e1 e2) ?_
  refine Goes.finS rfl (by simp (disch := (first | omega | (simp only [heapL_next, List.length_cons, List.length_nil, List.size_toArray, geo_len] <;> omega) | fail)) only [go_sem, resA, res1A, Try.results91] <;> rfl) ?_ rfl ?_
  · rfl
  · exact Clo.plain rfl
def verN (x : UInt64) (me : Nat) : Nat := (x.toNat + 1) * 64 + me
set_option maxHeartbeats 1000000 in
theorem serial_does (S : St) (p m me : Nat) (steps : Nat) (ws : List UInt64) (bs : List UInt8) (N T : Nat) (x : UInt64) (hp : S[p]? = some (.port m me steps)) (hm : S[m]? = some (.mem ws bs)) (hs : steps ≤ 100000000000) (hN : N ≤ 256) (hT : T ≤ 64) (h : wAt ws (gat N T 6 me) = some x) (hx : x.toNat ≤ 1000000) (hme : me < 64) :
    Does OF 92 #[prtV p, .agg (geoC N T)] [] S (.int .u32 (verN x me : Int)) (accS S p m me (steps + 1) (wS 4 (gat N T 6 me) 1 0 ws) bs) := by
  have hne := hne_of hp hm
  refine Does.mk Try.func92 rfl rfl ?clo ?hand ?_
  case clo => exact clo2 (pclo (hlt_of hp)) gclo
  case hand => exact Hand.plain rfl
  rw [Try.ntmps92]; simp only [List.size_toArray, List.length_cons, List.length_nil, List.replicate, List.cons_append, List.nil_append]
  have e0 : wT 4 (gat N T 6 me) 1 ws = x := by unfold wT; rw [h]; rfl
  have e1 : IntKind.u32.wrap (x.toNat : Int) = (x.toNat : Int) := by rw [IntKind.wrap_u32]; omega
  have e2 : IntKind.u32.wrap ((x.toNat : Int) + 1) = ((x.toNat + 1 : Nat) : Int) := by rw [IntKind.wrap_u32]; omega
  have e3 : IntKind.u32.wrap (((x.toNat + 1 : Nat) : Int) * 64) = (((x.toNat + 1) * 64 : Nat) : Int) := by rw [IntKind.wrap_u32]; omega
  have e4 : IntKind.u32.wrap (me : Int) = (me : Int) := by rw [IntKind.wrap_u32]; omega
  have e5 : IntKind.u32.wrap ((((x.toNat + 1) * 64 : Nat) : Int) + (me : Int)) = (verN x me : Int) := by rw [IntKind.wrap_u32]; unfold verN; omega
  refine via ?_
  ((first | refine qp1 rfl rfl fun K hK => ?_ | refine qp3 rfl rfl fun K hK => ?_); simp (disch := (first | omega | (simp only [sz] <;> omega) | fail)) only [go_sem]; refine ⟨_, _, .self hp, ?_⟩; (try simp only [go_sem]); with_reducible refine hK _ _ ?_; clear hK K)
  refine via ?_
  ((first | refine qp1 rfl rfl fun K hK => ?_ | refine qp3 rfl rfl fun K hK => ?_); simp (disch := (first | omega | (simp only [sz] <;> omega) | fail)) only [go_sem]; refine ⟨_, _, qpu fun w => gSerial_any N T me w hN hT, ?_⟩; (try simp only [go_sem]); with_reducible refine hK _ _ ?_; clear hK K)
  refine via ?_
  ((first | refine qp1 rfl rfl fun K hK => ?_ | refine qp3 rfl rfl fun K hK => ?_); simp (disch := (first | omega | (simp only [sz] <;> omega) | fail)) only [go_sem]; refine ⟨_, _, .add _ 1 hp hm (by omega), ?_⟩; (try simp only [go_sem]); with_reducible refine hK _ _ ?_; clear hK K)
  rw [e0]
  refine viaF (And.intro e1 (And.intro e2 e3)) ?_
  ((first | refine qp1 rfl rfl fun K hK => ?_ | refine qp3 rfl rfl fun K hK => ?_); simp (disch := (first | omega | (simp only [sz] <;> omega) | fail)) only [go_sem]; refine ⟨_, _, .self (acc_p hp hm), ?_⟩; (try simp only [go_sem]); with_reducible refine hK _ _ ?_; clear hK K)
  refine viaF (And.intro e4 e5) ?_
  refine Goes.fin rfl (by simp (disch := (first | omega | (simp only [heapL_next, List.length_cons, List.length_nil, List.size_toArray, geo_len] <;> omega) | fail)) only [go_sem, resA, res1A, Try.results92] <;> rfl) ?_
  rfl
theorem sU_parts {k s o v : Nat} (hk : k < 4) (hs : s < 65536) (ho : o < 4096) (hv : v < 4294967296) : (sU k s o v).toNat / 2 ^ 0 % 2 ^ 2 = k ∧ (sU k s o v).toNat / 2 ^ 2 % 2 ^ 16 = s ∧ (sU k s o v).toNat / 2 ^ 18 % 2 ^ 12 = o ∧ (sU k s o v).toNat / 2 ^ 32 % 2 ^ 32 = v := by
  rw [sU_nat hk hs ho hv]
  unfold sN
  omega
theorem stateOf_sU (S : St) {k s o v : Nat} (hk : k < 4) (hs : s < 65536) (ho : o < 4096) (hv : v < 4294967296) : Does OF 94 #[.int .u64 ((sU k s o v).toNat : Int)] [] S (stV k s o v) S := by
  have h := stateOf_does S (sU k s o v)
  obtain ⟨h1, h2, h3, h4⟩ := sU_parts hk hs ho hv
  rw [h1, h2, h3, h4] at h
  exact h
theorem stateOf_zero (S : St) : Does OF 94 #[.int .u64 (((0 : UInt64).toNat : Nat) : Int)] [] S (stV 0 0 0 0) S := stateOf_does S 0
theorem sWord_sU (S : St) {k s o v : Nat} (hk : k < 4) (hs : s < 65536) (ho : o < 4096) (hv : v < 4294967296) : Does OF 93 #[stV k s o v] [] S (.int .u64 ((sU k s o v).toNat : Int)) S := by
  rw [sU_int hk hs ho hv]
  exact sWord_does S k s o v hk hs ho hv
set_option maxHeartbeats 2000000 in
theorem birth_does (S : St) (p m me : Nat) (steps : Nat) (ws : List UInt64) (bs : List UInt8) (N T k s : Nat) (x : UInt64) (hp : S[p]? = some (.port m me steps)) (hm : S[m]? = some (.mem ws bs)) (hst : steps ≤ 100000000000) (hN : N ≤ 256) (hT : T ≤ 64) (h : wAt ws (gat N T 6 me) = some x) (hx : x.toNat ≤ 1000000) (hme : me < 64)
    (h1 : 0 ≤ gat N T 6 me) (h2 : 0 ≤ gat N T 11 k) (hs : s < 65536) :
    Does OF 21 #[prtV p, .agg (geoC N T), .int .i64 k, .int .i64 s] [] S (.tuple #[]) (accS S p m me (steps + 2) (wS 2 (gat N T 11 k) (sU 1 s 0 (verN x me)) 0 (wS 4 (gat N T 6 me) 1 0 ws)) bs) := by
  have hne := hne_of hp hm
  have hv : verN x me < 4294967296 := by unfold verN; omega
  refine Does.mk Try.func21 rfl rfl ?clo ?hand ?_
  case clo => exact clo4 (pclo (hlt_of hp)) gclo iclo iclo
  case hand => exact Hand.plain (by simp [plainB])
  rw [Try.ntmps21]; simp only [List.size_toArray, List.length_cons, List.length_nil, List.replicate, List.cons_append, List.nil_append]
  refine via ?_
  ((first | refine At.callX [1] rfl rfl rfl (by decide) rfl (fun K hK => ?_) | refine RG.callX [1] rfl rfl rfl rfl (by decide) (fun K hK => ?_)); simp (disch := (first | omega | (simp only [heapL_next, List.length_cons, List.length_nil, List.size_toArray, geo_len] <;> omega) | fail)) only [go_sem]; refine ⟨_, _, _, _, _, _, none1_f S p m me steps N T k hp hN hT h1 h2, by first | rfl | simp (disch := (first | omega | (simp only [heapL_next, List.length_cons, List.length_nil, List.size_toArray, geo_len] <;> omega) | fail)) only [go_sem], by ((repeat (refine ⟨⟨_, rfl, rfl, ?_, (by first | exact .inr rfl | exact .inl rfl), (by first | exact fun h => h | exact fun _ => rfl | (intro h; cases h))⟩, ?_⟩; · first | exact plain_map numRow_plain | (simp [up_prt]; done) | exact plain_map (by simp [plainB]; done) | simp [up_0, up_1, up_2, up_00, up_base, up_slack, adr])); exact trivial), by first | exact ⟨rfl, rfl⟩ | rfl, ?_⟩; (try simp only [go_sem]); (first | refine hK _ _ _ ?_ | refine hK _ _ _ _ ?_); clear hK K)
  simp only [numB, numRow, List.map_cons, List.map_nil, reduceCtorEq, if_false, ↓reduceIte]
  refine via ?_
  ((first | refine qc1 rfl rfl fun K hK => ?_ | refine qc3 rfl rfl fun K hK => ?_); simp (disch := (first | omega | (simp only [sz] <;> omega) | fail)) only [go_sem]; refine ⟨_, _, serial_does S p m me steps ws bs N T x hp hm hst hN hT h hx hme, ?_⟩; (try simp only [go_sem]); with_reducible refine hK _ _ ?_; clear hK K)
  refine via ?_
  ((first | refine qp1 rfl rfl fun K hK => ?_ | refine qp3 rfl rfl fun K hK => ?_); simp (disch := (first | omega | (simp only [sz] <;> omega) | fail)) only [go_sem]; refine ⟨_, _, qpu fun w => gState_any N T k w hN hT, ?_⟩; (try simp only [go_sem]); with_reducible refine hK _ _ ?_; clear hK K)
  refine via ?_
  ((first | refine qc1 rfl rfl fun K hK => ?_ | refine qc3 rfl rfl fun K hK => ?_); simp (disch := (first | omega | (simp only [sz] <;> omega) | fail)) only [go_sem]; refine ⟨_, _, sWord_sU _ (k := 1) (s := s) (o := 0) (v := verN x me) (by decide) hs (by decide) hv, ?_⟩; (try simp only [go_sem]); with_reducible refine hK _ _ ?_; clear hK K)
  refine via ?_
  ((first | refine qp1 rfl rfl fun K hK => ?_ | refine qp3 rfl rfl fun K hK => ?_); simp (disch := (first | omega | (simp only [sz] <;> omega) | fail)) only [go_sem]; refine ⟨_, _, .store _ (sU 1 s 0 (verN x me)) (acc_p hp hm) (acc_m hp hm) (by omega), ?_⟩; (try simp only [go_sem]); with_reducible refine hK _ _ ?_; clear hK K)
  rw [acc_acc hne]
  refine via ?_
  refine Goes.fin rfl (by simp (disch := (first | omega | (simp only [heapL_next, List.length_cons, List.length_nil, List.size_toArray, geo_len] <;> omega) | fail)) only [go_sem, resA, res1A, Try.results21] <;> rfl) ?_
  rfl
def seV (k s o v : Nat) (live : Bool) (lin : Nat) : Value := .agg #[.int .i64 k, .int .i64 s, .int .i64 o, .int .u32 v, .bool live, .int .i64 lin]
theorem seV_plain (k s o v : Nat) (live : Bool) (lin : Nat) : plainB (seV k s o v live lin) = true := by simp [seV, plainB]
theorem load_w {ws : List UInt64} {n : Int} {x : UInt64} (h : wAt ws n = some x) : wT 1 n 0 ws = x := by unfold wT; rw [h]; rfl
set_option maxHeartbeats 2000000 in
theorem look_live (S : St) (p m me : Nat) (steps : Nat) (ws : List UInt64) (bs : List UInt8) (N T k s o v : Nat) (hp : S[p]? = some (.port m me steps)) (hm : S[m]? = some (.mem ws bs)) (hst : steps ≤ 100000000000) (hN : N ≤ 256) (hT : T ≤ 64) (h1 : 0 ≤ gat N T 6 me) (h2 : 0 ≤ gat N T 11 k)
    (hs : s < 65536) (ho : o < 4096) (hv : v < 4294967296) (hw : wAt ws (gat N T 11 k) = some (sU 1 s o v)) :
    Does OF 22 #[prtV p, .agg (geoC N T), .int .i64 k] [] S (seV 1 s o v true (steps + 1)) (accS S p m me (steps + 1) ws bs) := by
  have hne := hne_of hp hm
  refine Does.mk Try.func22 rfl rfl ?clo ?hand ?_
  case clo => exact clo3 (pclo (hlt_of hp)) gclo iclo
  case hand => exact Hand.plain (seV_plain _ _ _ _ _ _)
  rw [Try.ntmps22]; simp only [List.size_toArray, List.length_cons, List.length_nil, List.replicate, List.cons_append, List.nil_append]
  refine via ?_
  ((first | refine At.callX [2] rfl rfl rfl (by decide) rfl (fun K hK => ?_) | refine RG.callX [2] rfl rfl rfl rfl (by decide) (fun K hK => ?_)); simp (disch := (first | omega | (simp only [heapL_next, List.length_cons, List.length_nil, List.size_toArray, geo_len] <;> omega) | fail)) only [go_sem]; refine ⟨_, _, _, _, _, _, none1_f S p m me steps N T k hp hN hT h1 h2, by first | rfl | simp (disch := (first | omega | (simp only [heapL_next, List.length_cons, List.length_nil, List.size_toArray, geo_len] <;> omega) | fail)) only [go_sem], by ((repeat (refine ⟨⟨_, rfl, rfl, ?_, (by first | exact .inr rfl | exact .inl rfl), (by first | exact fun h => h | exact fun _ => rfl | (intro h; cases h))⟩, ?_⟩; · first | exact plain_map numRow_plain | (simp [up_prt]; done) | exact plain_map (by simp [plainB]; done) | simp [up_0, up_1, up_2, up_00, up_base, up_slack, adr])); exact trivial), by first | exact ⟨rfl, rfl⟩ | rfl, ?_⟩; (try simp only [go_sem]); (first | refine hK _ _ _ ?_ | refine hK _ _ _ _ ?_); clear hK K)
  simp only [numB, numRow, List.map_cons, List.map_nil, reduceCtorEq, if_false, ↓reduceIte]
  refine viaL ?_
  ((first | refine qp1 rfl rfl fun K hK => ?_ | refine qp3 rfl rfl fun K hK => ?_); simp (disch := (first | omega | (simp only [sz] <;> omega) | fail)) only [go_sem]; refine ⟨_, _, qpu fun w => gState_any N T k w hN hT, ?_⟩; (try simp only [go_sem]); with_reducible refine hK _ _ ?_; clear hK K)
  refine viaL ?_
  ((first | refine qp1 rfl rfl fun K hK => ?_ | refine qp3 rfl rfl fun K hK => ?_); simp (disch := (first | omega | (simp only [sz] <;> omega) | fail)) only [go_sem]; refine ⟨_, _, .load _ hp hm (by omega), ?_⟩; (try simp only [go_sem]); with_reducible refine hK _ _ ?_; clear hK K)
  rw [load_same, load_w hw]
  refine viaL ?_
  ((first | refine qp1 rfl rfl fun K hK => ?_ | refine qp3 rfl rfl fun K hK => ?_); simp (disch := (first | omega | (simp only [sz] <;> omega) | fail)) only [go_sem]; refine ⟨_, _, .steps (acc_p hp hm), ?_⟩; (try simp only [go_sem]); with_reducible refine hK _ _ ?_; clear hK K)
  refine viaL ?_
  ((first | refine qc1 rfl rfl fun K hK => ?_ | refine qc3 rfl rfl fun K hK => ?_); simp (disch := (first | omega | (simp only [sz] <;> omega) | fail)) only [go_sem]; refine ⟨_, _, stateOf_sU _ (k := 1) (by decide) hs ho hv, ?_⟩; (try simp only [go_sem]); with_reducible refine hK _ _ ?_; clear hK K)
  repeat (first | refine Goes.loop ?_ | refine Goes.inLoop ?_ | refine Goes.reg ?_ | refine Goes.ctl2 rfl ?_ | ((first | refine qv1 rfl rfl rfl fun K hK => ?_ | refine qv3 rfl rfl rfl fun K hK => ?_ | refine qv2 rfl rfl rfl rfl rfl rfl fun K hK => ?_ | refine qv4 rfl rfl rfl rfl rfl rfl fun K hK => ?_ | refine qn1 rfl rfl rfl fun K hK => ?_ | refine qn3 rfl rfl rfl fun K hK => ?_ | refine qt1 rfl rfl rfl fun K hK => ?_ | refine qt3 rfl rfl rfl fun K hK => ?_); simp (disch := (first | omega | (simp only [sz] <;> omega) | fail)) only [go_sem, stV]; with_reducible refine hK _ _ ?_; clear hK K) | refine At.nil rfl ?_ | refine RG.nil rfl ?_ | ((first | refine AtL.skipg rfl rfl rfl rfl rfl ?_ | refine RGL.skipg rfl rfl rfl rfl rfl ?_ | refine AtL.skipu rfl rfl rfl rfl ?_ | refine RGL.skipu rfl rfl rfl rfl ?_); simp only [putL, List.set_cons_zero, List.set_cons_succ]) | refine Goes.yes rfl ?_ | refine Goes.no rfl ?_ | refine Goes.drawR [] (by kernel_rfl) ?_)
  refine Goes.fin rfl (by simp (disch := (first | omega | (simp only [heapL_next, List.length_cons, List.length_nil, List.size_toArray, geo_len] <;> omega) | fail)) only [go_sem, resA, res1A, Try.results22] <;> rfl) ?_
  rfl
set_option maxHeartbeats 2000000 in
theorem look_free (S : St) (p m me : Nat) (steps : Nat) (ws : List UInt64) (bs : List UInt8) (N T k : Nat) (hp : S[p]? = some (.port m me steps)) (hm : S[m]? = some (.mem ws bs)) (hst : steps ≤ 100000000000) (hN : N ≤ 256) (hT : T ≤ 64) (h1 : 0 ≤ gat N T 6 me) (h2 : 0 ≤ gat N T 11 k)
    (hw : wAt ws (gat N T 11 k) = some 0) :
    Does OF 22 #[prtV p, .agg (geoC N T), .int .i64 k] [] S (seV 0 0 0 0 false (steps + 1)) (accS S p m me (steps + 1) ws bs) := by
  have hne := hne_of hp hm
  refine Does.mk Try.func22 rfl rfl ?clo ?hand ?_
  case clo => exact clo3 (pclo (hlt_of hp)) gclo iclo
  case hand => exact Hand.plain (seV_plain _ _ _ _ _ _)
  rw [Try.ntmps22]; simp only [List.size_toArray, List.length_cons, List.length_nil, List.replicate, List.cons_append, List.nil_append]
  refine via ?_
  ((first | refine At.callX [2] rfl rfl rfl (by decide) rfl (fun K hK => ?_) | refine RG.callX [2] rfl rfl rfl rfl (by decide) (fun K hK => ?_)); simp (disch := (first | omega | (simp only [heapL_next, List.length_cons, List.length_nil, List.size_toArray, geo_len] <;> omega) | fail)) only [go_sem]; refine ⟨_, _, _, _, _, _, none1_f S p m me steps N T k hp hN hT h1 h2, by first | rfl | simp (disch := (first | omega | (simp only [heapL_next, List.length_cons, List.length_nil, List.size_toArray, geo_len] <;> omega) | fail)) only [go_sem], by ((repeat (refine ⟨⟨_, rfl, rfl, ?_, (by first | exact .inr rfl | exact .inl rfl), (by first | exact fun h => h | exact fun _ => rfl | (intro h; cases h))⟩, ?_⟩; · first | exact plain_map numRow_plain | (simp [up_prt]; done) | exact plain_map (by simp [plainB]; done) | simp [up_0, up_1, up_2, up_00, up_base, up_slack, adr])); exact trivial), by first | exact ⟨rfl, rfl⟩ | rfl, ?_⟩; (try simp only [go_sem]); (first | refine hK _ _ _ ?_ | refine hK _ _ _ _ ?_); clear hK K)
  simp only [numB, numRow, List.map_cons, List.map_nil, reduceCtorEq, if_false, ↓reduceIte]
  refine viaL ?_
  ((first | refine qp1 rfl rfl fun K hK => ?_ | refine qp3 rfl rfl fun K hK => ?_); simp (disch := (first | omega | (simp only [sz] <;> omega) | fail)) only [go_sem]; refine ⟨_, _, qpu fun w => gState_any N T k w hN hT, ?_⟩; (try simp only [go_sem]); with_reducible refine hK _ _ ?_; clear hK K)
  refine viaL ?_
  ((first | refine qp1 rfl rfl fun K hK => ?_ | refine qp3 rfl rfl fun K hK => ?_); simp (disch := (first | omega | (simp only [sz] <;> omega) | fail)) only [go_sem]; refine ⟨_, _, .load _ hp hm (by omega), ?_⟩; (try simp only [go_sem]); with_reducible refine hK _ _ ?_; clear hK K)
  rw [load_same, load_w hw]
  refine viaL ?_
  ((first | refine qp1 rfl rfl fun K hK => ?_ | refine qp3 rfl rfl fun K hK => ?_); simp (disch := (first | omega | (simp only [sz] <;> omega) | fail)) only [go_sem]; refine ⟨_, _, .steps (acc_p hp hm), ?_⟩; (try simp only [go_sem]); with_reducible refine hK _ _ ?_; clear hK K)
  refine viaL ?_
  ((first | refine qc1 rfl rfl fun K hK => ?_ | refine qc3 rfl rfl fun K hK => ?_); simp (disch := (first | omega | (simp only [sz] <;> omega) | fail)) only [go_sem]; refine ⟨_, _, stateOf_zero _, ?_⟩; (try simp only [go_sem]); with_reducible refine hK _ _ ?_; clear hK K)
  repeat (first | refine Goes.loop ?_ | refine Goes.inLoop ?_ | refine Goes.reg ?_ | refine Goes.ctl2 rfl ?_ | ((first | refine qv1 rfl rfl rfl fun K hK => ?_ | refine qv3 rfl rfl rfl fun K hK => ?_ | refine qv2 rfl rfl rfl rfl rfl rfl fun K hK => ?_ | refine qv4 rfl rfl rfl rfl rfl rfl fun K hK => ?_ | refine qn1 rfl rfl rfl fun K hK => ?_ | refine qn3 rfl rfl rfl fun K hK => ?_ | refine qt1 rfl rfl rfl fun K hK => ?_ | refine qt3 rfl rfl rfl fun K hK => ?_); simp (disch := (first | omega | (simp only [sz] <;> omega) | fail)) only [go_sem, stV]; with_reducible refine hK _ _ ?_; clear hK K) | refine At.nil rfl ?_ | refine RG.nil rfl ?_ | ((first | refine AtL.skipg rfl rfl rfl rfl rfl ?_ | refine RGL.skipg rfl rfl rfl rfl rfl ?_ | refine AtL.skipu rfl rfl rfl rfl ?_ | refine RGL.skipu rfl rfl rfl rfl ?_); simp only [putL, List.set_cons_zero, List.set_cons_succ]) | refine Goes.yes rfl ?_ | refine Goes.no rfl ?_ | refine Goes.drawR [] (by kernel_rfl) ?_)
  refine Goes.fin rfl (by simp (disch := (first | omega | (simp only [heapL_next, List.length_cons, List.length_nil, List.size_toArray, geo_len] <;> omega) | fail)) only [go_sem, resA, res1A, Try.results22] <;> rfl) ?_
  rfl
end Go.Proofs.Ytceddijolfpppaa
namespace Go.Proofs.Ytceddijolfpppaa
open Go Go.RowKit
set_option linter.unusedSimpArgs false
set_option linter.unusedVariables false
theorem three_len {S : St} {a b : Ob} : (S ++ [a, b]).length = S.length + 2 := by simp
theorem three_app {S : St} {a b c : Ob} : (S ++ [a, b]) ++ [c] = S ++ [a, b, c] := by simp
theorem three_m {S : St} {a b c : Ob} : (S ++ [a, b, c])[S.length]? = some a := by simp
theorem three_q {S : St} {a b c : Ob} : (S ++ [a, b, c])[S.length + 2]? = some c := by simp
theorem acc_app {S : St} {L : List Ob} {i : Nat} {me : Int} {s : Nat} {ws : List UInt64} {bs : List UInt8} : accS (S ++ L) (S.length + i) S.length me s ws bs = S ++ (L.set i (.port S.length me s)).set 0 (.mem ws bs) := by
  unfold accS
  rw [List.set_append_right _ _ (by omega), List.set_append_right _ _ (by omega), Nat.add_sub_cancel_left, Nat.sub_self]
theorem three_acc2 {S : St} {a b c : Ob} {me : Int} {s : Nat} {ws : List UInt64} {bs : List UInt8} : accS (S ++ [a, b, c]) (S.length + 2) S.length me s ws bs = S ++ [.mem ws bs, b, .port S.length me s] := acc_app
end Go.Proofs.Ytceddijolfpppaa
namespace Go.Proofs.Ytceddijolfpppaa
open Go Go.RowKit
set_option linter.unusedSimpArgs false
set_option linter.unusedVariables false
def farA (ns : List Nat) (h : AHeap) : AHeap := ⟨fun n => match ns.elem n with | true => (h.get n).map (fun b => { b with ro := true }) | false => none, h.next⟩
theorem farA_get {ns : List Nat} {h : AHeap} {n : Nat} : (farA ns h).get n = match ns.elem n with | true => (h.get n).map (fun b => { b with ro := true }) | false => none := rfl
section
variable {P : Program} {σ : Type} {X : Face P σ} {fn : Func} {A : Conf σ → Prop} {ops : Array Oper} {k : List Item} {i : Nat} {tmps : List Value} {h : AHeap} {S : σ} {o : Oper}
theorem Goes.drawN {id : Nat} (W ns : List Nat) (hB : drawB W ops = true) (hl : h.Low) (hk : RGF X W ops h.next (farA ns h) (fun t h S => Goes X fn A (.run k t h S)) 0 tmps h S []) : Goes X fn A (.run (.code (.region id ops true) :: k) tmps h S) := by
  refine .drawF W hB (farA ns h) (fun n b hb => ?_) hk
  rw [farA_get] at hb
  split at hb
  · obtain ⟨b0, h1, h2⟩ := Option.map_eq_some_iff.1 hb
    exact ⟨hl n b0 h1, b0, h2.symm, h1⟩
  · cases hb
variable {W : List Nat} {n0 : Nat} {hf : AHeap} {Kf : List Value → AHeap → σ → Prop} {born : List (Nat × Nat)}
theorem RGF.fark (ho : ops.toList[i]? = some o) (hg : o.guard = none) (hk : ∀ K : List Value → AHeap → Prop, (∀ t h, RGF X W ops n0 hf Kf (i + 1) t h S born → K t h) → OpK K o tmps h (valA P (evA tmps) hf o.op))
    (hb : opOK o.op = true := by rfl) (hq : wrB W i o = false := by rfl) (hfar : farB W i = true := by rfl) : RGF X W ops n0 hf Kf i tmps h S born := by
  have := hk _ (fun _ _ h => h)
  cases hv : valA P (evA tmps) hf o.op with
  | none => rw [hv] at this; exact this.elim
  | some v => rw [hv] at this; exact .far' (at_list ho) (wanted_n hg) (opOK_all hb) hq hfar hv this
def stBlk (e : Operand → Value) : Op → Nat
  | .store _ x _ => (match e x with | .pointer (some a) => a.block | _ => 0)
  | _ => 0
theorem RGF.storef (ho : ops.toList[i]? = some o) (hg : o.guard = none) (_ : tB o.op = true) (hk : ∀ K : List Value → AHeap → Prop, (∀ t h, RGF X W ops n0 hf Kf (i + 1) t h S born → K t h) → StoreK K o tmps (storeOp P (evA tmps) h o.op))
    (hne : hf.get (stBlk (evA tmps) o.op) = none) (hb : opOK o.op = true := by rfl) (hnf : farB W i = false := by rfl) : RGF X W ops n0 hf Kf i tmps h S born := by
  have := hk _ (fun _ _ h => h)
  cases hv : storeOp P (evA tmps) h o.op with
  | none => rw [hv] at this; exact this.elim
  | some h' =>
    rw [hv] at this
    obtain ⟨t, x, y, a, h1, h2, h3⟩ := storeOp_spec hv
    obtain ⟨b, s, _, _, _, _, _, _, _, rfl⟩ := storeA_spec h3
    have hop : Op0 X o (evA tmps) h S undef (h.put a.block { b with cells := spliceA b.cells a.off (evA tmps y).cells.toList }) S := .inr (.inr (.inl ⟨storeOp_wr hv, rfl⟩))
    have hbk : stBlk (evA tmps) o.op = a.block := by unfold stBlk; rw [h1]; simp only [h2]
    refine RGF.op' (h' := h.put a.block { b with cells := spliceA b.cells a.off (evA tmps y).cells.toList }) true hnf (at_list ho) (wanted_n hg) (opOK_all hb) (.inl rfl) ⟨by unfold wrB isStoreO; rw [h1]; rfl, hop⟩ (fun n b1 hb1 _ _ => ?_) ?_
    · rw [AHeap.put_get, if_neg (fun e => by rw [e, ← hbk, hne] at hb1; cases hb1)]
    · rw [AHeap.put_next, bornN_nil]
      exact this
def SameK (h : AHeap) (n : Nat) : Option AHeap → Prop
  | some h' => h'.get n = h.get n
  | none => True
theorem RGF.stores (ho : ops.toList[i]? = some o) (hg : o.guard = none) (_ : tB o.op = true) (hs : SameK h (stBlk (evA tmps) o.op) (storeOp P (evA tmps) h o.op)) (hk : ∀ K : List Value → AHeap → Prop, (∀ t h, RGF X W ops n0 hf Kf (i + 1) t h S born → K t h) → StoreK K o tmps (storeOp P (evA tmps) h o.op))
    (hb : opOK o.op = true := by rfl) (hnf : farB W i = false := by rfl) : RGF X W ops n0 hf Kf i tmps h S born := by
  have := hk _ (fun _ _ h => h)
  cases hv : storeOp P (evA tmps) h o.op with
  | none => rw [hv] at this; exact this.elim
  | some h' =>
    rw [hv] at this hs
    obtain ⟨t, x, y, a, h1, h2, h3⟩ := storeOp_spec hv
    obtain ⟨b, s, _, _, _, _, _, _, _, rfl⟩ := storeA_spec h3
    have hop : Op0 X o (evA tmps) h S undef (h.put a.block { b with cells := spliceA b.cells a.off (evA tmps y).cells.toList }) S := .inr (.inr (.inl ⟨storeOp_wr hv, rfl⟩))
    have hbk : stBlk (evA tmps) o.op = a.block := by unfold stBlk; rw [h1]; simp only [h2]
    rw [hbk] at hs
    refine RGF.op' (h' := h.put a.block { b with cells := spliceA b.cells a.off (evA tmps y).cells.toList }) true hnf (at_list ho) (wanted_n hg) (opOK_all hb) (.inl rfl) ⟨by unfold wrB isStoreO; rw [h1]; rfl, hop⟩ (fun n b1 hb1 _ _ => ?_) ?_
    · by_cases e : n = a.block
      · rw [e]; exact hs
      · rw [AHeap.put_get, if_neg e]
    · rw [AHeap.put_next, bornN_nil]
      exact this
end
attribute [go_sem] stBlk SameK
attribute [go_sem] farA_get List.elem_cons List.elem_nil Option.map_some
attribute [go_sem_proc] Nat.reduceBEq
end Go.Proofs.Ytceddijolfpppaa
