/-
  Layer 9: what acts do, by numbers; there are nodes enough.
  No condition: laws.
-/
import Derived.Test.YtjdbknnacaacaaaUBag4
import Derived.Test.YtjdbknnacaacaaaULend
namespace Go.Proofs.Ytjdbknnacaacaaa
open Go Go.RowKit
set_option linter.unusedSimpArgs false
set_option linter.unusedVariables false
section
variable {N T t c : Nat} {ws : List UInt64} {W : Nat → Nat → UInt64} {free free' : List Nat} {ver : Nat} {G L L' : Nat → List Nat} {I I' : Nat → Nat → UInt64} {item : UInt64}
theorem addO {i j : Nat} (hS : BS N T ws W free ver G L I) (hi : i < T * 4) (hj : j < T * 4) (hne : j ≠ i) (h : AddSaid I L i item free free' L' I') : totI I' (L' j) = totI I (L j) := by
  rcases h with ⟨A, x, B, k, hL, _, _, rfl, rfl, rfl⟩ | ⟨_, y, rfl, rfl, rfl⟩
  · refine totI_congr fun z hz => cnt_ne fun e => ?_
    exact hne (hS.apart hj hi hz (by rw [e, hL]; simp))
  · rw [upG_ne hne]
    refine totI_congr fun z hz => cnt_newne fun e => ?_
    exact hS.out hj hz (by rw [e]; simp)
theorem totI_le : ∀ {l : List Nat}, (∀ z ∈ l, cntI I' z ≤ cntI I z) → totI I' l ≤ totI I l
  | [], _ => Nat.le_refl _
  | x :: l, h => by
    rw [totI_cons, totI_cons]
    have := h x (by simp)
    have := totI_le (l := l) fun z hz => h z (by simp [hz])
    omega
theorem takeO {u : UInt64} {ok : Bool} (h : TakeSaid T t c I L u ok I') (l : List Nat) : totI I' l ≤ totI I l := by
  rcases h with ⟨j, hj, _, hf, _⟩ | ⟨_, _, _, rfl⟩
  · rcases hf with ⟨A, x, B, k, _, _, ⟨hk, hz, _⟩, _, _, rfl⟩ | ⟨_, _, hbad, _⟩
    · refine totI_le fun z _ => ?_
      by_cases e : z = x
      · subst e; have := cnt_take (I := I) hk hz; omega
      · rw [cnt_ne e]; exact Nat.le_refl _
    · cases hbad
  · exact Nat.le_refl _
end
theorem gb19s {N T : Nat} (h1 : 1 ≤ N) (h2 : N ≤ 3) (h3 : 1 ≤ T) (h4 : T ≤ 4) : gb N T 19 ≤ 2097152 := by
  obtain rfl | rfl | rfl : N = 1 ∨ N = 2 ∨ N = 3 := by omega
  all_goals
    obtain rfl | rfl | rfl | rfl : T = 1 ∨ T = 2 ∨ T = 3 ∨ T = 4 := by omega
    all_goals decide
theorem gMs {N T : Nat} (h2 : N ≤ 3) (h4 : T ≤ 4) : gM N T ≤ 108 := by
  have e1 : T * 4 * (N + 1) ≤ 4 * 4 * 4 := Nat.mul_le_mul (by omega) (by omega)
  have e2 : T * (2 * T + 3) ≤ 4 * 11 := Nat.mul_le_mul h4 (by omega)
  unfold gM; omega
section
variable {N T t c : Nat} {ws : List UInt64} {W : Nat → Nat → UInt64} {free free' : List Nat} {ver : Nat} {G L L' : Nat → List Nat} {I I' : Nat → Nat → UInt64} {item : UInt64}
def sN (a : Nat → Nat) : Nat → Nat
  | 0 => 0
  | n + 1 => sN a n + a n
def upA (a : Nat → Nat) (i : Nat) : Nat → Nat := fun j => if j = i then a j + 1 else a j
theorem sN_congr {a b : Nat → Nat} : ∀ {n : Nat}, (∀ j, j < n → a j = b j) → sN a n = sN b n
  | 0, _ => rfl
  | n + 1, h => by unfold sN; rw [sN_congr (n := n) fun j hj => h j (by omega), h n (by omega)]
theorem sN_up {a : Nat → Nat} {i : Nat} : ∀ {n : Nat}, i < n → sN (upA a i) n = sN a n + 1
  | 0, h => by omega
  | n + 1, h => by
    unfold sN
    by_cases e : i = n
    · subst e
      rw [sN_congr (a := upA a i) (b := a) fun j hj => if_neg (by omega)]
      unfold upA; rw [if_pos rfl]; omega
    · rw [sN_up (n := n) (by omega)]
      unfold upA; rw [if_neg (fun e2 => e e2.symm)]; omega
theorem flat_succ {n : Nat} {L : Nat → List Nat} : flat (n + 1) L = flat n L ++ L n := by simp [flat, List.range_succ]
theorem flat_len {b : Nat} {L : Nat → List Nat} : ∀ {n : Nat}, (∀ j, j < n → (L j).length ≤ b) → (flat n L).length ≤ n * b
  | 0, _ => by simp [flat]
  | n + 1, h => by
    rw [flat_succ, List.length_append, Nat.succ_mul]
    have := flat_len (n := n) fun j hj => h j (by omega)
    have := h n (by omega)
    omega
theorem flat_eight {a : Nat → Nat} {L : Nat → List Nat} : ∀ {n : Nat}, (∀ j, j < n → 8 * (L j).length ≤ a j + 7) → 8 * (flat n L).length ≤ sN a n + 7 * n
  | 0, _ => by simp [flat]
  | n + 1, h => by
    rw [flat_succ, List.length_append]
    have h1 := flat_eight (n := n) fun j hj => h j (by omega)
    have h2 := h n (by omega)
    unfold sN
    omega
def BN (T : Nat) (L : Nat → List Nat) (I : Nat → Nat → UInt64) (cnt : Nat) : Prop := ∃ a : Nat → Nat, sN a (T * 4) ≤ cnt ∧ ∀ i, i < T * 4 → 8 * (L i).length ≤ a i + 7 ∧ totI I (L i) ≤ a i
theorem BN.start (T : Nat) (I : Nat → Nat → UInt64) : BN T (fun _ => []) I 0 :=
  ⟨fun _ => 0, by
    have : ∀ n, sN (fun _ => 0) n = 0 := fun n => by induction n with
      | zero => rfl
      | succ n ih => unfold sN; rw [ih]
    rw [this]; exact Nat.le_refl _, fun i _ => by simp [totI]⟩
theorem BN.le {cnt cnt' : Nat} (h : BN T L I cnt) (hc : cnt ≤ cnt') : BN T L I cnt' := by
  obtain ⟨a, h1, h2⟩ := h
  exact ⟨a, by omega, h2⟩
theorem BN.fewer {cnt : Nat} (h : BN T L I cnt) (e : ∀ i, i < T * 4 → (L' i).length ≤ (L i).length ∧ totI I' (L' i) ≤ totI I (L i)) : BN T L' I' cnt := by
  obtain ⟨a, h1, h2⟩ := h
  exact ⟨a, h1, fun i hi => by have := h2 i hi; have := e i hi; omega⟩
theorem BN.add {cnt i : Nat} (h : BN T L I cnt) (hi : i < T * 4) (h1 : totI I' (L' i) = totI I (L i) + 1) (h2 : (L' i).length = (L i).length ∨ (L' i).length = (L i).length + 1 ∧ totI I (L i) = 8 * (L i).length) (h3 : ∀ j, j < T * 4 → j ≠ i → L' j = L j ∧ totI I' (L' j) = totI I (L j)) : BN T L' I' (cnt + 1) := by
  obtain ⟨a, h4, h5⟩ := h
  refine ⟨upA a i, by rw [sN_up hi]; omega, fun j hj => ?_⟩
  have h6 := h5 j hj
  unfold upA
  by_cases e : j = i
  · subst e
    rw [if_pos rfl]; omega
  · rw [if_neg e]
    obtain ⟨h7, h8⟩ := h3 j hj e
    rw [h8, h7]; exact h6
theorem BS.free_ne {cnt : Nat} (hS : BS N T ws W free ver G L I) (h : BN T L I cnt) (hc : cnt ≤ 55) (hN : 1 ≤ N) (hT1 : 1 ≤ T) (hT : T ≤ 4) : ∃ y fr, free = y :: fr := by
  cases free with
  | cons y fr => exact ⟨y, fr, rfl⟩
  | nil =>
    exfalso
    obtain ⟨a, h1, h2⟩ := h
    have h3 := flat_eight (n := T * 4) fun j hj => (h2 j hj).1
    have h4 := flat_len (n := T) (b := 2 * T) hS.glen
    have h5 := hS.count
    rw [List.length_nil] at h5
    unfold gM at h5
    obtain rfl | rfl | rfl | rfl : T = 1 ∨ T = 2 ∨ T = 3 ∨ T = 4 := by omega
    all_goals omega
end
theorem Ge.set' {l l' : List (Option Blk)} {q : Nat} {b : Option Blk} (h : Ge l l') (hq : l.length ≤ q) : Ge l (l'.set q b) := fun n c hc => by
  have hn := (List.getElem?_eq_some_iff.1 hc).1
  rw [List.getElem?_set_ne (by omega)]; exact h n c hc
def wasOf (I : Nat → Nat → UInt64) (L : Nat → List Nat) (c k : Nat) : List (List (List UInt64)) := (List.range k).map fun k => (L (k * 4 + c)).map (itemsOf I)
theorem wasOf_get {I : Nat → Nat → UInt64} {L : Nat → List Nat} {c k n : Nat} (h : k < n) : (wasOf I L c n)[k]? = some ((L (k * 4 + c)).map (itemsOf I)) := by
  unfold wasOf; rw [List.getElem?_map, List.getElem?_range h]; rfl
theorem wasOf_len {I : Nat → Nat → UInt64} {L : Nat → List Nat} {c k : Nat} : (wasOf I L c k).length = k := by simp [wasOf]
theorem appT_sss : AppT Try.prog 38 50 0 := AppT.of (bs := 24) (z := .slice none 0 0) (by simp only [go_sem]) (by simp only [go_sem]) (by simp only [go_sem]) (by simp only [go_sem]) (by simp [plainB, Value.cells])
theorem BS.len_le {N T i : Nat} {ws : List UInt64} {W : Nat → Nat → UInt64} {free : List Nat} {ver : Nat} {G L : Nat → List Nat} {I : Nat → Nat → UInt64} (hS : BS N T ws W free ver G L I) (hi : i < T * 4) : (L i).length ≤ gM N T := by
  have := nodup_le (hS.lnd hi) (fun x hx => upto_mem.2 (hS.rng hi hx))
  rwa [upto_len0] at this
theorem badd_zero (S : St) (p m me : Nat) (steps : Nat) (N T c : Nat) (hp : S[p]? = some (.port m me steps)) (hN1 : 1 ≤ N) (hN : N ≤ 256) (hT : T ≤ 64) (hme : me < T) (hc : c < 4) : Does OF 14 #[prtV p, .agg (geoC N T), .int .i64 c, .int .u64 0] [] S (.bool false) S := by
  refine Does.mk Try.func14 rfl rfl ?clo ?hand ?_
  case clo => exact clo4 (pclo (hlt_of hp)) gclo iclo iclo
  case hand => exact Hand.plain rfl
  rw [Try.ntmps14]; simp only [List.size_toArray, List.length_cons, List.length_nil, List.replicate, List.cons_append, List.nil_append]
  refine via ?_
  ((first | refine qc1 rfl rfl fun K hK => ?_ | refine qc3 rfl rfl fun K hK => ?_); simp (disch := (first | omega | (simp only [sz] <;> omega) | fail)) only [go_sem]; refine ⟨_, _, bnone_does S p m me steps N T c hp hN1 hN hT hme hc, ?_⟩; (try simp only [go_sem]); with_reducible refine hK _ _ ?_; clear hK K)
  refine via ?_
  refine Goes.fin rfl (by simp (disch := (first | omega | (simp only [heapL_next, List.length_cons, List.length_nil, List.size_toArray, geo_len] <;> omega) | fail)) only [go_sem, resA, res1A, Try.results14] <;> rfl) ?_
  rfl
end Go.Proofs.Ytjdbknnacaacaaa
namespace Go.Proofs.Ytjdbknnacaacaaa
open Go Go.RowKit
set_option linter.unusedSimpArgs false
set_option linter.unusedVariables false
--BODY
theorem itemsOf_get {I : Nat → Nat → UInt64} {x k : Nat} (hk : k < 8) : (itemsOf I x)[k]? = some (I x k) := by
  unfold itemsOf; rw [List.getElem?_map, List.getElem?_range hk]; rfl
theorem itemsOf_len {I : Nat → Nat → UInt64} {x : Nat} : (itemsOf I x).length = 8 := by simp [itemsOf]
theorem itemsOf_up {I : Nat → Nat → UInt64} {x k : Nat} {v : UInt64} : itemsOf (upI I x k v) x = (itemsOf I x).set k v := by
  refine List.ext_getElem? fun j => ?_
  by_cases hj : j < 8
  · rw [itemsOf_get hj]
    by_cases e : k = j
    · subst e
      rw [List.getElem?_set_self (by rw [itemsOf_len]; exact hj), upI_eq]
    · rw [List.getElem?_set_ne e, itemsOf_get hj, upI_k (fun e2 => e e2.symm)]
  · rw [List.getElem?_eq_none (by rw [itemsOf_len]; omega), List.getElem?_eq_none (by rw [List.length_set, itemsOf_len]; omega)]
theorem itemsOf_ne {I : Nat → Nat → UInt64} {x z k : Nat} {v : UInt64} (h : z ≠ x) : itemsOf (upI I x k v) z = itemsOf I z := by
  unfold itemsOf
  exact List.map_congr_left fun j _ => upI_x h
theorem itemsOf_new {I : Nat → Nat → UInt64} {y : Nat} {v : UInt64} : itemsOf (newI I y v) y = [v, 0, 0, 0, 0, 0, 0, 0] := by
  unfold itemsOf newI
  simp [List.range_succ]
theorem itemsOf_newne {I : Nat → Nat → UInt64} {y z : Nat} {v : UInt64} (h : z ≠ y) : itemsOf (newI I y v) z = itemsOf I z := by
  unfold itemsOf
  exact List.map_congr_left fun j _ => by unfold newI; rw [if_neg h]
theorem map_one {f f' : Nat → List UInt64} {A B : List Nat} {x : Nat} (hn : (A ++ x :: B).Nodup) (h : ∀ z, z ≠ x → f' z = f z) : (A ++ x :: B).map f' = ((A ++ x :: B).map f).set A.length (f' x) := by
  have hA : A.map f' = A.map f := List.map_congr_left fun z hz => h z fun e => (List.nodup_append.1 hn).2.2 z hz x (by simp) e
  have hB : B.map f' = B.map f := List.map_congr_left fun z hz => h z fun e => (List.nodup_cons.1 (List.nodup_append.1 hn).2.1).1 (by rw [← e]; exact hz)
  rw [List.map_append, List.map_cons, List.map_append, List.map_cons, hA, hB, List.set_append, if_neg (by simp)]
  simp
theorem was_one {I I' : Nat → Nat → UInt64} {L L' : Nat → List Nat} {c t T : Nat} (h : ∀ j, j < T → j ≠ t → (L' (j * 4 + c)).map (itemsOf I') = (L (j * 4 + c)).map (itemsOf I)) : wasOf I' L' c T = (wasOf I L c T).set t ((L' (t * 4 + c)).map (itemsOf I')) := by
  refine List.ext_getElem? fun j => ?_
  by_cases hj : j < T
  · rw [wasOf_get hj]
    by_cases e : t = j
    · subst e
      rw [List.getElem?_set_self (by rw [wasOf_len]; exact hj)]
    · rw [List.getElem?_set_ne e, wasOf_get hj, h j hj (fun e2 => e e2.symm)]
  · rw [List.getElem?_eq_none (by rw [wasOf_len]; omega), List.getElem?_eq_none (by rw [List.length_set, wasOf_len]; omega)]
--END
section
variable {N T t c : Nat} {ws : List UInt64} {W : Nat → Nat → UInt64} {free free' : List Nat} {ver : Nat} {G L L' : Nat → List Nat} {I I' : Nat → Nat → UInt64} {item : UInt64}
theorem addKeep {i j : Nat} (hS : BS N T ws W free ver G L I) (hi : i < T * 4) (hj : j < T * 4) (hne : j ≠ i) (h : AddSaid I L i item free free' L' I') : (L' j).map (itemsOf I') = (L j).map (itemsOf I) := by
  rcases h with ⟨A, x, B, k, hL, _, _, rfl, rfl, rfl⟩ | ⟨_, y, rfl, rfl, rfl⟩
  · refine List.map_congr_left fun z hz => itemsOf_ne fun e => ?_
    exact hne (hS.apart hj hi hz (by rw [e, hL]; simp))
  · rw [upG_ne hne]
    refine List.map_congr_left fun z hz => itemsOf_newne fun e => ?_
    exact hS.out hj hz (by rw [e]; simp)
theorem addDoc {i : Nat} (hS : BS N T ws W free ver G L I) (hi : i < T * 4) (h : AddSaid I L i item free free' L' I') :
    (∃ (n : Nat) (xs : List UInt64) (k : Nat), ((L i).map (itemsOf I))[n]? = some xs ∧ (∀ (n' : Nat) (ys : List UInt64), n' < n → ((L i).map (itemsOf I))[n']? = some ys → ∀ (k : Nat) (u : UInt64), ys[k]? = some u → u ≠ 0) ∧ k < 8 ∧ xs[k]? = some 0 ∧ (∀ (k' : Nat) (u : UInt64), k' < k → xs[k']? = some u → u ≠ 0) ∧ (L' i).map (itemsOf I') = ((L i).map (itemsOf I)).set n (xs.set k item)) ∨
      ((∀ ys ∈ (L i).map (itemsOf I), ∀ (k : Nat) (u : UInt64), ys[k]? = some u → u ≠ 0) ∧ (L' i).map (itemsOf I') = [item, 0, 0, 0, 0, 0, 0, 0] :: (L i).map (itemsOf I)) := by
  have hfull : ∀ z, Full I z → ∀ (k : Nat) (u : UInt64), (itemsOf I z)[k]? = some u → u ≠ 0 := fun z hz k u hu => by
    have hk := (List.getElem?_eq_some_iff.1 hu).1
    rw [itemsOf_len] at hk
    rw [itemsOf_get hk] at hu
    cases hu; exact hz k hk
  rcases h with ⟨A, x, B, k, hL, hA, ⟨hk, hz, hf⟩, rfl, rfl, rfl⟩ | ⟨hA, y, rfl, rfl, rfl⟩
  · left
    have hnd := hS.lnd hi
    rw [hL] at hnd ⊢
    refine ⟨A.length, itemsOf I x, k, by simp, fun n' ys hn hy => ?_, hk, by rw [itemsOf_get hk, hz], fun k' u hk' hu => ?_, ?_⟩
    · rw [List.map_append, List.getElem?_append_left (by rw [List.length_map]; exact hn), List.getElem?_map] at hy
      cases e : A[n']? with
      | none => rw [e] at hy; cases hy
      | some z =>
        rw [e] at hy; cases hy
        exact hfull z (hA z (List.mem_of_getElem? e))
    · rw [itemsOf_get (by omega)] at hu
      cases hu; exact hf k' hk'
    · rw [map_one (f := itemsOf I) hnd fun z hz => itemsOf_ne hz, itemsOf_up]
  · right
    have hy : y ∉ L i := fun hm => hS.out hi hm (by simp)
    refine ⟨fun ys hm => ?_, ?_⟩
    · obtain ⟨z, hz, rfl⟩ := List.mem_map.1 hm
      exact hfull z (hA z hz)
    · rw [upG_eq, List.map_cons, itemsOf_new, List.map_congr_left fun z hz => itemsOf_newne fun e => hy (by rw [← e]; exact hz)]
end
end Go.Proofs.Ytjdbknnacaacaaa
namespace Go.Proofs.Ytjdbknnacaacaaa
open Go Go.RowKit
set_option linter.unusedSimpArgs false
set_option linter.unusedVariables false
def IsW (l : List (Option Blk)) (a : Option Addr) (zs : List (List (List UInt64))) : Prop :=
  ∃ (n : Nat) (g : Option Nat) (ps : List (Option Addr × Nat)), a = some ⟨n, 0, none⟩ ∧ l[n]? = some (some ⟨rowQ ps, 50, false, g⟩) ∧ ps.length = zs.length ∧ ∀ (j : Nat) (p : Option Addr × Nat) (xss : List (List UInt64)), ps[j]? = some p → zs[j]? = some xss → p.2 = xss.length ∧ IsUU l p.1 xss
theorem rowQ_set {ps : List (Option Addr × Nat)} {j : Nat} {p : Option Addr × Nat} : (rowQ ps).set j (.slice p.1 p.2 p.2) = rowQ (ps.set j p) := by simp [rowQ, List.map_set]
theorem rowP_set {ps : List (Option Addr)} {j : Nat} {p : Option Addr} : (rowP ps).set j (.slice p 8 8) = rowP (ps.set j p) := by simp [rowP, List.map_set]
theorem uvs_set {xs : List UInt64} {k : Nat} {u : UInt64} : (numRow .u64 (uvs xs)).set k (.int .u64 (u.toNat : Int)) = numRow .u64 (uvs (xs.set k u)) := by simp [numRow, uvs, List.map_set]
theorem cells_full {l ys : List (Option Blk)} {q s n i c : Nat} {b : Blk} (hl : l.length ≤ q) (hn : n < l.length) (hb : l[n]? = some (some b)) (hlen : i * s = b.cells.length) (h0 : i ≠ 0) : cellsA (heapJ l q ys) s (.slice (some ⟨n, 0, none⟩) i c) = some b.cells := by
  rw [cellsA_row h0 (b := b) (by simp only; rw [gap_lo (by omega), hb]; rfl) rfl (by simp only; omega), List.drop_zero, hlen, List.take_length]
def bgV (a : Option Addr) (T : Nat) (adds : Int) : Value := .agg #[.slice a T T, .int .i64 adds]
set_option maxHeartbeats 1000000 in
theorem rwith9 (S : St) {l : List (Option Blk)} {q : Nat} {a : Option Addr} {zs : List (List (List UInt64))} {adds : Int} {T t n k : Nat} {item : UInt64} {xss : List (List UInt64)} {xs : List UInt64} (hl : l.length ≤ q) (hq : q ≤ 900000000) (hW : IsW l a zs) (hT : zs.length = T) (hT1 : T ≤ 64) (hz : zs[t]? = some xss) (hx : xss[n]? = some xs) (h8 : ∀ ys ∈ xss, ys.length = 8) (hk : k < 8) (hn : xss.length ≤ 1000) :
    ∃ v hh S1, (S1 = S ∧ ∃ l' q' a', v = bgV a' T adds ∧ hh = heapJ l' q' [] ∧ Ge l l' ∧ l'.length ≤ q' ∧ q ≤ q' ∧ q' ≤ q + 40 ∧ IsW l' a' (zs.set t (xss.set n (xs.set k item)))) ∧ DoesD OF 76 #[bgV a T adds, .int .i64 t, .int .i64 n, .int .i64 k, .int .u64 (item.toNat : Int)] (heapJ l q []) S v hh S1 := by
  refine DoesD.mk Try.func76 rfl rfl ?_
  rw [Try.ntmps76]; simp only [List.size_toArray, List.length_cons, List.length_nil, List.replicate, List.cons_append, List.nil_append]
  unfold bgV
  obtain ⟨n1, g1, ps, rfl, hb, hps, hall⟩ := hW
  have hn1 := (List.getElem?_eq_some_iff.1 hb).1
  have htT : t < T := by have := (List.getElem?_eq_some_iff.1 hz).1; omega
  have hnx : n < xss.length := (List.getElem?_eq_some_iff.1 hx).1
  obtain ⟨⟨ap, np⟩, hpt⟩ : ∃ p, ps[t]? = some p := ⟨_, List.getElem?_eq_getElem (by omega)⟩
  obtain ⟨hnp, hU⟩ := hall t _ _ hpt hz
  simp only at hnp hU
  subst hnp
  rcases hU with ⟨h0, _⟩ | ⟨n2, ps2, rfl, hne, hb2, hps2, hall2⟩
  · rw [h0] at hnx; simp at hnx
  have hn2 := (List.getElem?_eq_some_iff.1 hb2).1
  obtain ⟨p3, hp3⟩ : ∃ p, ps2[n]? = some p := ⟨_, List.getElem?_eq_getElem (by omega)⟩
  obtain ⟨n3, g3, rfl, hb3⟩ := hall2 n _ _ hp3 hx
  have hn3 := (List.getElem?_eq_some_iff.1 hb3).1
  have hx8 := h8 xs (List.mem_of_getElem? hx)
  refine via ?_
  (refine At.appE rfl rfl rfl rfl (app_new appT_sss cellsA_zero (cells_full hl hn1 hb (by simp only [rowQ_len]; omega) (by omega)) (by omega) (by omega) (fun x hx => by cases hx; exact ⟨_, gap_hi (i := 2), rfl⟩)) (by simp (disch := (first | omega | (simp only [sz] <;> omega) | fail)) only [go_sem]; (try simp only [sz]); unfold VB; omega) fun K hK => ?_; simp (disch := (first | omega | (simp only [sz] <;> omega) | fail)) only [go_sem]; with_reducible refine hK _ _ ?_; clear hK K)
  have e1 := Nat.mul_one t
  have e2 := Nat.mul_one n
  have e3 := Nat.mul_one k
  have e4 : (rowQ ps)[t]? = some (.slice (some ⟨n2, 0, none⟩) xss.length xss.length) := by simp [rowQ, hpt]
  have e5 : (rowP ps2)[n]? = some (.slice (some ⟨n3, 0, none⟩) 8 8) := by simp [rowP, hp3]
  refine viaF (And.intro e1 e4) ?_
  (refine At.appE rfl rfl rfl rfl (app_new appT_su cellsA_zero (cells_full hl hn2 hb2 (by simp only [rowP_len]; omega) (by omega)) (by omega) (by omega) (fun x hx => by cases hx; exact ⟨_, gap_hi (i := 4), rfl⟩)) (by simp (disch := (first | omega | (simp only [sz] <;> omega) | fail)) only [go_sem]; (try simp only [sz]); unfold VB; omega) fun K hK => ?_; simp (disch := (first | omega | (simp only [sz] <;> omega) | fail)) only [go_sem]; with_reducible refine hK _ _ ?_; clear hK K)
  refine viaF (And.intro e2 e5) ?_
  (refine At.appE rfl rfl rfl rfl (app_new appT_u64 cellsA_zero (cells_full hl hn3 hb3 (by simp [numRow, uvs, hx8]) (by decide)) (by omega) (by omega) (fun x hx => by cases hx; exact ⟨_, gap_hi (i := 6), rfl⟩)) (by simp (disch := (first | omega | (simp only [sz] <;> omega) | fail)) only [go_sem]; (try simp only [sz]); unfold VB; omega) fun K hK => ?_; simp (disch := (first | omega | (simp only [sz] <;> omega) | fail)) only [go_sem]; with_reducible refine hK _ _ ?_; clear hK K)
  have e6 : (numRow .u64 (uvs xs)).length = 8 := by simp [numRow, uvs, hx8]
  have e7 : (rowP ps2).length = xss.length := by rw [rowP_len, hps2]
  have e8 : (rowQ ps).length = T := by rw [rowQ_len]; omega
  have e9 := Nat.zero_add T
  have e10 := Nat.zero_add xss.length
  refine viaF (And.intro e1 (And.intro e2 (And.intro e3 (And.intro e6 (And.intro e7 (And.intro e8 (And.intro e9 e10))))))) ?_
  refine Goes.finD rfl (by simp (disch := (first | omega | (simp only [heapL_next, List.length_cons, List.length_nil, List.size_toArray, geo_len] <;> omega) | fail)) only [go_sem, resA, res1A, Try.results76] <;> rfl) ?_
  refine ⟨rfl, _, _, some ⟨q + 3, 0, none⟩, rfl, gap_fold hl, Ge.fold l _ q, by rw [fold_len hl]; exact Nat.le_refl _, by simp only [List.length_cons, List.length_nil]; omega, by simp only [List.length_cons, List.length_nil]; omega, q + 3, some 1, ps.set t (some ⟨q + 5, 0, none⟩, xss.length), rfl, by rw [fold_at hl, ← rowQ_set]; rfl, by simp [hps], fun j p ys hj hy => ?_⟩
  by_cases e : t = j
  · subst e
    rw [List.getElem?_set_self (by omega)] at hj hy
    cases hj; cases hy
    refine ⟨by rw [List.length_set], .inr ⟨q + 5, ps2.set n (some ⟨q + 7, 0, none⟩), rfl, by simpa using hne, by rw [fold_at hl, ← rowP_set]; rfl, by simp [hps2], fun j2 p2 ys2 hj2 hy2 => ?_⟩⟩
    by_cases e2 : n = j2
    · subst e2
      rw [List.getElem?_set_self (by omega)] at hj2 hy2
      cases hj2; cases hy2
      exact ⟨q + 7, some 1, rfl, by rw [fold_at hl, ← uvs_set]; rfl⟩
    · rw [List.getElem?_set_ne e2] at hj2 hy2
      exact (hall2 j2 p2 ys2 hj2 hy2).ge (Ge.fold l _ q)
  · rw [List.getElem?_set_ne e] at hj hy
    exact ⟨(hall j p ys hj hy).1, (hall j p ys hj hy).2.ge (Ge.fold l _ q)⟩
end Go.Proofs.Ytjdbknnacaacaaa
namespace Go.Proofs.Ytjdbknnacaacaaa
open Go Go.RowKit
set_option linter.unusedSimpArgs false
set_option linter.unusedVariables false
theorem IsW.ge {l l' : List (Option Blk)} {a : Option Addr} {zs : List (List (List UInt64))} (h : IsW l a zs) (hg : Ge l l') : IsW l' a zs := by
  obtain ⟨n, g, ps, h1, h2, h3, h4⟩ := h
  exact ⟨n, g, ps, h1, hg _ _ h2, h3, fun j p xss hp hx => ⟨(h4 j p xss hp hx).1, (h4 j p xss hp hx).2.ge hg⟩⟩
theorem IsW.set {l : List (Option Blk)} {a : Option Addr} {zs : List (List (List UInt64))} {q : Nat} {b : Option Blk} {b0 : Blk} (h : IsW l a zs) (hq : l[q]? = some (some b0)) (he : b0.elem ≠ 30) (he2 : b0.elem ≠ 116) (he3 : b0.elem ≠ 50) : IsW (l.set q b) a zs := by
  obtain ⟨n, g, ps, h1, h2, h3, h4⟩ := h
  exact ⟨n, g, ps, h1, set_at' hq h2 he3, h3, fun j p xss hp hx => ⟨(h4 j p xss hp hx).1, (h4 j p xss hp hx).2.set hq he he2⟩⟩
theorem w0 {u : UInt64} (h : u = 0) : ((u.toNat : Int) == 0) = true := by rw [h]; rfl
theorem w1 {u : UInt64} (h : u ≠ 0) : ((u.toNat : Int) == 0) = false := by
  have := v1 h
  rw [bne, Bool.not_eq_true'] at this; exact this
theorem zerosL_rowQ : ∀ T, zerosL [Value.slice none 0 0] T = rowQ (List.replicate T (none, 0))
  | 0 => rfl
  | T + 1 => by rw [zerosL, zerosL_rowQ T, List.replicate_succ]; rfl
set_option maxHeartbeats 1000000 in
theorem rnew9 (S : St) {l : List (Option Blk)} {q : Nat} {T : Nat} (hl : l.length ≤ q) (hq : q ≤ 900000000) (hT0 : 1 ≤ T) (hT1 : T ≤ 64) :
    ∃ v hh S1, (S1 = S ∧ ∃ l' q' a', v = bgV a' T 0 ∧ hh = heapJ l' q' [] ∧ Ge l l' ∧ l'.length ≤ q' ∧ q ≤ q' ∧ q' ≤ q + 10 ∧ IsW l' a' (List.replicate T [])) ∧ DoesD OF 19 #[.int .i64 T] (heapJ l q []) S v hh S1 := by
  refine DoesD.mk Try.func19 rfl rfl ?_
  rw [Try.ntmps19]; simp only [List.size_toArray, List.length_cons, List.length_nil, List.replicate, List.cons_append, List.nil_append]
  refine via ?_
  refine Goes.finD rfl (by simp (disch := (first | omega | (simp only [heapL_next, List.length_cons, List.length_nil, List.size_toArray, geo_len] <;> omega) | fail)) only [go_sem, resA, res1A, Try.results19] <;> rfl) ?_
  refine ⟨rfl, _, _, some ⟨q + 1, 0, none⟩, rfl, gap_fold hl, Ge.fold l _ q, by rw [fold_len hl]; exact Nat.le_refl _, by simp only [List.length_cons, List.length_nil]; omega, by simp only [List.length_cons, List.length_nil]; omega, q + 1, some 0, List.replicate T (none, 0), rfl, by rw [fold_at hl, ← zerosL_rowQ]; rfl, by simp, fun j p ys hj hy => ?_⟩
  rw [List.getElem?_replicate] at hj hy
  split at hj
  · rename_i hlt
    rw [if_pos hlt] at hy
    cases hj; cases hy
    exact ⟨rfl, .inl ⟨rfl, rfl⟩⟩
  · cases hj
set_option maxHeartbeats 2000000 in
theorem radd9 (S : St) {l : List (Option Blk)} {q : Nat} {a : Option Addr} {zs : List (List (List UInt64))} {adds : Int} {T t : Nat} {item : UInt64} {xss yss : List (List UInt64)} (hl : l.length ≤ q) (hq : q ≤ 800000000) (hW : IsW l a zs) (hT : zs.length = T) (hT1 : T ≤ 64) (hz : zs[t]? = some xss) (h8 : ∀ ys ∈ xss, ys.length = 8) (hn : xss.length ≤ 1000) (ha : 0 ≤ adds) (ha2 : adds ≤ 1000000)
    (hs : (∃ (n : Nat) (xs : List UInt64) (k : Nat), xss[n]? = some xs ∧ (∀ (n' : Nat) (ys : List UInt64), n' < n → xss[n']? = some ys → ∀ (k : Nat) (u : UInt64), ys[k]? = some u → u ≠ 0) ∧ k < 8 ∧ xs[k]? = some 0 ∧ (∀ (k' : Nat) (u : UInt64), k' < k → xs[k']? = some u → u ≠ 0) ∧ yss = xss.set n (xs.set k item)) ∨
      ((∀ ys ∈ xss, ∀ (k : Nat) (u : UInt64), ys[k]? = some u → u ≠ 0) ∧ yss = [item, 0, 0, 0, 0, 0, 0, 0] :: xss)) :
    ∃ v hh S1, (S1 = S ∧ ∃ l' q' a', v = bgV a' T (adds + 1) ∧ hh = heapJ l' q' [] ∧ Ge l l' ∧ l'.length ≤ q' ∧ q ≤ q' ∧ q' ≤ q + 80 ∧ IsW l' a' (zs.set t yss)) ∧ DoesD OF 20 #[bgV a T adds, .int .i64 t, .int .u64 (item.toNat : Int)] (heapJ l q []) S v hh S1 := by
  refine DoesD.mk Try.func20 rfl rfl ?_
  rw [Try.ntmps20]; simp only [List.size_toArray, List.length_cons, List.length_nil, List.replicate, List.cons_append, List.nil_append]
  unfold bgV
  obtain ⟨n1, g1, ps, rfl, hb, hps, hall⟩ := id hW
  have hn1 := (List.getElem?_eq_some_iff.1 hb).1
  have htT : t < T := by have := (List.getElem?_eq_some_iff.1 hz).1; omega
  obtain ⟨⟨ap, np⟩, hpt⟩ : ∃ p, ps[t]? = some p := ⟨_, List.getElem?_eq_getElem (by omega)⟩
  obtain ⟨hnp, hU⟩ := hall t _ _ hpt hz
  simp only at hnp hU
  subst hnp
  have e1 := Nat.mul_one t
  have e4 : (rowQ ps)[t]? = some (.slice ap xss.length xss.length) := by simp [rowQ, hpt]
  refine via ?_
  refine Goes.wh (fun z tmps h S' => ∃ i : Nat, z = xss.length - i ∧ i ≤ xss.length ∧ (∀ (n' : Nat) (ys : List UInt64), n' < i → xss[n']? = some ys → ∀ (k : Nat) (u : UInt64), ys[k]? = some u → u ≠ 0) ∧ S' = S ∧ h = heapJ l q [some { cells := [.slice (some ⟨n1, 0, none⟩) T T, .int .i64 (adds + 1)], elem := 40 }, some { cells := [.slice none 0 0, .int .i64 0], elem := 40 }] ∧ tmps.length = 73 ∧ tmps.getD 1 undef = .int .i64 t ∧ tmps.getD 2 undef = .int .u64 (item.toNat : Int) ∧ tmps.getD 3 undef = .pointer (some ⟨q, 0, none⟩) ∧ tmps.getD 6 undef = .pointer (some ⟨q + 1, 0, none⟩) ∧ tmps.getD 7 undef = .int .i64 i) (m := xss.length)
    ⟨0, rfl, by omega, fun n' ys h => by omega, rfl, rfl, rfl, rfl, rfl, rfl, rfl, rfl⟩ ?_
  rintro z tmps h S' ih ⟨i, rfl, hi, hfull, rfl, rfl, hlt, f1, f2, f3, f6, f7⟩
  obtain ⟨V, hV, hT⟩ := frame_lit hlt; replace hT : _ = ([V 0, V 1, V 2, V 3, V 4, V 5, V 6, V 7, V 8, V 9, V 10, V 11, V 12, V 13, V 14, V 15, V 16, V 17, V 18, V 19, V 20, V 21, V 22, V 23, V 24, V 25, V 26, V 27, V 28, V 29, V 30, V 31, V 32, V 33, V 34, V 35, V 36, V 37, V 38, V 39, V 40, V 41, V 42, V 43, V 44, V 45, V 46, V 47, V 48, V 49, V 50, V 51, V 52, V 53, V 54, V 55, V 56, V 57, V 58, V 59, V 60, V 61, V 62, V 63, V 64, V 65, V 66, V 67, V 68, V 69, V 70, V 71, V 72] : List Value) := hT; rw [hV] at f1 f2 f3 f6 f7; subst hT; simp only [f1, f2, f3, f6, f7]; clear hV hlt
  by_cases hix : i < xss.length
  · obtain ⟨xs, hxs⟩ : ∃ xs, xss[i]? = some xs := ⟨_, List.getElem?_eq_getElem hix⟩
    have hx8 := h8 xs (List.mem_of_getElem? hxs)
    rcases hU with ⟨h0, _⟩ | ⟨n2, ps2, rfl, hne, hb2, hps2, hall2⟩
    · rw [h0] at hix; simp at hix
    obtain ⟨p3, hp3⟩ : ∃ p, ps2[i]? = some p := ⟨_, List.getElem?_eq_getElem (by omega)⟩
    obtain ⟨n3, g3, rfl, hb3⟩ := hall2 i _ _ hp3 hxs
    have hn2 := (List.getElem?_eq_some_iff.1 hb2).1
    have hn3 := (List.getElem?_eq_some_iff.1 hb3).1
    have e2 := Nat.mul_one i
    have e5 : (rowP ps2)[i]? = some (.slice (some ⟨n3, 0, none⟩) 8 8) := by simp [rowP, hp3]
    refine viaF (And.intro hb (And.intro e1 e4)) ?_
    refine Goes.wh (fun z tmps h S2 => ∃ k : Nat, z = 8 - k ∧ k ≤ 8 ∧ (∀ (k' : Nat) (u : UInt64), k' < k → xs[k']? = some u → u ≠ 0) ∧ S2 = S' ∧ h = heapJ l q [some { cells := [.slice (some ⟨n1, 0, none⟩) T T, .int .i64 (adds + 1)], elem := 40 }, some { cells := [.slice none 0 0, .int .i64 0], elem := 40 }] ∧ tmps.length = 73 ∧ tmps.getD 1 undef = .int .i64 t ∧ tmps.getD 2 undef = .int .u64 (item.toNat : Int) ∧ tmps.getD 3 undef = .pointer (some ⟨q, 0, none⟩) ∧ tmps.getD 6 undef = .pointer (some ⟨q + 1, 0, none⟩) ∧ tmps.getD 7 undef = .int .i64 i ∧ tmps.getD 8 undef = .int .i64 k) (m := 8)
      ⟨0, rfl, by omega, fun k' u h => by omega, rfl, rfl, rfl, rfl, rfl, rfl, rfl, rfl, rfl⟩ ?_
    rintro z tmps h S2 ih2 ⟨k, rfl, hk, hfk, rfl, rfl, hlt, f1, f2, f3, f6, f7, f8⟩
    obtain ⟨V, hV, hT⟩ := frame_lit hlt; replace hT : _ = ([V 0, V 1, V 2, V 3, V 4, V 5, V 6, V 7, V 8, V 9, V 10, V 11, V 12, V 13, V 14, V 15, V 16, V 17, V 18, V 19, V 20, V 21, V 22, V 23, V 24, V 25, V 26, V 27, V 28, V 29, V 30, V 31, V 32, V 33, V 34, V 35, V 36, V 37, V 38, V 39, V 40, V 41, V 42, V 43, V 44, V 45, V 46, V 47, V 48, V 49, V 50, V 51, V 52, V 53, V 54, V 55, V 56, V 57, V 58, V 59, V 60, V 61, V 62, V 63, V 64, V 65, V 66, V 67, V 68, V 69, V 70, V 71, V 72] : List Value) := hT; rw [hV] at f1 f2 f3 f6 f7 f8; subst hT; simp only [f1, f2, f3, f6, f7, f8]; clear hV hlt
    by_cases hk8 : k < 8
    · obtain ⟨u, hu⟩ : ∃ u, xs[k]? = some u := ⟨_, List.getElem?_eq_getElem (by omega)⟩
      have k1 := Nat.mul_one k
      have gu : (numRow .u64 (uvs xs))[k]? = some (.int .u64 (u.toNat : Int)) := by simp [numRow, uvs, hu]
      by_cases hu0 : u = 0
      · have t0 := w0 hu0
        subst hu0
        have hy : yss = xss.set i (xs.set k item) := by
          rcases hs with ⟨n', xs', k', h1, h2, h3, h4, h5, h6⟩ | ⟨h1, _⟩
          · have hn' : n' = i := by
              rcases Nat.lt_trichotomy n' i with h | h | h
              · exact absurd rfl (hfull n' xs' h h1 k' 0 h4)
              · exact h
              · exact absurd rfl (h2 i xs h hxs k 0 hu)
            subst hn'
            rw [hxs] at h1; cases h1
            have hk' : k' = k := by
              rcases Nat.lt_trichotomy k' k with h | h | h
              · exact absurd rfl (hfk k' 0 h h4)
              · exact h
              · exact absurd rfl (h5 k 0 h hu)
            rw [h6, hk']
          · exact absurd rfl (h1 xs (List.mem_of_getElem? hxs) k 0 hu)
        repeat (first | refine Goes.reg ?_ | refine Goes.ctl2 rfl ?_ | ((first | refine qv1 rfl rfl rfl fun K hK => ?_ | refine qv3 rfl rfl rfl fun K hK => ?_ | refine qv2 rfl rfl rfl rfl rfl rfl fun K hK => ?_ | refine qv4 rfl rfl rfl rfl rfl rfl fun K hK => ?_ | refine qn1 rfl rfl rfl fun K hK => ?_ | refine qn3 rfl rfl rfl fun K hK => ?_ | refine qt1 rfl rfl rfl fun K hK => ?_ | refine qt3 rfl rfl rfl fun K hK => ?_); simp (disch := (first | omega | (simp only [sz] <;> omega) | fail)) only [go_sem, hb, e1, e4, hb2, e2, e5, hb3, k1, gu, t0]; with_reducible refine hK _ _ ?_; clear hK K) | refine At.nil rfl ?_ | refine RG.nil rfl ?_ | ((first | refine AtL.skipg rfl rfl rfl rfl rfl ?_ | refine RGL.skipg rfl rfl rfl rfl rfl ?_ | refine AtL.skipu rfl rfl rfl rfl ?_ | refine RGL.skipu rfl rfl rfl rfl ?_); simp only [putL, List.set_cons_zero, List.set_cons_succ]) | refine Goes.yes rfl ?_ | refine Goes.no rfl ?_ | refine Goes.drawR [] (by kernel_rfl) ?_)
        refine At.folds hl fun lf hlen hge hrow => ?_
        simp only [List.length_cons, List.length_nil] at hlen
        have hres : lf[q + 1]? = _ := hrow 1
        simp only [List.getElem?_cons_succ, List.getElem?_cons_zero] at hres
        obtain ⟨v1, hh1, S1, ⟨rfl, l1, q1, a1, rfl, rfl, hge1, hl1, hqa, hq1, hW1⟩, hd⟩ := rwith9 S2 (l := lf) (q := q + 2) (a := some ⟨n1, 0, none⟩) (zs := zs) (adds := adds + 1) (T := T) (t := t) (n := i) (k := k) (item := item) (by omega) (by omega) (hW.ge hge) hT hT1 hz hxs h8 hk8 hn
        have hres1 := hge1 (q + 1) _ hres
        have hlr := (List.getElem?_eq_some_iff.1 hres1).1
        unfold bgV at hd
        ((first | refine qd1 rfl rfl fun K hK => ?_ | refine qd3 rfl rfl fun K hK => ?_); simp (disch := (first | omega | (simp only [sz] <;> omega) | fail)) only [go_sem]; (first | refine ⟨_, _, _, hd, ⟨by simp only [sz]; omega, by simp only [sz]; unfold VB; omega, by first | exact heapL_low _ | exact gap_low _ _ _⟩, ?_⟩ | refine ⟨_, _, _, hd, ?_⟩); (try simp only [go_sem]); with_reducible refine hK _ _ _ ?_; clear hK K)
        refine viaF hres1 ?_
        refine Goes.named fun l3 hl3 => ?_
        have hr3 := named_eq hl3 hlr
        refine Goes.finD rfl (by simp (disch := (first | omega | (simp only [heapL_next, List.length_cons, List.length_nil, List.size_toArray, geo_len] <;> omega) | fail)) only [go_sem, resA, res1A, Try.results20, hr3] <;> rfl) ?_
        refine ⟨rfl, l3, q1, a1, rfl, rfl, ?_, by have := named_len hl3; omega, by omega, by omega, ?_⟩
        · rw [hl3]; exact (hge.trans hge1).set' (by omega)
        · rw [hl3, hy]
          exact hW1.set hres1 (by simp) (by simp) (by simp)
      · have t0 := w1 hu0
        repeat (first | refine Goes.reg ?_ | refine Goes.ctl2 rfl ?_ | ((first | refine qv1 rfl rfl rfl fun K hK => ?_ | refine qv3 rfl rfl rfl fun K hK => ?_ | refine qv2 rfl rfl rfl rfl rfl rfl fun K hK => ?_ | refine qv4 rfl rfl rfl rfl rfl rfl fun K hK => ?_ | refine qn1 rfl rfl rfl fun K hK => ?_ | refine qn3 rfl rfl rfl fun K hK => ?_ | refine qt1 rfl rfl rfl fun K hK => ?_ | refine qt3 rfl rfl rfl fun K hK => ?_); simp (disch := (first | omega | (simp only [sz] <;> omega) | fail)) only [go_sem, hb, e1, e4, hb2, e2, e5, hb3, k1, gu, t0]; with_reducible refine hK _ _ ?_; clear hK K) | refine At.nil rfl ?_ | refine RG.nil rfl ?_ | ((first | refine AtL.skipg rfl rfl rfl rfl rfl ?_ | refine RGL.skipg rfl rfl rfl rfl rfl ?_ | refine AtL.skipu rfl rfl rfl rfl ?_ | refine RGL.skipu rfl rfl rfl rfl ?_); simp only [putL, List.set_cons_zero, List.set_cons_succ]) | refine Goes.yes rfl ?_ | refine Goes.no rfl ?_ | refine Goes.drawR [] (by kernel_rfl) ?_)
        refine ih2 _ _ _ _ (by omega) ⟨k + 1, rfl, by omega, fun k' u' h h' => ?_, rfl, rfl, rfl, rfl, rfl, rfl, rfl, rfl, by push_cast; rfl⟩
        by_cases e : k' = k
        · subst e; rw [hu] at h'; cases h'; exact hu0
        · exact hfk k' u' (by omega) h'
    · obtain rfl : k = 8 := by omega
      refine via ?_
      refine ih _ _ _ _ (by omega) ⟨i + 1, rfl, by omega, fun n' ys h h' k u hu => ?_, rfl, rfl, rfl, rfl, rfl, rfl, rfl, by push_cast; rfl⟩
      by_cases e : n' = i
      · subst e; rw [hxs] at h'; cases h'
        exact hfk k u (by have := (List.getElem?_eq_some_iff.1 hu).1; omega) hu
      · exact hfull n' ys (by omega) h' k u hu
  · have hy : yss = [item, 0, 0, 0, 0, 0, 0, 0] :: xss := by
      rcases hs with ⟨n', xs', k', h1, h2, h3, h4, h5, h6⟩ | ⟨_, h⟩
      · exact absurd rfl (hfull n' xs' (by have := (List.getElem?_eq_some_iff.1 h1).1; omega) h1 k' 0 h4)
      · exact h
    refine viaF (And.intro hb (And.intro e1 e4)) ?_
    have e8 : (rowQ ps).length = T := by rw [rowQ_len]; omega
    have e9 := Nat.zero_add T
    (refine At.appE rfl rfl rfl rfl (app_new appT_sss cellsA_zero (cells_full hl hn1 hb (by simp only [rowQ_len]; omega) (by omega)) (by omega) (by omega) (fun x hx => by cases hx; exact ⟨_, gap_hi (i := 2), rfl⟩)) (by simp (disch := (first | omega | (simp only [sz] <;> omega) | fail)) only [go_sem]; (try simp only [sz]); unfold VB; omega) fun K hK => ?_; simp (disch := (first | omega | (simp only [sz] <;> omega) | fail)) only [go_sem]; with_reducible refine hK _ _ ?_; clear hK K)
    refine viaF e9 ?_
    (refine At.appE rfl rfl rfl rfl (app_new appT_su cellsA_zero (cells_gap 6 rfl rfl (by decide)) (by decide) (by decide) (fun x hx => by cases hx; exact ⟨_, gap_hi (i := 5), rfl⟩)) (by simp (disch := (first | omega | (simp only [sz] <;> omega) | fail)) only [go_sem]; (try simp only [sz]); unfold VB; omega) fun K hK => ?_; simp (disch := (first | omega | (simp only [sz] <;> omega) | fail)) only [go_sem]; with_reducible refine hK _ _ ?_; clear hK K)
    have e10 : (rowQ ps).length = T := by rw [rowQ_len]; omega
    refine viaF (And.intro e1 (And.intro e4 e10)) ?_
    rw [hy]
    rcases hU with ⟨h0, h00⟩ | ⟨n2, ps2, rfl, hne, hb2, hps2, hall2⟩
    · subst h0 h00
      (refine At.appE rfl rfl rfl rfl (app_keep appT_su (Nat.le_refl _)) (by simp (disch := (first | omega | (simp only [sz] <;> omega) | fail)) only [go_sem]; (try simp only [sz]); unfold VB; omega) fun K hK => ?_; simp (disch := (first | omega | (simp only [sz] <;> omega) | fail)) only [go_sem]; with_reducible refine hK _ _ ?_; clear hK K)
      refine viaF (And.intro e1 e10) ?_
      refine Goes.finD rfl (by simp (disch := (first | omega | (simp only [heapL_next, List.length_cons, List.length_nil, List.size_toArray, geo_len] <;> omega) | fail)) only [go_sem, resA, res1A, Try.results20] <;> rfl) ?_
      refine ⟨rfl, _, _, some ⟨q + 3, 0, none⟩, rfl, gap_fold hl, Ge.fold l _ q, by rw [fold_len hl]; exact Nat.le_refl _, by simp only [List.length_cons, List.length_nil]; omega, by simp only [List.length_cons, List.length_nil]; omega, q + 3, some 1, ps.set t (some ⟨q + 7, 0, none⟩, 1), rfl, by rw [fold_at hl, ← rowQ_set]; rfl, by simp [hps], fun j p ys hj hy2 => ?_⟩
      by_cases e : t = j
      · subst e
        rw [List.getElem?_set_self (by omega)] at hj hy2
        cases hj; cases hy2
        refine ⟨by simp [Nat.add_comm], .inr ⟨q + 7, some ⟨q + 4, 0, none⟩ :: [], rfl, by simp, by rw [fold_at hl]; rfl, by simp , fun j2 p2 ys2 hj2 hy2 => ?_⟩⟩
        rcases j2 with _ | j2
        · simp only [List.getElem?_cons_zero, Option.some.injEq] at hj2 hy2
          subst hj2 hy2
          exact ⟨q + 4, some 0, rfl, by rw [fold_at hl]; rfl⟩
        · simp only [List.getElem?_cons_succ] at hj2 hy2
          simp at hj2
      · rw [List.getElem?_set_ne e] at hj hy2
        exact ⟨(hall j p ys hj hy2).1, (hall j p ys hj hy2).2.ge (Ge.fold l _ q)⟩
    · have hn2 := (List.getElem?_eq_some_iff.1 hb2).1
      have hxl : 0 < xss.length := List.length_pos_iff.2 hne
      (refine At.appE rfl rfl rfl rfl (app_grow appT_su (gap_hi (i := 7)) rfl rfl (by simp) (cells_full hl hn2 hb2 (by simp only [rowP_len]; omega) (by omega)) (rowP_cellB _) (by omega) (by omega)) (by simp (disch := (first | omega | (simp only [sz] <;> omega) | fail)) only [go_sem]; (try simp only [sz]); unfold VB; omega) fun K hK => ?_; simp (disch := (first | omega | (simp only [sz] <;> omega) | fail)) only [go_sem]; with_reducible refine hK _ _ ?_; clear hK K)
      refine viaF (And.intro e1 e10) ?_
      refine Goes.finD rfl (by simp (disch := (first | omega | (simp only [heapL_next, List.length_cons, List.length_nil, List.size_toArray, geo_len] <;> omega) | fail)) only [go_sem, resA, res1A, Try.results20] <;> rfl) ?_
      refine ⟨rfl, _, _, some ⟨q + 3, 0, none⟩, rfl, gap_fold hl, Ge.fold l _ q, by rw [fold_len hl]; exact Nat.le_refl _, by simp only [List.length_cons, List.length_nil]; omega, by simp only [List.length_cons, List.length_nil]; omega, q + 3, some 1, ps.set t (some ⟨q + 8, 0, none⟩, 1 + xss.length), rfl, by rw [fold_at hl, ← rowQ_set]; rfl, by simp [hps], fun j p ys hj hy2 => ?_⟩
      by_cases e : t = j
      · subst e
        rw [List.getElem?_set_self (by omega)] at hj hy2
        cases hj; cases hy2
        refine ⟨by simp [Nat.add_comm], .inr ⟨q + 8, some ⟨q + 4, 0, none⟩ :: ps2, rfl, by simp, by rw [fold_at hl]; rfl, by simp [hps2], fun j2 p2 ys2 hj2 hy2 => ?_⟩⟩
        rcases j2 with _ | j2
        · simp only [List.getElem?_cons_zero, Option.some.injEq] at hj2 hy2
          subst hj2 hy2
          exact ⟨q + 4, some 0, rfl, by rw [fold_at hl]; rfl⟩
        · simp only [List.getElem?_cons_succ] at hj2 hy2
          exact (hall2 j2 p2 ys2 hj2 hy2).ge (Ge.fold l _ q)
      · rw [List.getElem?_set_ne e] at hj hy2
        exact ⟨(hall j p ys hj hy2).1, (hall j p ys hj hy2).2.ge (Ge.fold l _ q)⟩
end Go.Proofs.Ytjdbknnacaacaaa
namespace Go.Proofs.Ytjdbknnacaacaaa
open Go Go.RowKit
set_option linter.unusedSimpArgs false
set_option linter.unusedVariables false
set_option maxHeartbeats 2000000 in
theorem same9_does (S : St) {l : List (Option Blk)} {q : Nat} {a b : Option Addr} {xss : List (List UInt64)} (hl : l.length ≤ q) (hq : q ≤ 900000000) (hU : IsUU l a xss) (hV : IsUU l b xss) (h8 : ∀ xs ∈ xss, xs.length = 8) (hn : xss.length ≤ 1000) :
    ∃ v hh S1, (S1 = S ∧ v = .bool true ∧ hh = heapJ l q []) ∧ DoesD OF 23 #[.slice a xss.length xss.length, .slice b xss.length xss.length] (heapJ l q []) S v hh S1 := by
  refine DoesD.mk Try.func23 rfl rfl ?_
  rw [Try.ntmps23]; simp only [List.size_toArray, List.length_cons, List.length_nil, List.replicate, List.cons_append, List.nil_append]
  refine via ?_
  refine Goes.wh (fun z tmps h S' => ∃ i : Nat, z = xss.length - i ∧ i ≤ xss.length ∧ S' = S ∧ h = heapJ l q [] ∧ tmps.length = 37 ∧ tmps.getD 0 undef = .slice a xss.length xss.length ∧ tmps.getD 1 undef = .slice b xss.length xss.length ∧ tmps.getD 5 undef = .int .i64 i) (m := xss.length)
    ⟨0, rfl, by omega, rfl, rfl, rfl, rfl, rfl, rfl⟩ ?_
  rintro z tmps h S' ih ⟨i, rfl, hi, rfl, rfl, hlt, f0, f1, f5⟩
  obtain ⟨V, hV, hT⟩ := frame_lit hlt; replace hT : _ = ([V 0, V 1, V 2, V 3, V 4, V 5, V 6, V 7, V 8, V 9, V 10, V 11, V 12, V 13, V 14, V 15, V 16, V 17, V 18, V 19, V 20, V 21, V 22, V 23, V 24, V 25, V 26, V 27, V 28, V 29, V 30, V 31, V 32, V 33, V 34, V 35, V 36] : List Value) := hT; rw [hV] at f0 f1 f5; subst hT; simp only [f0, f1, f5]; clear hV hlt
  by_cases hix : i < xss.length
  · obtain ⟨h0, _⟩ | ⟨n, ps, rfl, hne, hb, hps, hall⟩ := id hU
    · rw [h0] at hix; simp at hix
    obtain ⟨h0, _⟩ | ⟨m, ps', rfl, _, hb', hps', hall'⟩ := id hV
    · rw [h0] at hix; simp at hix
    obtain ⟨xs, hxs⟩ : ∃ xs, xss[i]? = some xs := ⟨_, List.getElem?_eq_getElem hix⟩
    obtain ⟨p, hp⟩ : ∃ p, ps[i]? = some p := ⟨_, List.getElem?_eq_getElem (by omega)⟩
    obtain ⟨p', hp'⟩ : ∃ p, ps'[i]? = some p := ⟨_, List.getElem?_eq_getElem (by omega)⟩
    obtain ⟨n2, g2, rfl, hb2⟩ := hall i p xs hp hxs
    obtain ⟨m2, g2', rfl, hb2'⟩ := hall' i p' xs hp' hxs
    have hx8 := h8 xs (List.mem_of_getElem? hxs)
    have hnl := (List.getElem?_eq_some_iff.1 hb).1
    have hn2l := (List.getElem?_eq_some_iff.1 hb2).1
    have hml := (List.getElem?_eq_some_iff.1 hb').1
    have hm2l := (List.getElem?_eq_some_iff.1 hb2').1
    have e1 := Nat.mul_one i
    have e3 : (rowP ps)[i]? = some (.slice (some ⟨n2, 0, none⟩) 8 8) := by simp [rowP, hp]
    have e4 : (rowP ps')[i]? = some (.slice (some ⟨m2, 0, none⟩) 8 8) := by simp [rowP, hp']
    refine via ?_
    refine Goes.wh (fun z tmps h S2 => ∃ k : Nat, z = 8 - k ∧ k ≤ 8 ∧ S2 = S' ∧ h = heapJ l q [] ∧ tmps.length = 37 ∧ tmps.getD 0 undef = .slice (some ⟨n, 0, none⟩) xss.length xss.length ∧ tmps.getD 1 undef = .slice (some ⟨m, 0, none⟩) xss.length xss.length ∧ tmps.getD 5 undef = .int .i64 i ∧ tmps.getD 6 undef = .int .i64 k) (m := 8)
      ⟨0, rfl, by omega, rfl, rfl, rfl, rfl, rfl, rfl, rfl⟩ ?_
    rintro z tmps h S2 ih2 ⟨k, rfl, hk, rfl, rfl, hlt, f0, f1, f5, f6⟩
    obtain ⟨V, hV, hT⟩ := frame_lit hlt; replace hT : _ = ([V 0, V 1, V 2, V 3, V 4, V 5, V 6, V 7, V 8, V 9, V 10, V 11, V 12, V 13, V 14, V 15, V 16, V 17, V 18, V 19, V 20, V 21, V 22, V 23, V 24, V 25, V 26, V 27, V 28, V 29, V 30, V 31, V 32, V 33, V 34, V 35, V 36] : List Value) := hT; rw [hV] at f0 f1 f5 f6; subst hT; simp only [f0, f1, f5, f6]; clear hV hlt
    by_cases hk8 : k < 8
    · obtain ⟨u, hu⟩ : ∃ u, xs[k]? = some u := ⟨_, List.getElem?_eq_getElem (by omega)⟩
      have k1 := Nat.mul_one k
      have gu : (numRow .u64 (uvs xs))[k]? = some (.int .u64 (u.toNat : Int)) := by simp [numRow, uvs, hu]
      have t0 : ((u.toNat : Int) != (u.toNat : Int)) = false := by simp
      repeat (first | refine Goes.reg ?_ | refine Goes.ctl2 rfl ?_ | ((first | refine qv1 rfl rfl rfl fun K hK => ?_ | refine qv3 rfl rfl rfl fun K hK => ?_ | refine qv2 rfl rfl rfl rfl rfl rfl fun K hK => ?_ | refine qv4 rfl rfl rfl rfl rfl rfl fun K hK => ?_ | refine qn1 rfl rfl rfl fun K hK => ?_ | refine qn3 rfl rfl rfl fun K hK => ?_ | refine qt1 rfl rfl rfl fun K hK => ?_ | refine qt3 rfl rfl rfl fun K hK => ?_); simp (disch := (first | omega | (simp only [sz] <;> omega) | fail)) only [go_sem, e1, k1, hb, e3, hb2, gu, hb', e4, hb2', t0]; with_reducible refine hK _ _ ?_; clear hK K) | refine At.nil rfl ?_ | refine RG.nil rfl ?_ | ((first | refine AtL.skipg rfl rfl rfl rfl rfl ?_ | refine RGL.skipg rfl rfl rfl rfl rfl ?_ | refine AtL.skipu rfl rfl rfl rfl ?_ | refine RGL.skipu rfl rfl rfl rfl ?_); simp only [putL, List.set_cons_zero, List.set_cons_succ]) | refine Goes.yes rfl ?_ | refine Goes.no rfl ?_ | refine Goes.drawR [] (by kernel_rfl) ?_)
      exact ih2 _ _ _ _ (by omega) ⟨k + 1, rfl, by omega, rfl, rfl, rfl, rfl, rfl, rfl, by push_cast; rfl⟩
    · obtain rfl : k = 8 := by omega
      refine via ?_
      exact ih _ _ _ _ (by omega) ⟨i + 1, rfl, by omega, rfl, rfl, rfl, rfl, rfl, by push_cast; rfl⟩
  · refine via ?_
    refine Goes.finD rfl (by simp (disch := (first | omega | (simp only [heapL_next, List.length_cons, List.length_nil, List.size_toArray, geo_len] <;> omega) | fail)) only [go_sem, resA, res1A, Try.results23] <;> rfl) ?_
    exact ⟨rfl, rfl, rfl⟩
def allZ (xss : List (List UInt64)) : Prop := ∀ (n : Nat) (ys : List UInt64), xss[n]? = some ys → ∀ (k : Nat) (u : UInt64), ys[k]? = some u → u = 0
def TakeDoc (zs : List (List (List UInt64))) (T t : Nat) (v : UInt64) (zs' : List (List (List UInt64))) : Prop :=
  (∃ (j n k : Nat) (xss : List (List UInt64)) (xs : List UInt64), j < T ∧ (∀ j' xss, j' < j → zs[(t + j') % T]? = some xss → allZ xss) ∧ zs[(t + j) % T]? = some xss ∧ xss[n]? = some xs ∧ (∀ (n' : Nat) (ys : List UInt64), n' < n → xss[n']? = some ys → ∀ (k : Nat) (u : UInt64), ys[k]? = some u → u = 0) ∧
      k < 8 ∧ xs[k]? = some v ∧ v ≠ 0 ∧ (∀ (k' : Nat) (u : UInt64), k' < k → xs[k']? = some u → u = 0) ∧ zs' = zs.set ((t + j) % T) (xss.set n (xs.set k 0))) ∨
    ((∀ j' xss, j' < T → zs[(t + j') % T]? = some xss → allZ xss) ∧ v = 0 ∧ zs' = zs)
set_option maxHeartbeats 2000000 in
theorem rtake9 (S : St) {l : List (Option Blk)} {q : Nat} {a : Option Addr} {zs zs' : List (List (List UInt64))} {adds : Int} {T t : Nat} {v : UInt64} (hl : l.length ≤ q) (hq : q ≤ 800000000) (hW : IsW l a zs) (hT : zs.length = T) (hT1 : T ≤ 64) (ht : t < T) (h8 : ∀ xss ∈ zs, ∀ ys ∈ xss, ys.length = 8) (hn : ∀ xss ∈ zs, xss.length ≤ 1000) (hs : TakeDoc zs T t v zs') :
    ∃ w hh S1, (S1 = S ∧ ∃ l' q' a', w = .tuple #[bgV a' T adds, .int .u64 (v.toNat : Int)] ∧ hh = heapJ l' q' [] ∧ Ge l l' ∧ l'.length ≤ q' ∧ q ≤ q' ∧ q' ≤ q + 80 ∧ IsW l' a' zs') ∧ DoesD OF 21 #[bgV a T adds, .int .i64 t] (heapJ l q []) S w hh S1 := by
  refine DoesD.mk Try.func21 rfl rfl ?_
  rw [Try.ntmps21]; simp only [List.size_toArray, List.length_cons, List.length_nil, List.replicate, List.cons_append, List.nil_append]
  unfold bgV
  obtain ⟨n1, g1, ps, rfl, hb, hps, hall⟩ := id hW
  have hn1 := (List.getElem?_eq_some_iff.1 hb).1
  refine via ?_
  refine Goes.wh (fun z tmps h S' => ∃ i : Nat, z = T - i ∧ i ≤ T ∧ (∀ j' xss, j' < i → zs[(t + j') % T]? = some xss → allZ xss) ∧ S' = S ∧ h = heapJ l q [some { cells := [.slice (some ⟨n1, 0, none⟩) T T, .int .i64 adds], elem := 40 }, some { cells := [.slice none 0 0, .int .i64 0], elem := 40 }] ∧ tmps.length = 59 ∧ tmps.getD 1 undef = .int .i64 t ∧ tmps.getD 2 undef = .pointer (some ⟨q, 0, none⟩) ∧ tmps.getD 4 undef = .pointer (some ⟨q + 1, 0, none⟩) ∧ tmps.getD 6 undef = .int .i64 i) (m := T)
    ⟨0, rfl, by omega, fun j' ys h => by omega, rfl, rfl, rfl, rfl, rfl, rfl, rfl⟩ ?_
  rintro z tmps h S' ih ⟨i, rfl, hi, hzz, rfl, rfl, hlt, f1, f2, f4, f6⟩
  obtain ⟨V, hV, hT⟩ := frame_lit hlt; replace hT : _ = ([V 0, V 1, V 2, V 3, V 4, V 5, V 6, V 7, V 8, V 9, V 10, V 11, V 12, V 13, V 14, V 15, V 16, V 17, V 18, V 19, V 20, V 21, V 22, V 23, V 24, V 25, V 26, V 27, V 28, V 29, V 30, V 31, V 32, V 33, V 34, V 35, V 36, V 37, V 38, V 39, V 40, V 41, V 42, V 43, V 44, V 45, V 46, V 47, V 48, V 49, V 50, V 51, V 52, V 53, V 54, V 55, V 56, V 57, V 58] : List Value) := hT; rw [hV] at f1 f2 f4 f6; subst hT; simp only [f1, f2, f4, f6]; clear hV hlt
  by_cases hiT : i < T
  · obtain ⟨tt, htt⟩ : ∃ tt, tt = (t + i) % T := ⟨_, rfl⟩
    have htT : tt < T := by rw [htt]; exact Nat.mod_lt _ (by omega)
    have hmod : ((t : Int) + (i : Int)).tmod (T : Int) = (tt : Int) := by rw [htt]; exact add_mod
    obtain ⟨xss, hz⟩ : ∃ xss, zs[tt]? = some xss := ⟨_, List.getElem?_eq_getElem (by omega)⟩
    have h8' := h8 xss (List.mem_of_getElem? hz)
    have hn' := hn xss (List.mem_of_getElem? hz)
    obtain ⟨⟨ap, np⟩, hpt⟩ : ∃ p, ps[tt]? = some p := ⟨_, List.getElem?_eq_getElem (by omega)⟩
    obtain ⟨hnp, hU⟩ := hall tt _ _ hpt hz
    simp only at hnp hU
    subst hnp
    have e1 := Nat.mul_one tt
    have e4 : (rowQ ps)[tt]? = some (.slice ap xss.length xss.length) := by simp [rowQ, hpt]
    refine viaF hmod ?_
    refine Goes.wh (fun z tmps h S2 => ∃ n : Nat, z = xss.length - n ∧ n ≤ xss.length ∧ (∀ (n' : Nat) (ys : List UInt64), n' < n → xss[n']? = some ys → ∀ (k : Nat) (u : UInt64), ys[k]? = some u → u = 0) ∧ S2 = S' ∧ h = heapJ l q [some { cells := [.slice (some ⟨n1, 0, none⟩) T T, .int .i64 adds], elem := 40 }, some { cells := [.slice none 0 0, .int .i64 0], elem := 40 }] ∧ tmps.length = 59 ∧ tmps.getD 1 undef = .int .i64 t ∧ tmps.getD 2 undef = .pointer (some ⟨q, 0, none⟩) ∧ tmps.getD 4 undef = .pointer (some ⟨q + 1, 0, none⟩) ∧ tmps.getD 6 undef = .int .i64 i ∧ tmps.getD 7 undef = .int .i64 tt ∧ tmps.getD 8 undef = .int .i64 n) (m := xss.length)
      ⟨0, rfl, by omega, fun n' ys h => by omega, rfl, rfl, rfl, rfl, rfl, rfl, rfl, rfl, rfl⟩ ?_
    rintro z tmps h S2 ih2 ⟨n, rfl, hnn, hfull, rfl, rfl, hlt, f1, f2, f4, f6, f7, f8⟩
    obtain ⟨V, hV, hT⟩ := frame_lit hlt; replace hT : _ = ([V 0, V 1, V 2, V 3, V 4, V 5, V 6, V 7, V 8, V 9, V 10, V 11, V 12, V 13, V 14, V 15, V 16, V 17, V 18, V 19, V 20, V 21, V 22, V 23, V 24, V 25, V 26, V 27, V 28, V 29, V 30, V 31, V 32, V 33, V 34, V 35, V 36, V 37, V 38, V 39, V 40, V 41, V 42, V 43, V 44, V 45, V 46, V 47, V 48, V 49, V 50, V 51, V 52, V 53, V 54, V 55, V 56, V 57, V 58] : List Value) := hT; rw [hV] at f1 f2 f4 f6 f7 f8; subst hT; simp only [f1, f2, f4, f6, f7, f8]; clear hV hlt
    by_cases hix : n < xss.length
    · rcases hU with ⟨h0, _⟩ | ⟨n2, ps2, rfl, hne, hb2, hps2, hall2⟩
      · rw [h0] at hix; simp at hix
      obtain ⟨xs, hxs⟩ : ∃ xs, xss[n]? = some xs := ⟨_, List.getElem?_eq_getElem hix⟩
      have hx8 := h8' xs (List.mem_of_getElem? hxs)
      obtain ⟨p3, hp3⟩ : ∃ p, ps2[n]? = some p := ⟨_, List.getElem?_eq_getElem (by omega)⟩
      obtain ⟨n3, g3, rfl, hb3⟩ := hall2 n _ _ hp3 hxs
      have hn2 := (List.getElem?_eq_some_iff.1 hb2).1
      have hn3 := (List.getElem?_eq_some_iff.1 hb3).1
      have e2 := Nat.mul_one n
      have e5 : (rowP ps2)[n]? = some (.slice (some ⟨n3, 0, none⟩) 8 8) := by simp [rowP, hp3]
      refine viaF (And.intro hb (And.intro e1 e4)) ?_
      refine Goes.wh (fun z tmps h S3 => ∃ k : Nat, z = 8 - k ∧ k ≤ 8 ∧ (∀ (k' : Nat) (u : UInt64), k' < k → xs[k']? = some u → u = 0) ∧ S3 = S2 ∧ h = heapJ l q [some { cells := [.slice (some ⟨n1, 0, none⟩) T T, .int .i64 adds], elem := 40 }, some { cells := [.slice none 0 0, .int .i64 0], elem := 40 }] ∧ tmps.length = 59 ∧ tmps.getD 1 undef = .int .i64 t ∧ tmps.getD 2 undef = .pointer (some ⟨q, 0, none⟩) ∧ tmps.getD 4 undef = .pointer (some ⟨q + 1, 0, none⟩) ∧ tmps.getD 6 undef = .int .i64 i ∧ tmps.getD 7 undef = .int .i64 tt ∧ tmps.getD 8 undef = .int .i64 n ∧ tmps.getD 9 undef = .int .i64 k) (m := 8)
        ⟨0, rfl, by omega, fun k' u h => by omega, rfl, rfl, rfl, rfl, rfl, rfl, rfl, rfl, rfl, rfl⟩ ?_
      rintro z tmps h S3 ih3 ⟨k, rfl, hk, hfk, rfl, rfl, hlt, f1, f2, f4, f6, f7, f8, f9⟩
      obtain ⟨V, hV, hT⟩ := frame_lit hlt; replace hT : _ = ([V 0, V 1, V 2, V 3, V 4, V 5, V 6, V 7, V 8, V 9, V 10, V 11, V 12, V 13, V 14, V 15, V 16, V 17, V 18, V 19, V 20, V 21, V 22, V 23, V 24, V 25, V 26, V 27, V 28, V 29, V 30, V 31, V 32, V 33, V 34, V 35, V 36, V 37, V 38, V 39, V 40, V 41, V 42, V 43, V 44, V 45, V 46, V 47, V 48, V 49, V 50, V 51, V 52, V 53, V 54, V 55, V 56, V 57, V 58] : List Value) := hT; rw [hV] at f1 f2 f4 f6 f7 f8 f9; subst hT; simp only [f1, f2, f4, f6, f7, f8, f9]; clear hV hlt
      by_cases hk8 : k < 8
      · obtain ⟨u, hu⟩ : ∃ u, xs[k]? = some u := ⟨_, List.getElem?_eq_getElem (by omega)⟩
        have k1 := Nat.mul_one k
        have gu : (numRow .u64 (uvs xs))[k]? = some (.int .u64 (u.toNat : Int)) := by simp [numRow, uvs, hu]
        by_cases hu0 : u = 0
        · have t0 := v0 hu0
          subst hu0
          refine viaF (And.intro hb (And.intro e1 (And.intro e4 (And.intro hb2 (And.intro e2 (And.intro e5 (And.intro hb3 (And.intro k1 (And.intro gu t0))))))))) ?_
          refine ih3 _ _ _ _ (by omega) ⟨k + 1, rfl, by omega, fun k' u' h h' => ?_, rfl, rfl, rfl, rfl, rfl, rfl, rfl, rfl, rfl, by push_cast; rfl⟩
          by_cases e : k' = k
          · subst e; rw [hu] at h'; cases h'; rfl
          · exact hfk k' u' (by omega) h'
        · have t0 := v1 hu0
          have hy : v = u ∧ zs' = zs.set tt (xss.set n (xs.set k 0)) := by
            rcases hs with ⟨j', n', k', xss', xs', h1, h2, h3, h4, h5, h6, h7, h8, h9, h10⟩ | ⟨h1, _, _⟩
            · have hj' : j' = i := by
                rcases Nat.lt_trichotomy j' i with h | h | h
                · exact absurd (hzz j' xss' h h3 n' xs' h4 k' v h7) h8
                · exact h
                · exact absurd (h2 i xss h (by rw [← htt]; exact hz) n xs hxs k u hu) hu0
              subst hj'
              rw [← htt, hz] at h3; cases h3
              have hn' : n' = n := by
                rcases Nat.lt_trichotomy n' n with h | h | h
                · exact absurd (hfull n' xs' h h4 k' v h7) h8
                · exact h
                · exact absurd (h5 n xs h hxs k u hu) hu0
              subst hn'
              rw [hxs] at h4; cases h4
              have hk' : k' = k := by
                rcases Nat.lt_trichotomy k' k with h | h | h
                · exact absurd (hfk k' v h h7) h8
                · exact h
                · exact absurd (h9 k u h hu) hu0
              subst hk'
              rw [hu] at h7; cases h7
              exact ⟨rfl, by rw [h10, htt]⟩
            · exact absurd (h1 i xss hiT (by rw [← htt]; exact hz) n xs hxs k u hu) hu0
          obtain ⟨rfl, rfl⟩ := hy
          refine viaF (And.intro hb (And.intro e1 (And.intro e4 (And.intro hb2 (And.intro e2 (And.intro e5 (And.intro hb3 (And.intro k1 (And.intro gu t0))))))))) ?_
          refine At.folds hl fun lf hlen hge hrow => ?_
          simp only [List.length_cons, List.length_nil] at hlen
          have hres : lf[q + 1]? = _ := hrow 1
          simp only [List.getElem?_cons_succ, List.getElem?_cons_zero] at hres
          obtain ⟨v1, hh1, S1, ⟨rfl, l1, q1, a1, rfl, rfl, hge1, hl1, hqa, hq1, hW1⟩, hd⟩ := rwith9 S3 (l := lf) (q := q + 2) (a := some ⟨n1, 0, none⟩) (zs := zs) (adds := adds) (T := T) (t := tt) (n := n) (k := k) (item := 0) (by omega) (by omega) (hW.ge hge) hT hT1 hz hxs h8' hk8 hn'
          have hres1 := hge1 (q + 1) _ hres
          have hlr := (List.getElem?_eq_some_iff.1 hres1).1
          rw [show ((UInt64.toNat 0 : Nat) : Int) = 0 from rfl] at hd
          unfold bgV at hd
          ((first | refine qd1 rfl rfl fun K hK => ?_ | refine qd3 rfl rfl fun K hK => ?_); simp (disch := (first | omega | (simp only [sz] <;> omega) | fail)) only [go_sem]; (first | refine ⟨_, _, _, hd, ⟨by simp only [sz]; omega, by simp only [sz]; unfold VB; omega, by first | exact heapL_low _ | exact gap_low _ _ _⟩, ?_⟩ | refine ⟨_, _, _, hd, ?_⟩); (try simp only [go_sem]); with_reducible refine hK _ _ _ ?_; clear hK K)
          refine viaF hres1 ?_
          refine Goes.named fun l3 hl3 => ?_
          have hr3 := named_eq hl3 hlr
          refine Goes.finD rfl (by simp (disch := (first | omega | (simp only [heapL_next, List.length_cons, List.length_nil, List.size_toArray, geo_len] <;> omega) | fail)) only [go_sem, resA, res1A, Try.results21, hr3] <;> rfl) ?_
          refine ⟨rfl, l3, q1, a1, rfl, rfl, ?_, by have := named_len hl3; omega, by omega, by omega, ?_⟩
          · rw [hl3]; exact (hge.trans hge1).set' (by omega)
          · rw [hl3]
            exact hW1.set hres1 (by simp) (by simp) (by simp)
      · obtain rfl : k = 8 := by omega
        refine via ?_
        refine ih2 _ _ _ _ (by omega) ⟨n + 1, rfl, by omega, fun n' ys h h' k u hu => ?_, rfl, rfl, rfl, rfl, rfl, rfl, rfl, rfl, by push_cast; rfl⟩
        by_cases e : n' = n
        · subst e; rw [hxs] at h'; cases h'
          exact hfk k u (by have := (List.getElem?_eq_some_iff.1 hu).1; omega) hu
        · exact hfull n' ys (by omega) h' k u hu
    · refine viaF (And.intro hb (And.intro e1 e4)) ?_
      refine ih _ _ _ _ (by omega) ⟨i + 1, rfl, by omega, fun j' ys h h' => ?_, rfl, rfl, rfl, rfl, rfl, rfl, by push_cast; rfl⟩
      by_cases e : j' = i
      · subst e; rw [← htt, hz] at h'; cases h'
        exact fun n' zz h3 => hfull n' zz (by have := (List.getElem?_eq_some_iff.1 h3).1; omega) h3
      · exact hzz j' ys (by omega) h'
  · have hy : v = 0 ∧ zs' = zs := by
      rcases hs with ⟨j', n', k', xss', xs', h1, h2, h3, h4, h5, h6, h7, h8, h9, h10⟩ | ⟨_, h1, h2⟩
      · exact absurd (hzz j' xss' (by omega) h3 n' xs' h4 k' v h7) h8
      · exact ⟨h1, h2⟩
    obtain ⟨rfl, rfl⟩ := hy
    refine viaF hb ?_
    refine Goes.finD rfl (by simp (disch := (first | omega | (simp only [heapL_next, List.length_cons, List.length_nil, List.size_toArray, geo_len] <;> omega) | fail)) only [go_sem, resA, res1A, Try.results21] <;> rfl) ?_
    exact ⟨rfl, _, _, some ⟨n1, 0, none⟩, rfl, gap_fold hl, Ge.fold l _ q, by rw [fold_len hl]; exact Nat.le_refl _, by simp only [List.length_cons, List.length_nil]; omega, by simp only [List.length_cons, List.length_nil]; omega, hW.ge (Ge.fold l _ q)⟩
def keepB (xs : List UInt64) : Bool := xs.any fun u => u != 0
def anyB (xs : List UInt64) (k : Nat) : Bool := (xs.take k).any fun u => u != 0
theorem anyB_succ {xs : List UInt64} {k : Nat} {u : UInt64} (h : xs[k]? = some u) : anyB xs (k + 1) = (anyB xs k || (u != 0)) := by
  unfold anyB
  rw [List.take_add_one, h, List.any_append]
  simp
theorem keepB_eq {xs : List UInt64} (h : xs.length = 8) : anyB xs 8 = keepB xs := by
  unfold anyB keepB
  rw [List.take_of_length_le (by omega)]
def keepN (xss : List (List UInt64)) (n : Nat) : List (List UInt64) := (xss.take n).filter keepB
theorem keepN_succ {xss : List (List UInt64)} {n : Nat} {xs : List UInt64} (h : xss[n]? = some xs) : keepN xss (n + 1) = keepN xss n ++ (if keepB xs then [xs] else []) := by
  unfold keepN
  rw [List.take_add_one, h, List.filter_append]
  congr 1
  cases e : keepB xs <;> simp [e]
theorem keepN_le (xss : List (List UInt64)) (n : Nat) : (keepN xss n).length ≤ n := Nat.le_trans (List.length_filter_le _ _) (List.length_take_le _ _)
set_option maxHeartbeats 2000000 in
theorem rprune9 (S : St) {l : List (Option Blk)} {q : Nat} {a : Option Addr} {zs : List (List (List UInt64))} {adds : Int} {T t : Nat} {xss : List (List UInt64)} (hl : l.length ≤ q) (hq : q ≤ 800000000) (hW : IsW l a zs) (hT : zs.length = T) (hT1 : T ≤ 64) (hz : zs[t]? = some xss) (h8 : ∀ ys ∈ xss, ys.length = 8) (hn : xss.length ≤ 1000) :
    ∃ v hh S1, (S1 = S ∧ ∃ l' q' a', v = bgV a' T adds ∧ hh = heapJ l' q' [] ∧ Ge l l' ∧ l'.length ≤ q' ∧ q ≤ q' ∧ q' ≤ q + 20000 ∧ IsW l' a' (zs.set t (xss.filter keepB))) ∧ DoesD OF 22 #[bgV a T adds, .int .i64 t] (heapJ l q []) S v hh S1 := by
  refine DoesD.mk Try.func22 rfl rfl ?_
  rw [Try.ntmps22]; simp only [List.size_toArray, List.length_cons, List.length_nil, List.replicate, List.cons_append, List.nil_append]
  unfold bgV
  obtain ⟨n1, g1, ps, rfl, hb, hps, hall⟩ := id hW
  have hn1 := (List.getElem?_eq_some_iff.1 hb).1
  have htT : t < T := by have := (List.getElem?_eq_some_iff.1 hz).1; omega
  obtain ⟨⟨ap, np⟩, hpt⟩ : ∃ p, ps[t]? = some p := ⟨_, List.getElem?_eq_getElem (by omega)⟩
  obtain ⟨hnp, hU⟩ := hall t _ _ hpt hz
  simp only at hnp hU
  subst hnp
  have e1 := Nat.mul_one t
  have e4 : (rowQ ps)[t]? = some (.slice ap xss.length xss.length) := by simp [rowQ, hpt]
  refine via ?_
  refine Goes.folds hl fun lf hlen hge hrow => ?_
  simp only [List.length_cons, List.length_nil] at hlen ⊢
  have hbox : lf[q]? = _ := hrow 0
  have hres : lf[q + 1]? = _ := hrow 1
  simp only [List.getElem?_cons_succ, List.getElem?_cons_zero] at hbox hres
  refine Goes.wh (fun z tmps h S' => ∃ (n qq : Nat) (lf : List (Option Blk)) (ak : Option Addr), z = xss.length - n ∧ n ≤ xss.length ∧ lf.length ≤ qq ∧ q + 2 ≤ qq ∧ qq ≤ q + 2 + 10 * n ∧ Ge l lf ∧ lf[q]? = some (some { cells := [.slice (some ⟨n1, 0, none⟩) T T, .int .i64 adds], elem := 40 }) ∧ lf[q + 1]? = some (some { cells := [.slice none 0 0, .int .i64 0], elem := 40 }) ∧ IsUU lf ak (keepN xss n) ∧ (∀ m, ak = some ⟨m, 0, none⟩ → q + 2 ≤ m) ∧ S' = S ∧ h = heapJ lf qq [] ∧ tmps.length = 62 ∧ tmps.getD 1 undef = .int .i64 t ∧ tmps.getD 2 undef = .pointer (some ⟨q, 0, none⟩) ∧ tmps.getD 4 undef = .pointer (some ⟨q + 1, 0, none⟩) ∧ tmps.getD 5 undef = .slice ak (keepN xss n).length (keepN xss n).length ∧ tmps.getD 6 undef = .int .i64 n) (m := xss.length)
    ⟨0, q + 2, lf, none, rfl, by omega, by omega, by omega, by omega, hge, hbox, hres, .inl ⟨rfl, rfl⟩, fun m h => (by cases h), rfl, rfl, rfl, rfl, rfl, rfl, rfl, rfl⟩ ?_
  clear hbox hres hrow hge hlen
  rintro z tmps h S' ih ⟨n, qq, lf, ak, rfl, hnn, hlq, hqq, hqq2, hge, hbox, hres, hK, hak, rfl, rfl, hlt, f1, f2, f4, f5, f6⟩
  obtain ⟨V, hV, hT⟩ := frame_lit hlt; replace hT : _ = ([V 0, V 1, V 2, V 3, V 4, V 5, V 6, V 7, V 8, V 9, V 10, V 11, V 12, V 13, V 14, V 15, V 16, V 17, V 18, V 19, V 20, V 21, V 22, V 23, V 24, V 25, V 26, V 27, V 28, V 29, V 30, V 31, V 32, V 33, V 34, V 35, V 36, V 37, V 38, V 39, V 40, V 41, V 42, V 43, V 44, V 45, V 46, V 47, V 48, V 49, V 50, V 51, V 52, V 53, V 54, V 55, V 56, V 57, V 58, V 59, V 60, V 61] : List Value) := hT; rw [hV] at f1 f2 f4 f5 f6; subst hT; simp only [f1, f2, f4, f5, f6]; clear hV hlt
  have hl1 := (List.getElem?_eq_some_iff.1 hbox).1
  have hl2 := (List.getElem?_eq_some_iff.1 hres).1
  have hbg := hge _ _ hb
  have hlg := (List.getElem?_eq_some_iff.1 hbg).1
  have hkl := keepN_le xss n
  by_cases hix : n < xss.length
  · rcases hU with ⟨h0, _⟩ | ⟨n2, ps2, rfl, hne, hb2, hps2, hall2⟩
    · rw [h0] at hix; simp at hix
    obtain ⟨xs, hxs⟩ : ∃ xs, xss[n]? = some xs := ⟨_, List.getElem?_eq_getElem hix⟩
    have hx8 := h8 xs (List.mem_of_getElem? hxs)
    obtain ⟨p3, hp3⟩ : ∃ p, ps2[n]? = some p := ⟨_, List.getElem?_eq_getElem (by omega)⟩
    obtain ⟨n3, g3, rfl, hb3⟩ := hall2 n _ _ hp3 hxs
    have hb2g := hge _ _ hb2
    have hb3g := hge _ _ hb3
    have hn2 := (List.getElem?_eq_some_iff.1 hb2g).1
    have hn3 := (List.getElem?_eq_some_iff.1 hb3g).1
    have e2 := Nat.mul_one n
    have e5 : (rowP ps2)[n]? = some (.slice (some ⟨n3, 0, none⟩) 8 8) := by simp [rowP, hp3]
    refine viaF (And.intro hbox (And.intro hbg (And.intro e1 e4))) ?_
    refine Goes.wh (fun z tmps h S3 => ∃ k : Nat, z = 8 - k ∧ k ≤ 8 ∧ S3 = S' ∧ h = heapJ lf qq [] ∧ tmps.length = 62 ∧ tmps.getD 1 undef = .int .i64 t ∧ tmps.getD 2 undef = .pointer (some ⟨q, 0, none⟩) ∧ tmps.getD 4 undef = .pointer (some ⟨q + 1, 0, none⟩) ∧ tmps.getD 5 undef = .slice ak (keepN xss n).length (keepN xss n).length ∧ tmps.getD 6 undef = .int .i64 n ∧ tmps.getD 7 undef = .bool (anyB xs k) ∧ tmps.getD 8 undef = .int .i64 k) (m := 8)
      ⟨0, rfl, by omega, rfl, rfl, rfl, rfl, rfl, rfl, rfl, rfl, rfl, rfl⟩ ?_
    rintro z tmps h S3 ih3 ⟨k, rfl, hk, rfl, rfl, hlt, f1, f2, f4, f5, f6, f7, f8⟩
    by_cases hk8 : k < 8
    · obtain ⟨u, hu⟩ : ∃ u, xs[k]? = some u := ⟨_, List.getElem?_eq_getElem (by omega)⟩
      have k1 := Nat.mul_one k
      have gu : (numRow .u64 (uvs xs))[k]? = some (.int .u64 (u.toNat : Int)) := by simp [numRow, uvs, hu]
      have hs := anyB_succ hu
      cases ha : anyB xs k with
      | true =>
        rw [ha] at f7 hs
        rw [Bool.true_or] at hs
        obtain ⟨V, hV, hT⟩ := frame_lit hlt; replace hT : _ = ([V 0, V 1, V 2, V 3, V 4, V 5, V 6, V 7, V 8, V 9, V 10, V 11, V 12, V 13, V 14, V 15, V 16, V 17, V 18, V 19, V 20, V 21, V 22, V 23, V 24, V 25, V 26, V 27, V 28, V 29, V 30, V 31, V 32, V 33, V 34, V 35, V 36, V 37, V 38, V 39, V 40, V 41, V 42, V 43, V 44, V 45, V 46, V 47, V 48, V 49, V 50, V 51, V 52, V 53, V 54, V 55, V 56, V 57, V 58, V 59, V 60, V 61] : List Value) := hT; rw [hV] at f1 f2 f4 f5 f6 f7 f8; subst hT; simp only [f1, f2, f4, f5, f6, f7, f8]; clear hV hlt
        refine via ?_
        exact ih3 _ _ _ _ (by omega) ⟨k + 1, rfl, by omega, rfl, rfl, rfl, rfl, rfl, rfl, rfl, rfl, by rw [hs]; rfl, by push_cast; rfl⟩
      | false =>
        rw [ha] at f7 hs
        rw [Bool.false_or] at hs
        obtain ⟨V, hV, hT⟩ := frame_lit hlt; replace hT : _ = ([V 0, V 1, V 2, V 3, V 4, V 5, V 6, V 7, V 8, V 9, V 10, V 11, V 12, V 13, V 14, V 15, V 16, V 17, V 18, V 19, V 20, V 21, V 22, V 23, V 24, V 25, V 26, V 27, V 28, V 29, V 30, V 31, V 32, V 33, V 34, V 35, V 36, V 37, V 38, V 39, V 40, V 41, V 42, V 43, V 44, V 45, V 46, V 47, V 48, V 49, V 50, V 51, V 52, V 53, V 54, V 55, V 56, V 57, V 58, V 59, V 60, V 61] : List Value) := hT; rw [hV] at f1 f2 f4 f5 f6 f7 f8; subst hT; simp only [f1, f2, f4, f5, f6, f7, f8]; clear hV hlt
        by_cases hu0 : u = 0
        · have t0 := v0 hu0
          have hs2 : (u != 0) = false := by simpa using hu0
          refine viaF (And.intro hbox (And.intro hbg (And.intro e1 (And.intro e4 (And.intro hb2g (And.intro e2 (And.intro e5 (And.intro hb3g (And.intro k1 (And.intro gu t0)))))))))) ?_
          exact ih3 _ _ _ _ (by omega) ⟨k + 1, rfl, by omega, rfl, rfl, rfl, rfl, rfl, rfl, rfl, rfl, by rw [hs, hs2]; rfl, by push_cast; rfl⟩
        · have t0 := v1 hu0
          have hs2 : (u != 0) = true := by simpa using hu0
          refine viaF (And.intro hbox (And.intro hbg (And.intro e1 (And.intro e4 (And.intro hb2g (And.intro e2 (And.intro e5 (And.intro hb3g (And.intro k1 (And.intro gu t0)))))))))) ?_
          exact ih3 _ _ _ _ (by omega) ⟨k + 1, rfl, by omega, rfl, rfl, rfl, rfl, rfl, rfl, rfl, rfl, by rw [hs, hs2]; rfl, by push_cast; rfl⟩
    · obtain rfl : k = 8 := by omega
      clear ih3
      rw [keepB_eq hx8] at f7
      have hs := keepN_succ hxs
      cases hkp : keepB xs with
      | false =>
        rw [hkp] at f7 hs
        simp only [Bool.false_eq_true, if_false, List.append_nil] at hs
        obtain ⟨V, hV, hT⟩ := frame_lit hlt; replace hT : _ = ([V 0, V 1, V 2, V 3, V 4, V 5, V 6, V 7, V 8, V 9, V 10, V 11, V 12, V 13, V 14, V 15, V 16, V 17, V 18, V 19, V 20, V 21, V 22, V 23, V 24, V 25, V 26, V 27, V 28, V 29, V 30, V 31, V 32, V 33, V 34, V 35, V 36, V 37, V 38, V 39, V 40, V 41, V 42, V 43, V 44, V 45, V 46, V 47, V 48, V 49, V 50, V 51, V 52, V 53, V 54, V 55, V 56, V 57, V 58, V 59, V 60, V 61] : List Value) := hT; rw [hV] at f1 f2 f4 f5 f6 f7 f8; subst hT; simp only [f1, f2, f4, f5, f6, f7, f8]; clear hV hlt
        refine via ?_
        refine ih _ _ _ _ (by omega) ⟨n + 1, qq, lf, ak, rfl, by omega, hlq, hqq, by omega, hge, hbox, hres, by rw [hs]; exact hK, hak, rfl, rfl, rfl, rfl, rfl, rfl, by rw [hs]; rfl, by push_cast; rfl⟩
      | true =>
        rw [hkp] at f7 hs
        simp only [if_true] at hs
        obtain ⟨V, hV, hT⟩ := frame_lit hlt; replace hT : _ = ([V 0, V 1, V 2, V 3, V 4, V 5, V 6, V 7, V 8, V 9, V 10, V 11, V 12, V 13, V 14, V 15, V 16, V 17, V 18, V 19, V 20, V 21, V 22, V 23, V 24, V 25, V 26, V 27, V 28, V 29, V 30, V 31, V 32, V 33, V 34, V 35, V 36, V 37, V 38, V 39, V 40, V 41, V 42, V 43, V 44, V 45, V 46, V 47, V 48, V 49, V 50, V 51, V 52, V 53, V 54, V 55, V 56, V 57, V 58, V 59, V 60, V 61] : List Value) := hT; rw [hV] at f1 f2 f4 f5 f6 f7 f8; subst hT; simp only [f1, f2, f4, f5, f6, f7, f8]; clear hV hlt
        refine viaF (And.intro hbox (And.intro hbg (And.intro e1 (And.intro e4 (And.intro hb2g (And.intro e2 e5)))))) ?_
        rcases hK with ⟨h0, rfl⟩ | ⟨nk, psk, rfl, hnek, hbk, hpsk, hallk⟩
        · rw [h0] at hs
          simp only [h0, List.length_nil]
          (refine At.appE rfl rfl rfl rfl (app_nil_new appT_su (cells_gap 0 rfl rfl (by decide)) (by decide) (by decide)) (by simp (disch := (first | omega | (simp only [sz] <;> omega) | fail)) only [go_sem]; (try simp only [sz]); unfold VB; omega) fun K hK => ?_; simp (disch := (first | omega | (simp only [sz] <;> omega) | fail)) only [go_sem]; with_reducible refine hK _ _ ?_; clear hK K)
          refine via ?_
          refine Goes.folds hlq fun l3 hl3 hge4 hrow3 => ?_
          simp only [List.length_cons, List.length_nil] at hl3 ⊢
          refine ih _ _ _ _ (by omega) ⟨n + 1, _, l3, some ⟨qq + 1, 0, none⟩, rfl, by omega, by omega, by omega, by omega, hge.trans hge4, hge4 _ _ hbox, hge4 _ _ hres, ?_, fun m h => (by cases h; omega), rfl, rfl, rfl, rfl, rfl, rfl, by rw [hs]; rfl, by push_cast; rfl⟩
          rw [hs]
          exact IsUU.app (l := l3) (ps := []) (xss := []) rfl (fun j p ys hj => by simp at hj) (fun _ _ h => h) ((hrow3 1).trans rfl) ⟨n3, g3, rfl, hge4 _ _ hb3g⟩
        · have hnkk := hak nk rfl
          have hnkl := (List.getElem?_eq_some_iff.1 hbk).1
          have hkg : ∀ ys, (heapJ lf qq ys).get nk = some ⟨rowP psk, 116, false, some 1⟩ := fun ys => by
            rw [gap_lo (by omega), hbk]; rfl
          (refine At.appE rfl rfl rfl rfl (app_grow appT_su (hkg _) rfl rfl (by rw [rowP_len]; omega) (cells_gap 0 rfl rfl (by decide)) rfl (by decide) (by omega)) (by simp (disch := (first | omega | (simp only [sz] <;> omega) | fail)) only [go_sem]; (try simp only [sz]); unfold VB; omega) fun K hK => ?_; simp (disch := (first | omega | (simp only [sz] <;> omega) | fail)) only [go_sem]; with_reducible refine hK _ _ ?_; clear hK K)
          refine via ?_
          refine Goes.folds (by rw [List.length_set]; omega) fun l3 hl3 hge4 hrow3 => ?_
          simp only [List.length_cons, List.length_nil] at hl3 ⊢
          refine ih _ _ _ _ (by omega) ⟨n + 1, _, l3, some ⟨qq + 1, 0, none⟩, rfl, by omega, by omega, by omega, by omega, (hge.set' (by omega)).trans hge4, hge4 _ _ (by rw [List.getElem?_set_ne (by omega)]; exact hbox), hge4 _ _ (by rw [List.getElem?_set_ne (by omega)]; exact hres), ?_, fun m h => (by cases h; omega), rfl, rfl, rfl, rfl, rfl, rfl, by rw [hs, List.length_append]; rfl, by push_cast; rfl⟩
          rw [hs]
          exact IsUU.app hpsk hallk (fun p ys h => (h.set hbk (by simp)).ge hge4) (by rw [← rowP_app]; exact (hrow3 1).trans rfl) ((IsU.set ⟨n3, g3, rfl, hb3g⟩ hbk (by simp)).ge hge4)
  · obtain rfl : n = xss.length := by omega
    clear ih
    have hkk : keepN xss xss.length = xss.filter keepB := by unfold keepN; rw [List.take_length]
    have e8 : (rowQ ps).length = T := by rw [rowQ_len]; omega
    have e9 := Nat.zero_add T
    refine viaF (And.intro hbox (And.intro hbg (And.intro e1 e4))) ?_
    (refine At.appE rfl rfl rfl rfl (app_new appT_sss cellsA_zero (cells_full hlq hlg hbg (by simp only [rowQ_len]; omega) (by omega)) (by omega) (by omega) (fun x hx => by cases hx; exact ⟨_, gap_hi (i := 0), rfl⟩)) (by simp (disch := (first | omega | (simp only [sz] <;> omega) | fail)) only [go_sem]; (try simp only [sz]); unfold VB; omega) fun K hK => ?_; simp (disch := (first | omega | (simp only [sz] <;> omega) | fail)) only [go_sem]; with_reducible refine hK _ _ ?_; clear hK K)
    refine viaF (And.intro hbox (And.intro e1 (And.intro e8 e9))) ?_
    refine At.named fun l2 hl2 => ?_
    have hbox2 := named_eq hl2 hl1
    have hres2 := named_ne hl2 hres (by omega)
    have hlen2 := named_len hl2
    have hlr := (List.getElem?_eq_some_iff.1 hres2).1
    refine viaF (And.intro hbox2 hres2) ?_
    refine Goes.named fun l3 hl3 => ?_
    have hr3 := named_eq hl3 hlr
    have hlen3 := named_len hl3
    have hq3 : l3.length ≤ qq := by omega
    refine Goes.finD rfl (by simp (disch := (first | omega | (simp only [heapL_next, List.length_cons, List.length_nil, List.size_toArray, geo_len] <;> omega) | fail)) only [go_sem, resA, res1A, Try.results22, hr3] <;> rfl) ?_
    have hge2 : Ge l l3 := by rw [hl3, hl2]; exact (hge.set' (by omega)).set' (by omega)
    have hK2 : IsUU l3 ak (keepN xss xss.length) := by
      rw [hl3]
      refine IsUU.set ?_ hres2 (by simp) (by simp)
      rw [hl2]
      exact hK.set hbox (by simp) (by simp)
    refine ⟨rfl, _, _, some ⟨qq + 1, 0, none⟩, rfl, gap_fold hq3, hge2.trans (Ge.fold l3 _ qq), by rw [fold_len hq3]; exact Nat.le_refl _, by simp only [List.length_cons, List.length_nil]; omega, by simp only [List.length_cons, List.length_nil]; omega, qq + 1, some 1, ps.set t (ak, (keepN xss xss.length).length), rfl, by rw [fold_at hq3, ← rowQ_set]; rfl, by simp [hps], fun j p ys hj hy2 => ?_⟩
    by_cases e : t = j
    · subst e
      rw [List.getElem?_set_self (by omega)] at hj hy2
      cases hj; cases hy2
      exact ⟨by rw [hkk], by rw [← hkk]; exact hK2.ge (Ge.fold l3 _ qq)⟩
    · rw [List.getElem?_set_ne e] at hj hy2
      exact ⟨(hall j p ys hj hy2).1, ((hall j p ys hj hy2).2.ge hge2).ge (Ge.fold l3 _ qq)⟩
end Go.Proofs.Ytjdbknnacaacaaa
namespace Go.Proofs.Ytjdbknnacaacaaa
open Go Go.RowKit
set_option linter.unusedSimpArgs false
set_option linter.unusedVariables false
theorem gin_out {n c : Int} (h : c < 0 ∨ 4 ≤ c) : gin n c 4 = -1 := if_pos (by rcases h with h | h; exact .inr (.inr (.inl h)); exact .inr (.inr (.inr h)))
theorem bnone_out (S : St) (p m me : Nat) (steps : Nat) (N T : Nat) (c : Int) (hp : S[p]? = some (.port m me steps)) (hN : N ≤ 256) (hT : T ≤ 64) (hc : c < 0 ∨ 4 ≤ c) (hc2 : c ≤ 9223372036854775807) : Does OF 66 #[prtV p, .agg (geoC N T), .int .i64 c] [] S (.bool true) S := by
  refine Does.mk Try.func66 rfl rfl ?clo ?hand ?_
  case clo => exact clo3 (pclo (hlt_of hp)) gclo iclo
  case hand => exact Hand.plain rfl
  rw [Try.ntmps66]; simp only [List.size_toArray, List.length_cons, List.length_nil, List.replicate, List.cons_append, List.nil_append]
  have h := gHead_does S N T me c hN hT hc2
  rw [gin_out hc, gat_neg N T 13 (by decide)] at h
  refine via ?_
  ((first | refine qp1 rfl rfl fun K hK => ?_ | refine qp3 rfl rfl fun K hK => ?_); simp (disch := (first | omega | (simp only [sz] <;> omega) | fail)) only [go_sem]; refine ⟨_, _, .self hp, ?_⟩; (try simp only [go_sem]); with_reducible refine hK _ _ ?_; clear hK K)
  refine via ?_
  ((first | refine qc1 rfl rfl fun K hK => ?_ | refine qc3 rfl rfl fun K hK => ?_); simp (disch := (first | omega | (simp only [sz] <;> omega) | fail)) only [go_sem]; refine ⟨_, _, h, ?_⟩; (try simp only [go_sem]); with_reducible refine hK _ _ ?_; clear hK K)
  refine via ?_
  refine Goes.fin rfl (by simp (disch := (first | omega | (simp only [heapL_next, List.length_cons, List.length_nil, List.size_toArray, geo_len] <;> omega) | fail)) only [go_sem, resA, res1A, Try.results66] <;> rfl) ?_
  rfl
theorem badd_out (S : St) (p m me : Nat) (steps : Nat) (N T : Nat) (c : Int) (item : Int) (hp : S[p]? = some (.port m me steps)) (hN : N ≤ 256) (hT : T ≤ 64) (hc : c < 0 ∨ 4 ≤ c) (hc2 : c ≤ 9223372036854775807) : Does OF 14 #[prtV p, .agg (geoC N T), .int .i64 c, .int .u64 item] [] S (.bool false) S := by
  refine Does.mk Try.func14 rfl rfl ?clo ?hand ?_
  case clo => exact clo4 (pclo (hlt_of hp)) gclo iclo iclo
  case hand => exact Hand.plain rfl
  rw [Try.ntmps14]; simp only [List.size_toArray, List.length_cons, List.length_nil, List.replicate, List.cons_append, List.nil_append]
  refine via ?_
  ((first | refine qc1 rfl rfl fun K hK => ?_ | refine qc3 rfl rfl fun K hK => ?_); simp (disch := (first | omega | (simp only [sz] <;> omega) | fail)) only [go_sem]; refine ⟨_, _, bnone_out S p m me steps N T c hp hN hT hc hc2, ?_⟩; (try simp only [go_sem]); with_reducible refine hK _ _ ?_; clear hK K)
  refine via ?_
  refine Goes.fin rfl (by simp (disch := (first | omega | (simp only [heapL_next, List.length_cons, List.length_nil, List.size_toArray, geo_len] <;> omega) | fail)) only [go_sem, resA, res1A, Try.results14] <;> rfl) ?_
  rfl
theorem btake_out (S : St) (p m me : Nat) (steps : Nat) (N T : Nat) (c : Int) (hp : S[p]? = some (.port m me steps)) (hN : N ≤ 256) (hT : T ≤ 64) (hc : c < 0 ∨ 4 ≤ c) (hc2 : c ≤ 9223372036854775807) : Does OF 15 #[prtV p, .agg (geoC N T), .int .i64 c] [] S (.tuple #[.int .u64 0, .bool false]) S := by
  refine Does.mk Try.func15 rfl rfl ?clo ?hand ?_
  case clo => exact clo3 (pclo (hlt_of hp)) gclo iclo
  case hand => exact Hand.plain (by simp [plainB])
  rw [Try.ntmps15]; simp only [List.size_toArray, List.length_cons, List.length_nil, List.replicate, List.cons_append, List.nil_append]
  refine via ?_
  ((first | refine qc1 rfl rfl fun K hK => ?_ | refine qc3 rfl rfl fun K hK => ?_); simp (disch := (first | omega | (simp only [sz] <;> omega) | fail)) only [go_sem]; refine ⟨_, _, bnone_out S p m me steps N T c hp hN hT hc hc2, ?_⟩; (try simp only [go_sem]); with_reducible refine hK _ _ ?_; clear hK K)
  refine via ?_
  refine Goes.fin rfl (by simp (disch := (first | omega | (simp only [heapL_next, List.length_cons, List.length_nil, List.size_toArray, geo_len] <;> omega) | fail)) only [go_sem, resA, res1A, Try.results15] <;> rfl) ?_
  rfl
theorem bprune_out (S : St) (p m me : Nat) (steps : Nat) (N T : Nat) (c : Int) (hp : S[p]? = some (.port m me steps)) (hN : N ≤ 256) (hT : T ≤ 64) (hc : c < 0 ∨ 4 ≤ c) (hc2 : c ≤ 9223372036854775807) : Does OF 16 #[prtV p, .agg (geoC N T), .int .i64 c] [] S (.tuple #[]) S := by
  refine Does.mk Try.func16 rfl rfl ?clo ?hand ?_
  case clo => exact clo3 (pclo (hlt_of hp)) gclo iclo
  case hand => exact Hand.plain (by simp [plainB])
  rw [Try.ntmps16]; simp only [List.size_toArray, List.length_cons, List.length_nil, List.replicate, List.cons_append, List.nil_append]
  refine via ?_
  ((first | refine qc1 rfl rfl fun K hK => ?_ | refine qc3 rfl rfl fun K hK => ?_); simp (disch := (first | omega | (simp only [sz] <;> omega) | fail)) only [go_sem]; refine ⟨_, _, bnone_out S p m me steps N T c hp hN hT hc hc2, ?_⟩; (try simp only [go_sem]); with_reducible refine hK _ _ ?_; clear hK K)
  refine via ?_
  refine Goes.fin rfl (by simp (disch := (first | omega | (simp only [heapL_next, List.length_cons, List.length_nil, List.size_toArray, geo_len] <;> omega) | fail)) only [go_sem, resA, res1A, Try.results16] <;> rfl) ?_
  rfl
section
variable {N T t c : Nat} {ws : List UInt64} {W : Nat → Nat → UInt64} {free free' : List Nat} {ver : Nat} {G L L' : Nat → List Nat} {I I' : Nat → Nat → UInt64}
theorem bare_items {z : Nat} (h : Bare I z) : ∀ (k : Nat) (u : UInt64), (itemsOf I z)[k]? = some u → u = 0 := fun k u hu => by
  have hk := (List.getElem?_eq_some_iff.1 hu).1
  rw [itemsOf_len] at hk
  rw [itemsOf_get hk] at hu
  cases hu; exact h k hk
theorem keep_items {x : Nat} : keepB (itemsOf I x) = !bareB I x := by
  cases e : bareB I x with
  | true =>
    have h : ∀ k, k < 8 → I x k = 0 := fun k hk => beq_iff_eq.1 (List.all_eq_true.1 e k (List.mem_range.2 hk))
    unfold keepB
    rw [List.any_eq_false.2 ?_]; rfl
    intro u hu
    obtain ⟨k, hk⟩ := List.getElem?_of_mem hu
    rw [bare_items h k u hk]; decide
  | false =>
    have h : ∃ k, k < 8 ∧ I x k ≠ 0 := by
      refine Classical.byContradiction fun h => ?_
      rw [bareB_t fun k hk => Classical.byContradiction fun h2 => h ⟨k, hk, h2⟩] at e
      cases e
    obtain ⟨k, hk, h2⟩ := h
    unfold keepB
    rw [List.any_eq_true.2 ⟨I x k, List.mem_of_getElem? (itemsOf_get hk), by simpa using h2⟩]; rfl
theorem keep_map : ∀ {l : List Nat}, (l.map (itemsOf I)).filter keepB = (l.filter fun x => !bareB I x).map (itemsOf I)
  | [] => rfl
  | x :: l => by
    rw [List.map_cons, List.filter_cons, List.filter_cons, keep_items, keep_map]
    cases bareB I x <;> rfl
theorem takeDoc {u : UInt64} {ok : Bool} (hS : BS N T ws W free ver G L I) (ht : t < T) (hc : c < 4) (h : TakeSaid T t c I L u ok I') : TakeDoc (wasOf I L c T) T t u (wasOf I' L c T) ∧ (ok = (u != 0)) ∧ ∀ d, d < 4 → d ≠ c → wasOf I' L d T = wasOf I L d T := by
  have hz0 : ∀ (j : Nat), (∀ z ∈ L ((t + j) % T * 4 + c), Bare I z) → ∀ xss, (wasOf I L c T)[(t + j) % T]? = some xss → allZ xss := fun j hj xss hx n ys hy k u hu => by
    rw [wasOf_get (Nat.mod_lt _ (by omega))] at hx
    cases hx
    rw [List.getElem?_map] at hy
    cases e : (L ((t + j) % T * 4 + c))[n]? with
    | none => rw [e] at hy; cases hy
    | some z =>
      rw [e] at hy; cases hy
      exact bare_items (hj z (List.mem_of_getElem? e)) k u hu
  rcases h with ⟨j, hj, hb, hf, rfl⟩ | ⟨hb, rfl, rfl, rfl⟩
  · rcases hf with ⟨A, x, B, k, hL, hA, ⟨hk, hz, hfk⟩, rfl, _, rfl⟩ | ⟨_, _, hbad, _⟩
    · have hm : (t + j) % T < T := Nat.mod_lt _ (by omega)
      have hi : (t + j) % T * 4 + c < T * 4 := by omega
      have hnd := hS.lnd hi
      rw [hL] at hnd
      have hother : ∀ i, i < T * 4 → i ≠ (t + j) % T * 4 + c → (L i).map (itemsOf (upI I x k 0)) = (L i).map (itemsOf I) := fun i hi2 hne =>
        List.map_congr_left fun z hz => itemsOf_ne fun e => hne (hS.apart hi2 hi hz (by rw [e, hL]; simp))
      refine ⟨.inl ⟨j, A.length, k, _, itemsOf I x, hj, fun j' xss hj' hx => hz0 j' (hb j' hj') xss hx, wasOf_get hm, by rw [hL]; simp, fun n' ys hn hy => ?_, hk, itemsOf_get hk, hz, fun k' u hk' hu => ?_, ?_⟩, ?_, fun d hd hne => ?_⟩
      · rw [hL, List.map_append, List.getElem?_append_left (by rw [List.length_map]; exact hn), List.getElem?_map] at hy
        cases e : A[n']? with
        | none => rw [e] at hy; cases hy
        | some z =>
          rw [e] at hy; cases hy
          exact bare_items (hA z (List.mem_of_getElem? e))
      · rw [itemsOf_get (by omega)] at hu
        cases hu
        exact Classical.byContradiction fun h2 => hfk k' hk' h2
      · rw [was_one (t := (t + j) % T) fun i hi2 hne => hother _ (by omega) (by omega), hL, map_one (f := itemsOf I) hnd fun z hz => itemsOf_ne hz, itemsOf_up]
      · simpa using hz
      · unfold wasOf
        exact List.map_congr_left fun i hi2 => hother _ (by have := List.mem_range.1 hi2; omega) (by omega)
    · cases hbad
  · exact ⟨.inr ⟨fun j' xss hj' hx => hz0 j' (hb j' hj') xss hx, rfl, rfl⟩, rfl, fun _ _ _ => rfl⟩
theorem addOthers {item : UInt64} (hS : BS N T ws W free ver G L I) (ht : t < T) (hc : c < 4) (h : AddSaid I L (t * 4 + c) item free free' L' I') : ∀ d, d < 4 → d ≠ c → wasOf I' L' d T = wasOf I L d T := fun d hd hne => by
  unfold wasOf
  exact List.map_congr_left fun i hi => addKeep hS (by omega) (by have := List.mem_range.1 hi; omega) (by omega) h
theorem addWas {item : UInt64} (hS : BS N T ws W free ver G L I) (ht : t < T) (hc : c < 4) (h : AddSaid I L (t * 4 + c) item free free' L' I') : wasOf I' L' c T = (wasOf I L c T).set t ((L' (t * 4 + c)).map (itemsOf I')) :=
  was_one fun j hj hne => addKeep hS (by omega) (by omega) (by omega) h
theorem pruneWas : wasOf I (upG L (t * 4 + c) ((L (t * 4 + c)).filter fun x => !bareB I x)) c T = (wasOf I L c T).set t (((L (t * 4 + c)).map (itemsOf I)).filter keepB) := by
  rw [was_one (t := t) (L := L) (I := I) fun j hj hne => by rw [upG_ne (by omega)], upG_eq, keep_map]
theorem pruneOthers {X : List Nat} (hc : c < 4) : ∀ d, d < 4 → d ≠ c → wasOf I (upG L (t * 4 + c) X) d T = wasOf I L d T := fun d hd hne => by
  unfold wasOf
  exact List.map_congr_left fun i hi => by rw [upG_ne (by omega)]
end
theorem rnew9_fresh (S : St) {T : Nat} (hT0 : 1 ≤ T) (hT1 : T ≤ 64) : ∃ l : List (Option Blk), l.length = 2 ∧ IsW l (some ⟨1, 0, none⟩) (List.replicate T []) ∧ DoesN OF 19 #[.int .i64 T] S (bgV (some ⟨1, 0, none⟩) T 0) l 2 S := by
  refine ⟨[some { cells := [.slice (some ⟨1, 0, none⟩) T T, .int .i64 0], elem := 40 }, some { cells := rowQ (List.replicate T (none, 0)), elem := 50 }], rfl, ?_, ?_, ?_, ?_, ?_⟩
  · refine ⟨1, some 0, List.replicate T (none, 0), rfl, rfl, by simp, fun j p ys hj hy => ?_⟩
    rw [List.getElem?_replicate] at hj hy
    split at hj
    · rename_i hlt
      rw [if_pos hlt] at hy
      cases hj; cases hy
      exact ⟨rfl, .inl ⟨rfl, rfl⟩⟩
    · cases hj
  · have : ∃ v hh S1, (S1 = S ∧ v = bgV (some ⟨1, 0, none⟩) T 0 ∧ hh = heapJ [some { cells := [.slice (some ⟨1, 0, none⟩) T T, .int .i64 0], elem := 40 }, some { cells := rowQ (List.replicate T (none, 0)), elem := 50 }] 2 []) ∧ DoesD OF 19 #[.int .i64 T] (heapJ [] 0 []) S v hh S1 := by
      refine DoesD.mk Try.func19 rfl rfl ?_
      rw [Try.ntmps19]; simp only [List.size_toArray, List.length_cons, List.length_nil, List.replicate, List.cons_append, List.nil_append]
      refine via ?_
      refine Goes.finD rfl (by simp (disch := (first | omega | (simp only [heapL_next, List.length_cons, List.length_nil, List.size_toArray, geo_len] <;> omega) | fail)) only [go_sem, resA, res1A, Try.results19] <;> rfl) ?_
      refine ⟨rfl, rfl, ?_⟩
      rw [gap_fold (l := []) (q := 0) (Nat.le_refl _), ← zerosL_rowQ]
      rfl
    obtain ⟨v, hh, S1, ⟨rfl, rfl, rfl⟩, hd⟩ := this
    exact hd
  · intro n b hb
    match n, hb with
    | 0, hb =>
      cases hb
      refine ⟨by decide, rfl, fun u hu => ?_⟩
      simp only [List.mem_cons, List.not_mem_nil, or_false] at hu
      rcases hu with rfl | rfl
      · exact scloU (by decide)
      · exact Clo.plain rfl
    | 1, hb =>
      cases hb
      refine ⟨by decide, rfl, fun u hu => ?_⟩
      obtain ⟨p, hp, rfl⟩ := List.mem_map.1 hu
      obtain rfl := List.eq_of_mem_replicate hp
      exact Clo.plain rfl
    | n + 2, hb => simp at hb
  · unfold bgV
    intro F F' hs
    have h1 := scloU (q := 2) (c := OF.cnt S) (n := 1) (i := T) (k := T) (by decide) F F' hs
    simp only [ren_agg]
    simp [h1]
  · intro u hu
    simp only [List.mem_cons, List.not_mem_nil, or_false] at hu
    subst hu
    exact Hand.plain rfl
end Go.Proofs.Ytjdbknnacaacaaa
