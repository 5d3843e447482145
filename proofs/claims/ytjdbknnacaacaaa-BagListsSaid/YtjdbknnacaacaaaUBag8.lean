/-
  Layer 9: rows of rows among the rows of a heap; what an act does, by numbers.
  No condition: definitions and laws.
-/
import Derived.Test.YtjdbknnacaacaaaUBag4
namespace Go.Proofs.Ytjdbknnacaacaaa
open Go Go.RowKit
set_option linter.unusedSimpArgs false
set_option linter.unusedVariables false
theorem IsUU.ge {l l' : List (Option Blk)} {a : Option Addr} {xss : List (List UInt64)} (h : IsUU l a xss) (hg : Ge l l') : IsUU l' a xss := by
  rcases h with h | ⟨n, ps, rfl, hne, hb, hp, hall⟩
  · exact .inl h
  · exact .inr ⟨n, ps, rfl, hne, hg _ _ hb, hp, fun j p xs h1 h2 => (hall j p xs h1 h2).ge hg⟩
theorem IsUU.set {l : List (Option Blk)} {a : Option Addr} {xss : List (List UInt64)} {q : Nat} {b : Option Blk} {b0 : Blk} (h : IsUU l a xss) (hq : l[q]? = some (some b0)) (he : b0.elem ≠ 30) (he2 : b0.elem ≠ 116) : IsUU (l.set q b) a xss := by
  rcases h with h | ⟨n, ps, rfl, hne, hb, hp, hall⟩
  · exact .inl h
  · exact .inr ⟨n, ps, rfl, hne, set_at' hq hb he2, hp, fun j p xs h1 h2 => (hall j p xs h1 h2).set hq he⟩
theorem renB_plain' {E : Emb} {b : Blk} (h : ∀ u ∈ b.cells, plainB u = true) : renB E b = b := by
  unfold renB
  rw [show b.cells.map (ren E) = b.cells from (List.map_congr_left fun u hu => ren_plain E (h u hu)).trans (List.map_id _)]
theorem IsU.fresh {l0 ys l lf : List (Option Blk)} {q0 q : Nat} {a : Option Addr} {xs : List UInt64} (h : IsU l a xs) (hF : FreshAt l0 ys l q0 q lf) : IsU lf (shU (q0 + ys.length) a) xs := by
  obtain ⟨n, g, rfl, hb⟩ := h
  refine ⟨q0 + ys.length + n, g, rfl, ?_⟩
  rw [hF.2.2.2 n _ hb, renB_plain' fun u hu => numRow_plain u hu]
theorem IsUU.fresh {l0 ys l lf : List (Option Blk)} {q0 q : Nat} {a : Option Addr} {xss : List (List UInt64)} (h : IsUU l a xss) (hF : FreshAt l0 ys l q0 q lf) (hl : l.length ≤ q) (hq : q ≤ VB) : IsUU lf (shU (q0 + ys.length) a) xss := by
  rcases h with ⟨h, rfl⟩ | ⟨n, ps, rfl, hne, hb, hp, hall⟩
  · exact .inl ⟨h, rfl⟩
  refine .inr ⟨q0 + ys.length + n, ps.map fun p => shU (q0 + ys.length) p, rfl, hne, ?_, by rw [List.length_map]; exact hp, fun j p xs h1 h2 => ?_⟩
  · rw [hF.2.2.2 n _ hb]
    unfold renB rowP
    rw [List.map_map, List.map_map]
    have e : ∀ p ∈ ps, (ren (upE [] (q0 + ys.length)) ∘ fun p => Value.slice p 8 8) p = ((fun p => Value.slice p 8 8) ∘ fun p => shU (q0 + ys.length) p) p := fun p hpm => by
      obtain ⟨j, hj⟩ := List.getElem?_of_mem hpm
      have hjl := (List.getElem?_eq_some_iff.1 hj).1
      obtain ⟨n2, g2, rfl, h2⟩ := hall j p _ hj (List.getElem?_eq_getElem (by omega))
      exact ren_shU (.inr ⟨n2, rfl, by have := (List.getElem?_eq_some_iff.1 h2).1; omega⟩)
    rw [List.map_congr_left e]
  · rw [List.getElem?_map] at h1
    cases hj : ps[j]? with
    | none => rw [hj] at h1; cases h1
    | some p0 =>
      rw [hj] at h1; cases h1
      exact (hall j p0 xs hj h2).fresh hF
def rowQ (ps : List (Option Addr × Nat)) : List Value := ps.map fun p => .slice p.1 p.2 p.2
theorem rowQ_len (ps : List (Option Addr × Nat)) : (rowQ ps).length = ps.length := by simp [rowQ]
theorem rowQ_app {ps ps' : List (Option Addr × Nat)} : rowQ ps ++ rowQ ps' = rowQ (ps ++ ps') := by simp [rowQ]
def IsUUU (l : List (Option Blk)) (a : Option Addr) (zs : List (List (List UInt64))) : Prop :=
  (zs = [] ∧ a = none) ∨ ∃ (n : Nat) (ps : List (Option Addr × Nat)), a = some ⟨n, 0, none⟩ ∧ zs ≠ [] ∧ l[n]? = some (some ⟨rowQ ps, 50, false, some 1⟩) ∧ ps.length = zs.length ∧ ∀ (j : Nat) (p : Option Addr × Nat) (xss : List (List UInt64)), ps[j]? = some p → zs[j]? = some xss → p.2 = xss.length ∧ IsUU l p.1 xss
theorem IsUUU.ge {l l' : List (Option Blk)} {a : Option Addr} {zs : List (List (List UInt64))} (h : IsUUU l a zs) (hg : Ge l l') : IsUUU l' a zs := by
  rcases h with h | ⟨n, ps, rfl, hne, hb, hp, hall⟩
  · exact .inl h
  · exact .inr ⟨n, ps, rfl, hne, hg _ _ hb, hp, fun j p xs h1 h2 => ⟨(hall j p xs h1 h2).1, (hall j p xs h1 h2).2.ge hg⟩⟩
theorem IsUUU.app {l l' : List (Option Blk)} {n' : Nat} {ps : List (Option Addr × Nat)} {zs : List (List (List UInt64))} {xss : List (List UInt64)} {a : Option Addr} (hps : ps.length = zs.length) (hall : ∀ (j : Nat) (p : Option Addr × Nat) (ys : List (List UInt64)), ps[j]? = some p → zs[j]? = some ys → p.2 = ys.length ∧ IsUU l p.1 ys) (hg : ∀ p ys, IsUU l p ys → IsUU l' p ys) (hb : l'[n']? = some (some ⟨rowQ (ps ++ [(a, xss.length)]), 50, false, some 1⟩)) (ha : IsUU l' a xss) : IsUUU l' (some ⟨n', 0, none⟩) (zs ++ [xss]) := by
  refine .inr ⟨n', ps ++ [(a, xss.length)], rfl, by simp, hb, by simp [hps], fun j p ys hj hy => ?_⟩
  by_cases e : j < ps.length
  · rw [List.getElem?_append_left e] at hj
    rw [List.getElem?_append_left (by omega)] at hy
    exact ⟨(hall j p ys hj hy).1, hg _ _ (hall j p ys hj hy).2⟩
  · have hj2 := (List.getElem?_eq_some_iff.1 hj).1
    rw [List.length_append, List.length_singleton] at hj2
    obtain rfl : j = ps.length := by omega
    rw [List.getElem?_append_right (Nat.le_refl _), Nat.sub_self] at hj
    rw [hps, List.getElem?_append_right (Nat.le_refl _), Nat.sub_self] at hy
    simp only [List.getElem?_cons_zero, Option.some.injEq] at hj hy
    rw [← hj, ← hy]; exact ⟨rfl, ha⟩
theorem cX_items {I : Nat → Nat → UInt64} {x : Nat} : cX (itemsOf I x) 8 = cntI I x := by
  unfold cX itemsOf cntI cN
  rw [List.take_of_length_le (by simp), List.filter_map, List.length_map]
  rfl
theorem totX_items {I : Nat → Nat → UInt64} {Ls : List Nat} : totX (Ls.map (itemsOf I)) (Ls.map (itemsOf I)).length = totI I Ls := by
  unfold totX totI
  rw [List.take_length, List.map_map]
  exact congrArg List.sum (List.map_congr_left fun x _ => cX_items)
def gN (f : Nat → Int) : Nat → Int
  | 0 => 0
  | k + 1 => gN f k + f k
theorem gN_zero {f : Nat → Int} : ∀ {n : Nat}, (∀ k, k < n → f k = 0) → gN f n = 0
  | 0, _ => rfl
  | n + 1, h => by unfold gN; rw [gN_zero (n := n) fun k hk => h k (by omega), h n (by omega)]; rfl
theorem gN_one {f : Nat → Int} {j : Nat} : ∀ {n : Nat}, j < n → (∀ k, k < n → k ≠ j → f k = 0) → gN f n = f j
  | 0, hj, _ => by omega
  | n + 1, hj, h => by
    unfold gN
    by_cases e : j = n
    · subst e
      rw [gN_zero (n := j) fun k hk => h k (by omega) (by omega)]; omega
    · rw [gN_one (n := n) (by omega) fun k hk hne => h k (by omega) hne, h n (by omega) (fun e2 => e e2.symm)]; omega
theorem gN_le {f : Nat → Int} : ∀ {n : Nat}, (∀ k, k < n → -1 ≤ f k ∧ f k ≤ 1) → -(n : Int) ≤ gN f n ∧ gN f n ≤ (n : Int)
  | 0, _ => by simp [gN]
  | n + 1, h => by
    have h1 := gN_le (n := n) fun k hk => h k (by omega)
    have h2 := h n (by omega)
    unfold gN
    omega
def lost (c : Nat) (I I' : Nat → Nat → UInt64) (L L' : Nat → List Nat) (k : Nat) : Int := (totI I (L (k * 4 + c)) : Int) - (totI I' (L' (k * 4 + c)) : Int)
structure ActR (T t c d : Nat) (I I' : Nat → Nat → UInt64) (L L' : Nat → List Nat) (g : Int) : Prop where
  small : ∀ k, k < T → -1 ≤ lost c I I' L L' k ∧ lost c I I' L L' k ≤ 1
  longer : ∀ k, k < T → (k ≠ t ∨ d ≠ 0) → (L' (k * 4 + c)).length ≤ (L (k * 4 + c)).length
  shorter : ∀ k, k < T → (k ≠ t ∨ d ≠ 2) → (L (k * 4 + c)).length ≤ (L' (k * 4 + c)).length
  sum : gN (lost c I I' L L') T = g
theorem ActR.one {T t c d j : Nat} {I I' : Nat → Nat → UInt64} {L L' : Nat → List Nat} (hj : j < T) (hne : ∀ k, k < T → k ≠ j → totI I' (L' (k * 4 + c)) = totI I (L (k * 4 + c)) ∧ (L' (k * 4 + c)).length = (L (k * 4 + c)).length) (h1 : -1 ≤ lost c I I' L L' j ∧ lost c I I' L L' j ≤ 1)
    (h2 : (j ≠ t ∨ d ≠ 0) → (L' (j * 4 + c)).length ≤ (L (j * 4 + c)).length) (h3 : (j ≠ t ∨ d ≠ 2) → (L (j * 4 + c)).length ≤ (L' (j * 4 + c)).length) : ActR T t c d I I' L L' (lost c I I' L L' j) where
  small := fun k hk => by
    by_cases e : k = j
    · rw [e]; exact h1
    · have := (hne k hk e).1
      unfold lost; omega
  longer := fun k hk h => by
    by_cases e : k = j
    · rw [e] at h ⊢; exact h2 h
    · exact Nat.le_of_eq (hne k hk e).2
  shorter := fun k hk h => by
    by_cases e : k = j
    · rw [e] at h ⊢; exact h3 h
    · exact Nat.le_of_eq (hne k hk e).2.symm
  sum := gN_one hj fun k hk e => by
    have := (hne k hk e).1
    unfold lost; omega
theorem ActR.same {T t c d : Nat} {I : Nat → Nat → UInt64} {L : Nat → List Nat} : ActR T t c d I I L L 0 where
  small := fun k _ => by unfold lost; omega
  longer := fun _ _ _ => Nat.le_refl _
  shorter := fun _ _ _ => Nat.le_refl _
  sum := gN_zero fun k _ => by unfold lost; omega
end Go.Proofs.Ytjdbknnacaacaaa
namespace Go.Proofs.Ytjdbknnacaacaaa
open Go Go.RowKit
set_option linter.unusedSimpArgs false
set_option linter.unusedVariables false
section
variable {N T t c : Nat} {ws : List UInt64} {W : Nat → Nat → UInt64} {free free' : List Nat} {ver : Nat} {G L L' : Nat → List Nat} {I I' : Nat → Nat → UInt64} {item : UInt64}
theorem idx_ne {k t c : Nat} (h : k ≠ t) (hc : c < 4) : k * 4 + c ≠ t * 4 + c := by omega
theorem addO {i j : Nat} (hS : BS N T ws W free ver G L I) (hi : i < T * 4) (hj : j < T * 4) (hne : j ≠ i) (h : AddSaid I L i item free free' L' I') : totI I' (L' j) = totI I (L j) := by
  rcases h with ⟨A, x, B, k, hL, _, _, rfl, rfl, rfl⟩ | ⟨_, y, rfl, rfl, rfl⟩
  · refine totI_congr fun z hz => cnt_ne fun e => ?_
    exact hne (hS.apart hj hi hz (by rw [e, hL]; simp))
  · rw [upG_ne hne]
    refine totI_congr fun z hz => cnt_newne fun e => ?_
    exact hS.out hj hz (by rw [e]; simp)
theorem totI_le : ∀ {l : List Nat}, (∀ z ∈ l, cntI I' z ≤ cntI I z) → totI I' l ≤ totI I l
  | [], _ => Nat.le_refl _
  | x :: l, h => by
    rw [totI_cons, totI_cons]
    have := h x (by simp)
    have := totI_le (l := l) fun z hz => h z (by simp [hz])
    omega
theorem takeO {u : UInt64} {ok : Bool} (h : TakeSaid T t c I L u ok I') (l : List Nat) : totI I' l ≤ totI I l := by
  rcases h with ⟨j, hj, _, hf, _⟩ | ⟨_, _, _, rfl⟩
  · rcases hf with ⟨A, x, B, k, _, _, ⟨hk, hz, _⟩, _, _, rfl⟩ | ⟨_, _, hbad, _⟩
    · refine totI_le fun z _ => ?_
      by_cases e : z = x
      · subst e; have := cnt_take (I := I) hk hz; omega
      · rw [cnt_ne e]; exact Nat.le_refl _
    · cases hbad
  · exact Nat.le_refl _
theorem addR (hS : BS N T ws W free ver G L I) (ht : t < T) (hc : c < 4) (h : AddSaid I L (t * 4 + c) item free free' L' I') (h0 : item ≠ 0) : ActR T t c 0 I I' L L' (-1) := by
  have hi : t * 4 + c < T * 4 := by omega
  obtain ⟨h1, h2, h3⟩ := h.tot (hS.lnd hi) (fun y hy hm => hS.out hi hm (List.mem_append.2 (.inl hy))) h0
  have hg : lost c I I' L L' t = -1 := by unfold lost; omega
  rw [← hg]
  refine ActR.one ht (fun k hk hne => ⟨?_, by rw [h3 _ (idx_ne hne hc)]⟩) (by omega) (fun h => absurd h (by omega)) (fun _ => by omega)
  have hki : k * 4 + c < T * 4 := by omega
  rcases h with ⟨A, x, B, j, hL, _, _, rfl, rfl, rfl⟩ | ⟨_, y, rfl, rfl, rfl⟩
  · refine totI_congr fun z hz => cnt_ne fun e => ?_
    exact idx_ne hne hc (hS.apart hki hi hz (by rw [e, hL]; simp))
  · rw [upG_ne (idx_ne hne hc)]
    refine totI_congr fun z hz => cnt_newne fun e => ?_
    exact hS.out hki hz (by rw [e]; simp)
theorem takeR {u : UInt64} {ok : Bool} (hS : BS N T ws W free ver G L I) (ht : t < T) (hc : c < 4) (h : TakeSaid T t c I L u ok I') : ∃ g, (g = 0 ∨ g = 1) ∧ ActR T t c 1 I I' L L g := by
  rcases h with ⟨j, hj, _, hf, rfl⟩ | ⟨_, _, _, rfl⟩
  · have hm : (t + j) % T < T := Nat.mod_lt _ (by omega)
    have hi : (t + j) % T * 4 + c < T * 4 := by omega
    rcases hf.tot (hS.lnd hi) with ⟨_, h1⟩ | ⟨h1, _⟩
    · have hg : lost c I I' L L ((t + j) % T) = 1 := by unfold lost; omega
      refine ⟨1, .inr rfl, ?_⟩
      rw [← hg]
      refine ActR.one hm (fun k hk hne => ⟨?_, rfl⟩) (by omega) (fun _ => Nat.le_refl _) (fun _ => Nat.le_refl _)
      have hki : k * 4 + c < T * 4 := by omega
      rcases hf with ⟨A, x, B, j2, hL, _, _, _, _, rfl⟩ | ⟨_, _, hbad, _⟩
      · refine totI_congr fun z hz => cnt_ne fun e => ?_
        exact idx_ne hne hc (hS.apart hki hi hz (by rw [e, hL]; simp))
      · cases hbad
    · cases h1
  · exact ⟨0, .inl rfl, ActR.same⟩
theorem pruneR (ht : t < T) (hc : c < 4) : ActR T t c 2 I I L (upG L (t * 4 + c) ((L (t * 4 + c)).filter fun x => !bareB I x)) 0 := by
  have hg : lost c I I L (upG L (t * 4 + c) ((L (t * 4 + c)).filter fun x => !bareB I x)) t = 0 := by
    unfold lost; rw [upG_eq, totI_prune]; omega
  rw [← hg]
  refine ActR.one ht (fun k hk hne => ⟨by rw [upG_ne (idx_ne hne hc)], by rw [upG_ne (idx_ne hne hc)]⟩) (by omega) (fun _ => by rw [upG_eq]; exact List.length_filter_le _ _) (fun h => absurd h (by omega))
end
theorem gb19s {N T : Nat} (h1 : 1 ≤ N) (h2 : N ≤ 3) (h3 : 1 ≤ T) (h4 : T ≤ 4) : gb N T 19 ≤ 2097152 := by
  obtain rfl | rfl | rfl : N = 1 ∨ N = 2 ∨ N = 3 := by omega
  all_goals
    obtain rfl | rfl | rfl | rfl : T = 1 ∨ T = 2 ∨ T = 3 ∨ T = 4 := by omega
    all_goals decide
theorem gMs {N T : Nat} (h2 : N ≤ 3) (h4 : T ≤ 4) : gM N T ≤ 108 := by
  have e1 : T * 4 * (N + 1) ≤ 4 * 4 * 4 := Nat.mul_le_mul (by omega) (by omega)
  have e2 : T * (2 * T + 3) ≤ 4 * 11 := Nat.mul_le_mul h4 (by omega)
  unfold gM; omega
section
variable {N T t c : Nat} {ws : List UInt64} {W : Nat → Nat → UInt64} {free free' : List Nat} {ver : Nat} {G L L' : Nat → List Nat} {I I' : Nat → Nat → UInt64} {item : UInt64}
def sN (a : Nat → Nat) : Nat → Nat
  | 0 => 0
  | n + 1 => sN a n + a n
def upA (a : Nat → Nat) (i : Nat) : Nat → Nat := fun j => if j = i then a j + 1 else a j
theorem sN_congr {a b : Nat → Nat} : ∀ {n : Nat}, (∀ j, j < n → a j = b j) → sN a n = sN b n
  | 0, _ => rfl
  | n + 1, h => by unfold sN; rw [sN_congr (n := n) fun j hj => h j (by omega), h n (by omega)]
theorem sN_up {a : Nat → Nat} {i : Nat} : ∀ {n : Nat}, i < n → sN (upA a i) n = sN a n + 1
  | 0, h => by omega
  | n + 1, h => by
    unfold sN
    by_cases e : i = n
    · subst e
      rw [sN_congr (a := upA a i) (b := a) fun j hj => if_neg (by omega)]
      unfold upA; rw [if_pos rfl]; omega
    · rw [sN_up (n := n) (by omega)]
      unfold upA; rw [if_neg (fun e2 => e e2.symm)]; omega
theorem flat_succ {n : Nat} {L : Nat → List Nat} : flat (n + 1) L = flat n L ++ L n := by simp [flat, List.range_succ]
theorem flat_len {b : Nat} {L : Nat → List Nat} : ∀ {n : Nat}, (∀ j, j < n → (L j).length ≤ b) → (flat n L).length ≤ n * b
  | 0, _ => by simp [flat]
  | n + 1, h => by
    rw [flat_succ, List.length_append, Nat.succ_mul]
    have := flat_len (n := n) fun j hj => h j (by omega)
    have := h n (by omega)
    omega
theorem flat_eight {a : Nat → Nat} {L : Nat → List Nat} : ∀ {n : Nat}, (∀ j, j < n → 8 * (L j).length ≤ a j + 7) → 8 * (flat n L).length ≤ sN a n + 7 * n
  | 0, _ => by simp [flat]
  | n + 1, h => by
    rw [flat_succ, List.length_append]
    have h1 := flat_eight (n := n) fun j hj => h j (by omega)
    have h2 := h n (by omega)
    unfold sN
    omega
def BN (T : Nat) (L : Nat → List Nat) (I : Nat → Nat → UInt64) (cnt : Nat) : Prop := ∃ a : Nat → Nat, sN a (T * 4) ≤ cnt ∧ ∀ i, i < T * 4 → 8 * (L i).length ≤ a i + 7 ∧ totI I (L i) ≤ a i
theorem BN.start (T : Nat) (I : Nat → Nat → UInt64) : BN T (fun _ => []) I 0 :=
  ⟨fun _ => 0, by
    have : ∀ n, sN (fun _ => 0) n = 0 := fun n => by induction n with
      | zero => rfl
      | succ n ih => unfold sN; rw [ih]
    rw [this]; exact Nat.le_refl _, fun i _ => by simp [totI]⟩
theorem BN.le {cnt cnt' : Nat} (h : BN T L I cnt) (hc : cnt ≤ cnt') : BN T L I cnt' := by
  obtain ⟨a, h1, h2⟩ := h
  exact ⟨a, by omega, h2⟩
theorem BN.fewer {cnt : Nat} (h : BN T L I cnt) (e : ∀ i, i < T * 4 → (L' i).length ≤ (L i).length ∧ totI I' (L' i) ≤ totI I (L i)) : BN T L' I' cnt := by
  obtain ⟨a, h1, h2⟩ := h
  exact ⟨a, h1, fun i hi => by have := h2 i hi; have := e i hi; omega⟩
theorem BN.add {cnt i : Nat} (h : BN T L I cnt) (hi : i < T * 4) (h1 : totI I' (L' i) = totI I (L i) + 1) (h2 : (L' i).length = (L i).length ∨ (L' i).length = (L i).length + 1 ∧ totI I (L i) = 8 * (L i).length) (h3 : ∀ j, j < T * 4 → j ≠ i → L' j = L j ∧ totI I' (L' j) = totI I (L j)) : BN T L' I' (cnt + 1) := by
  obtain ⟨a, h4, h5⟩ := h
  refine ⟨upA a i, by rw [sN_up hi]; omega, fun j hj => ?_⟩
  have h6 := h5 j hj
  unfold upA
  by_cases e : j = i
  · subst e
    rw [if_pos rfl]; omega
  · rw [if_neg e]
    obtain ⟨h7, h8⟩ := h3 j hj e
    rw [h8, h7]; exact h6
theorem BS.free_ne {cnt : Nat} (hS : BS N T ws W free ver G L I) (h : BN T L I cnt) (hc : cnt ≤ 55) (hN : 1 ≤ N) (hT1 : 1 ≤ T) (hT : T ≤ 4) : ∃ y fr, free = y :: fr := by
  cases free with
  | cons y fr => exact ⟨y, fr, rfl⟩
  | nil =>
    exfalso
    obtain ⟨a, h1, h2⟩ := h
    have h3 := flat_eight (n := T * 4) fun j hj => (h2 j hj).1
    have h4 := flat_len (n := T) (b := 2 * T) hS.glen
    have h5 := hS.count
    rw [List.length_nil] at h5
    unfold gM at h5
    obtain rfl | rfl | rfl | rfl : T = 1 ∨ T = 2 ∨ T = 3 ∨ T = 4 := by omega
    all_goals omega
end
theorem Ge.set' {l l' : List (Option Blk)} {q : Nat} {b : Option Blk} (h : Ge l l') (hq : l.length ≤ q) : Ge l (l'.set q b) := fun n c hc => by
  have hn := (List.getElem?_eq_some_iff.1 hc).1
  rw [List.getElem?_set_ne (by omega)]; exact h n c hc
def wasOf (I : Nat → Nat → UInt64) (L : Nat → List Nat) (c k : Nat) : List (List (List UInt64)) := (List.range k).map fun k => (L (k * 4 + c)).map (itemsOf I)
theorem wasOf_succ {I : Nat → Nat → UInt64} {L : Nat → List Nat} {c k : Nat} : wasOf I L c (k + 1) = wasOf I L c k ++ [(L (k * 4 + c)).map (itemsOf I)] := by simp [wasOf, List.range_succ]
theorem wasOf_get {I : Nat → Nat → UInt64} {L : Nat → List Nat} {c k n : Nat} (h : k < n) : (wasOf I L c n)[k]? = some ((L (k * 4 + c)).map (itemsOf I)) := by
  unfold wasOf; rw [List.getElem?_map, List.getElem?_range h]; rfl
theorem wasOf_len {I : Nat → Nat → UInt64} {L : Nat → List Nat} {c k : Nat} : (wasOf I L c k).length = k := by simp [wasOf]
theorem appT_sss : AppT Try.prog 38 50 0 := AppT.of (bs := 24) (z := .slice none 0 0) (by simp only [go_sem]) (by simp only [go_sem]) (by simp only [go_sem]) (by simp only [go_sem]) (by simp [plainB, Value.cells])
theorem BS.len_le {N T i : Nat} {ws : List UInt64} {W : Nat → Nat → UInt64} {free : List Nat} {ver : Nat} {G L : Nat → List Nat} {I : Nat → Nat → UInt64} (hS : BS N T ws W free ver G L I) (hi : i < T * 4) : (L i).length ≤ gM N T := by
  have := nodup_le (hS.lnd hi) (fun x hx => upto_mem.2 (hS.rng hi hx))
  rwa [upto_len0] at this
theorem totI_le8 {I : Nat → Nat → UInt64} {l : List Nat} : totI I l ≤ 8 * l.length := by
  rw [← totX_items]
  have := totX_le (l.map (itemsOf I)) (l.map (itemsOf I)).length
  rwa [List.length_map] at this ⊢
theorem items8 {I : Nat → Nat → UInt64} {l : List Nat} : ∀ xs ∈ l.map (itemsOf I), xs.length = 8 := fun xs h => by
  obtain ⟨z, _, rfl⟩ := List.mem_map.1 h
  simp [itemsOf]
theorem itemsL {S : St} {lf : List (Option Blk)} {q : Nat} {a : Option Addr} {I : Nat → Nat → UInt64} {l : List Nat} (hl : lf.length ≤ q) (hq : q ≤ 900000000) (hU : IsUU lf a (l.map (itemsOf I))) (hn : l.length ≤ 1000) : DoesD OF 28 #[.slice a l.length l.length] (heapJ lf q []) S (.int .i64 (totI I l : Nat)) (heapJ lf q []) S := by
  obtain ⟨v, hh, S1, ⟨rfl, rfl, rfl⟩, hd⟩ := items_does S hl hq hU items8 (by rw [List.length_map]; exact hn)
  rw [totX_items, List.length_map] at hd
  exact hd
theorem badd_zero (S : St) (p m me : Nat) (steps : Nat) (N T c : Nat) (hp : S[p]? = some (.port m me steps)) (hN1 : 1 ≤ N) (hN : N ≤ 256) (hT : T ≤ 64) (hme : me < T) (hc : c < 4) : Does OF 14 #[prtV p, .agg (geoC N T), .int .i64 c, .int .u64 0] [] S (.bool false) S := by
  refine Does.mk Try.func14 rfl rfl ?clo ?hand ?_
  case clo => exact clo4 (pclo (hlt_of hp)) gclo iclo iclo
  case hand => exact Hand.plain rfl
  rw [Try.ntmps14]; simp only [List.size_toArray, List.length_cons, List.length_nil, List.replicate, List.cons_append, List.nil_append]
  refine via ?_
  ((first | refine qc1 rfl rfl fun K hK => ?_ | refine qc3 rfl rfl fun K hK => ?_); simp (disch := (first | omega | (simp only [sz] <;> omega) | fail)) only [go_sem]; refine ⟨_, _, bnone_does S p m me steps N T c hp hN1 hN hT hme hc, ?_⟩; (try simp only [go_sem]); with_reducible refine hK _ _ ?_; clear hK K)
  refine via ?_
  refine Goes.fin rfl (by simp (disch := (first | omega | (simp only [heapL_next, List.length_cons, List.length_nil, List.size_toArray, geo_len] <;> omega) | fail)) only [go_sem, resA, res1A, Try.results14] <;> rfl) ?_
  rfl
end Go.Proofs.Ytjdbknnacaacaaa
namespace Go.Proofs.Ytjdbknnacaacaaa
open Go Go.RowKit
set_option linter.unusedSimpArgs false
set_option linter.unusedVariables false
set_option maxHeartbeats 20000000 in
set_option maxRecDepth 10000 in
theorem bagLists_law (pg th : Nat) (sl : Option Addr) (c : Nat) (l : List Act9) (ob : Option Blk) (hcl : SlAt 0 sl) (hrow : RowIs a9C 0 sl l ob) (hlen : l.length ≤ 9223372036854775807) (hpg : pg ≤ 255) (hth : th ≤ 255) (hbd : ∀ y ∈ l, Bd9 y) :
    Law 6 #[.int .u8 pg, .int .u8 th, .slice sl l.length c] [ob] := by
  refine Law.mk Try.func6 rfl rfl (clo3 iclo iclo (hcl.clo (by simp))) ?_
  rw [Try.ntmps6]; simp only [List.size_toArray, List.length_cons, List.length_nil, List.replicate, List.cons_append, List.nil_append]
  by_cases h80 : l.length > 50
  · refine via ?_
    ((first | refine qp1 rfl rfl fun K hK => ?_ | refine qp3 rfl rfl fun K hK => ?_); simp (disch := (first | omega | (simp only [sz] <;> omega) | fail)) only [go_sem]; refine ⟨_, _, qpu fun w => awake9_any w, ?_⟩; (try simp only [go_sem]); with_reducible refine hK _ _ ?_; clear hK K)
    refine via ?_
    exact Goes.law rfl rfl
  refine via ?_
  ((first | refine qc1 rfl rfl fun K hK => ?_ | refine qc3 rfl rfl fun K hK => ?_); simp (disch := (first | omega | (simp only [sz] <;> omega) | fail)) only [go_sem]; refine ⟨_, _, of8_does _ pg th (by omega) (by omega), ?_⟩; (try simp only [go_sem]); with_reducible refine hK _ _ ?_; clear hK K)
  obtain ⟨N, hN⟩ : ∃ N, N = 1 + pg % 3 := ⟨_, rfl⟩
  obtain ⟨T, hT⟩ : ∃ T, T = 1 + th % 4 := ⟨_, rfl⟩
  rw [← hN, ← hT]
  have hN1 : 1 ≤ N := by omega
  have hN3 : N ≤ 3 := by omega
  have hT1 : 1 ≤ T := by omega
  have hT4 : T ≤ 4 := by omega
  clear hN hT
  have hM := gMs hN3 hT4
  obtain ⟨v0, S0, ⟨rfl, st0, ws0, W0, bs, rfl, hW0, hP0, hr0⟩, hd0⟩ := memory8_does [] N T hN1 (by omega) (by omega) hT1 (gb19s hN1 hN3 hT1 hT4)
  simp only [List.length_nil, List.nil_append] at hd0
  refine via ?_
  ((first | refine qc1 rfl rfl fun K hK => ?_ | refine qc3 rfl rfl fun K hK => ?_); simp (disch := (first | omega | (simp only [sz] <;> omega) | fail)) only [go_sem]; refine ⟨_, _, hd0, ?_⟩; (try simp only [go_sem]); with_reducible refine hK _ _ ?_; clear hK K)
  refine via ?_
  ((first | refine qp1 rfl rfl fun K hK => ?_ | refine qp3 rfl rfl fun K hK => ?_); simp (disch := (first | omega | (simp only [sz] <;> omega) | fail)) only [go_sem]; refine ⟨_, _, qpu fun w => gThreads_any N T w, ?_⟩; (try simp only [go_sem]); with_reducible refine hK _ _ ?_; clear hK K)
  refine via ?_
  refine Goes.wh (fun z tmps h S => ∃ (i qq : Nat) (lf : List (Option Blk)) (ws : List UInt64) (W : Nat → Nat → UInt64) (free : List Nat) (ver : Nat) (G L : Nat → List Nat) (I : Nat → Nat → UInt64) (R : St), z = l.length - i ∧ i ≤ l.length ∧ lf.length ≤ qq ∧ 2 ≤ qq ∧ qq ≤ 2 + 400000 * i ∧ (∀ b, ob = some b → lf[0]? = some (some b)) ∧ lf[1]? = some (some { cells := (geoC N T).toList, elem := 24 }) ∧ BS N T ws W free ver G L I ∧ BN T L I i ∧ ver ≤ 30000 * i ∧ S = .mem ws bs :: R ∧ h = heapJ lf qq [] ∧ tmps.length = 228 ∧
      tmps.getD 2 undef = .slice sl l.length c ∧ tmps.getD 6 undef = .bool false ∧ tmps.getD 7 undef = .pointer (some ⟨1, 0, none⟩) ∧ tmps.getD 8 undef = hndV 0 ∧ tmps.getD 9 undef = .int .i64 i) (m := l.length)
      ⟨0, 2, [ob, some { cells := (geoC N T).toList, elem := 24 }], ws0, W0, upto 1 (gM N T), 0, _, _, _, [.port 0 0 st0], rfl, by omega, by simp, by omega, by omega, fun b hb => (by rw [hb]; rfl), rfl, BS.start hW0 hP0 hr0, BN.start _ _, by omega, rfl, gap_of _, rfl, rfl, rfl, rfl, rfl, rfl⟩ ?_
  rintro z tmps h S ih ⟨i, qq, lf, ws, W, free, ver, G, L, I, R, rfl, hi, hlen', hq2, hq3, hrow0, hgeo, hS, hBN, hver, rfl, rfl, hl, f2, f6, f7, f8, f9⟩
  obtain ⟨V, hV, hT⟩ := frame_lit hl; replace hT : _ = ([V 0, V 1, V 2, V 3, V 4, V 5, V 6, V 7, V 8, V 9, V 10, V 11, V 12, V 13, V 14, V 15, V 16, V 17, V 18, V 19, V 20, V 21, V 22, V 23, V 24, V 25, V 26, V 27, V 28, V 29, V 30, V 31, V 32, V 33, V 34, V 35, V 36, V 37, V 38, V 39, V 40, V 41, V 42, V 43, V 44, V 45, V 46, V 47, V 48, V 49, V 50, V 51, V 52, V 53, V 54, V 55, V 56, V 57, V 58, V 59, V 60, V 61, V 62, V 63, V 64, V 65, V 66, V 67, V 68, V 69, V 70, V 71, V 72, V 73, V 74, V 75, V 76, V 77, V 78, V 79, V 80, V 81, V 82, V 83, V 84, V 85, V 86, V 87, V 88, V 89, V 90, V 91, V 92, V 93, V 94, V 95, V 96, V 97, V 98, V 99, V 100, V 101, V 102, V 103, V 104, V 105, V 106, V 107, V 108, V 109, V 110, V 111, V 112, V 113, V 114, V 115, V 116, V 117, V 118, V 119, V 120, V 121, V 122, V 123, V 124, V 125, V 126, V 127, V 128, V 129, V 130, V 131, V 132, V 133, V 134, V 135, V 136, V 137, V 138, V 139, V 140, V 141, V 142, V 143, V 144, V 145, V 146, V 147, V 148, V 149, V 150, V 151, V 152, V 153, V 154, V 155, V 156, V 157, V 158, V 159, V 160, V 161, V 162, V 163, V 164, V 165, V 166, V 167, V 168, V 169, V 170, V 171, V 172, V 173, V 174, V 175, V 176, V 177, V 178, V 179, V 180, V 181, V 182, V 183, V 184, V 185, V 186, V 187, V 188, V 189, V 190, V 191, V 192, V 193, V 194, V 195, V 196, V 197, V 198, V 199, V 200, V 201, V 202, V 203, V 204, V 205, V 206, V 207, V 208, V 209, V 210, V 211, V 212, V 213, V 214, V 215, V 216, V 217, V 218, V 219, V 220, V 221, V 222, V 223, V 224, V 225, V 226, V 227] : List Value) := hT; rw [hV] at f2 f6 f7 f8 f9; subst hT; simp only [f2, f6, f7, f8, f9]; clear hV hl
  by_cases hlt : i < l.length
  case neg =>
    refine via ?_
    ((first | refine qp1 rfl rfl fun K hK => ?_ | refine qp3 rfl rfl fun K hK => ?_); simp (disch := (first | omega | (simp only [sz] <;> omega) | fail)) only [go_sem]; refine ⟨_, _, qpu fun w => awake9_any w, ?_⟩; (try simp only [go_sem]); with_reducible refine hK _ _ ?_; clear hK K)
    refine via ?_
    exact Goes.law rfl rfl
  obtain ⟨rfl, el, rfl⟩ := hrow (by omega)
  have hr0 := hrow0 _ rfl
  obtain ⟨x, hx⟩ : ∃ x, x = l[i] := ⟨_, rfl⟩
  have hlk : l[i]? = some x := by rw [hx]; exact List.getElem?_eq_getElem hlt
  obtain ⟨hb1, hb2, ⟨hb3, hb4⟩, hb5⟩ := hbd x (by rw [hx]; exact List.getElem_mem hlt)
  have hcL := rowC_len a9C_len l
  have g0 : (rowC a9C l)[i * 4]? = some (.int .u8 x.d) := rowC_get (j := 0) a9C_len hlk (by decide)
  have g1 : (rowC a9C l)[i * 4 + 1]? = some (.int .u8 x.t) := rowC_get a9C_len hlk (by decide)
  have g3 : (rowC a9C l)[i * 4 + 3]? = some (.int .u64 x.x) := rowC_get a9C_len hlk (by decide)
  obtain ⟨t, ht⟩ : ∃ t, t = x.t % T := ⟨_, rfl⟩
  have htT : t < T := by rw [ht]; exact Nat.mod_lt _ (by omega)
  have htm : (x.t : Int).tmod (T : Int) = (t : Int) := by rw [ht]; exact tmod_n x.t T
  obtain ⟨cc, hcc⟩ : ∃ cc, cc = x.x % 4 := ⟨_, rfl⟩
  have hc4 : cc < 4 := by omega
  have hcm : (x.x : Int).tmod (4 : Int) = (cc : Int) := by rw [hcc]; exact tmod_n x.x 4
  obtain ⟨y, fr, rfl⟩ := hS.free_ne hBN (by omega) hN1 hT1 hT4
  have hl00 : 0 < lf.length := (List.getElem?_eq_some_iff.1 hr0).1
  have hl01 : 1 < lf.length := (List.getElem?_eq_some_iff.1 hgeo).1
  have hq0 : 0 < qq := by omega
  have hq1 : 1 < qq := by omega
  repeat (first | refine Goes.reg ?_ | refine Goes.ctl2 rfl ?_ | ((first | refine qv1 rfl rfl rfl fun K hK => ?_ | refine qv3 rfl rfl rfl fun K hK => ?_ | refine qv2 rfl rfl rfl rfl rfl rfl fun K hK => ?_ | refine qv4 rfl rfl rfl rfl rfl rfl fun K hK => ?_ | refine qn1 rfl rfl rfl fun K hK => ?_ | refine qn3 rfl rfl rfl fun K hK => ?_ | refine qt1 rfl rfl rfl fun K hK => ?_ | refine qt3 rfl rfl rfl fun K hK => ?_); simp (disch := (first | omega | (simp only [sz] <;> omega) | fail)) only [go_sem, hr0, g1, hgeo]; with_reducible refine hK _ _ ?_; clear hK K) | refine At.nil rfl ?_ | refine RG.nil rfl ?_ | ((first | refine AtL.skipg rfl rfl rfl rfl rfl ?_ | refine RGL.skipg rfl rfl rfl rfl rfl ?_ | refine AtL.skipu rfl rfl rfl rfl ?_ | refine RGL.skipu rfl rfl rfl rfl ?_); simp only [putL, List.set_cons_zero, List.set_cons_succ]) | refine Goes.yes rfl ?_ | refine Goes.no rfl ?_ | refine Goes.drawR [] (by kernel_rfl) ?_)
  ((first | refine qp1 rfl rfl fun K hK => ?_ | refine qp3 rfl rfl fun K hK => ?_); simp (disch := (first | omega | (simp only [sz] <;> omega) | fail)) only [go_sem]; refine ⟨_, _, qpu fun w => gThreads_any N T w, ?_⟩; (try simp only [go_sem]); with_reducible refine hK _ _ ?_; clear hK K)
  refine viaF htm ?_
  ((first | refine qp1 rfl rfl fun K hK => ?_ | refine qp3 rfl rfl fun K hK => ?_); simp (disch := (first | omega | (simp only [sz] <;> omega) | fail)) only [go_sem]; refine ⟨_, _, .pnew (m := 0) rfl, ?_⟩; (try simp only [go_sem]); with_reducible refine hK _ _ ?_; clear hK K)
  refine viaF (And.intro hr0 (And.intro g3 hcm)) ?_
  refine Goes.wh (fun z tmps h S => ∃ (k qq' : Nat) (lf' : List (Option Blk)) (aw : Option Addr), z = T - k ∧ k ≤ T ∧ lf'.length ≤ qq' ∧ qq ≤ qq' ∧ qq' ≤ qq + 40010 * k ∧ Ge lf lf' ∧ IsUUU lf' aw (wasOf I L cc k) ∧ (∀ n, aw = some ⟨n, 0, none⟩ → qq ≤ n) ∧ S = .mem ws bs :: (R ++ [.port 0 t 0]) ∧ h = heapJ lf' qq' [] ∧ tmps.length = 228 ∧
      tmps.getD 2 undef = .slice (some ⟨0, 0, none⟩) l.length c ∧ tmps.getD 6 undef = .bool false ∧ tmps.getD 7 undef = .pointer (some ⟨1, 0, none⟩) ∧ tmps.getD 8 undef = hndV 0 ∧ tmps.getD 9 undef = .int .i64 i ∧ tmps.getD 10 undef = .int .i64 t ∧ tmps.getD 11 undef = hndV (R.length + 1) ∧ tmps.getD 12 undef = .int .i64 cc ∧ tmps.getD 13 undef = .slice aw k k ∧ tmps.getD 14 undef = .int .i64 k) (m := T)
      ⟨0, qq, lf, none, rfl, by omega, hlen', Nat.le_refl _, by omega, Ge.refl _, .inl ⟨rfl, rfl⟩, fun n hn => (by cases hn), rfl, rfl, rfl, rfl, rfl, rfl, rfl, rfl, rfl, rfl, rfl, rfl, rfl⟩ ?_
  rintro z tmps h S ih2 ⟨k, q2, l2, aw, rfl, hk, hlen2, hqq2, hq2', hge2, hwas, haw, rfl, rfl, hl, f2, f6, f7, f8, f9, f10, f11, f12, f13, f14⟩
  obtain ⟨V, hV, hT⟩ := frame_lit hl; replace hT : _ = ([V 0, V 1, V 2, V 3, V 4, V 5, V 6, V 7, V 8, V 9, V 10, V 11, V 12, V 13, V 14, V 15, V 16, V 17, V 18, V 19, V 20, V 21, V 22, V 23, V 24, V 25, V 26, V 27, V 28, V 29, V 30, V 31, V 32, V 33, V 34, V 35, V 36, V 37, V 38, V 39, V 40, V 41, V 42, V 43, V 44, V 45, V 46, V 47, V 48, V 49, V 50, V 51, V 52, V 53, V 54, V 55, V 56, V 57, V 58, V 59, V 60, V 61, V 62, V 63, V 64, V 65, V 66, V 67, V 68, V 69, V 70, V 71, V 72, V 73, V 74, V 75, V 76, V 77, V 78, V 79, V 80, V 81, V 82, V 83, V 84, V 85, V 86, V 87, V 88, V 89, V 90, V 91, V 92, V 93, V 94, V 95, V 96, V 97, V 98, V 99, V 100, V 101, V 102, V 103, V 104, V 105, V 106, V 107, V 108, V 109, V 110, V 111, V 112, V 113, V 114, V 115, V 116, V 117, V 118, V 119, V 120, V 121, V 122, V 123, V 124, V 125, V 126, V 127, V 128, V 129, V 130, V 131, V 132, V 133, V 134, V 135, V 136, V 137, V 138, V 139, V 140, V 141, V 142, V 143, V 144, V 145, V 146, V 147, V 148, V 149, V 150, V 151, V 152, V 153, V 154, V 155, V 156, V 157, V 158, V 159, V 160, V 161, V 162, V 163, V 164, V 165, V 166, V 167, V 168, V 169, V 170, V 171, V 172, V 173, V 174, V 175, V 176, V 177, V 178, V 179, V 180, V 181, V 182, V 183, V 184, V 185, V 186, V 187, V 188, V 189, V 190, V 191, V 192, V 193, V 194, V 195, V 196, V 197, V 198, V 199, V 200, V 201, V 202, V 203, V 204, V 205, V 206, V 207, V 208, V 209, V 210, V 211, V 212, V 213, V 214, V 215, V 216, V 217, V 218, V 219, V 220, V 221, V 222, V 223, V 224, V 225, V 226, V 227] : List Value) := hT; rw [hV] at f2 f6 f7 f8 f9 f10 f11 f12 f13 f14; subst hT; simp only [f2, f6, f7, f8, f9, f10, f11, f12, f13, f14]; clear hV hl
  have hgeo2 := hge2 _ _ hgeo
  have hr2 := hge2 _ _ hr0
  have hl20 : 0 < l2.length := (List.getElem?_eq_some_iff.1 hr2).1
  have hl21 : 1 < l2.length := (List.getElem?_eq_some_iff.1 hgeo2).1
  have hq20 : 1 < q2 := by omega
  by_cases hkT : k < T
  · obtain ⟨ll, ql, al, hll, hql, hUl, hdl⟩ := list_fresh (Ob.mem ws bs :: (R ++ [Ob.port 0 t 0])) 0 ws bs N T cc k rfl hN1 (by omega) (by omega) (by omega) hkT hc4 hS
    refine viaF hgeo2 ?_
    ((first | refine qp1 rfl rfl fun K hK => ?_ | refine qp3 rfl rfl fun K hK => ?_); simp (disch := (first | omega | (simp only [sz] <;> omega) | fail)) only [go_sem]; refine ⟨_, _, qpu fun w => gThreads_any N T w, ?_⟩; (try simp only [go_sem]); with_reducible refine hK _ _ ?_; clear hK K)
    refine viaF hgeo2 ?_
    ((first | refine qr1 (by first | assumption | omega | simp) rfl rfl fun K hK => ?_ | refine qr3 (by first | assumption | omega | simp) rfl rfl fun K hK => ?_); simp (disch := (first | omega | (simp only [sz] <;> omega) | fail)) only [go_sem]; refine ⟨_, _, _, _, hdl, by (try simp only [sz, List.length_cons, List.length_nil]); omega, fun lf hF => ?_⟩; (try simp only [go_sem]); with_reducible refine hK _ _ _ _ ?_; clear hK K)
    rw [ren_shU (hUl.at hll (by unfold VB; omega))]
    have hnew := hUl.fresh hF hll (by unfold VB; omega)
    obtain ⟨hF1, hF2, _⟩ := hF
    simp only [List.length_nil, Nat.add_zero] at hF1 hnew
    have hwas2 := hwas.ge hF2
    have hge3 := hge2.trans hF2
    have hnl : ((L (k * 4 + cc)).map (itemsOf I)).length = (L (k * 4 + cc)).length := List.length_map _
    refine via ?_
    rcases hwas2 with ⟨h0, rfl⟩ | ⟨n, ps, rfl, hne, hb, hps, hall⟩
    · obtain rfl : k = 0 := by rw [← wasOf_len (I := I) (L := L) (c := cc) (k := k), h0]; rfl
      (refine At.appE rfl rfl rfl rfl (app_nil_new appT_sss (cells_gap 0 rfl rfl (by decide)) (by decide) (by decide)) (by simp (disch := (first | omega | (simp only [sz] <;> omega) | fail)) only [go_sem]; (try simp only [sz]); unfold VB; omega) fun K hK => ?_; simp (disch := (first | omega | (simp only [sz] <;> omega) | fail)) only [go_sem]; with_reducible refine hK _ _ ?_; clear hK K)
      refine via ?_
      refine Goes.folds (by omega) fun l3 hl3 hge4 hrow3 => ?_
      simp only [List.length_cons, List.length_nil] at hl3
      refine ih2 _ _ _ _ (by omega) ⟨1, _, l3, some ⟨q2 + ql + 1, 0, none⟩, rfl, by omega, by simp only [List.length_cons, List.length_nil]; omega, by simp only [List.length_cons, List.length_nil]; omega, by simp only [List.length_cons, List.length_nil]; omega, hge3.trans hge4, ?_, fun n hn => (by cases hn; omega), rfl, rfl, rfl, rfl, rfl, rfl, rfl, rfl, rfl, rfl, rfl, rfl, rfl⟩
      rw [wasOf_succ, h0]
      exact IsUUU.app (l := l3) (ps := []) (zs := []) rfl (fun j p ys hj => by simp at hj) (fun _ _ h => h) ((hrow3 1).trans (by rw [hnl]; simp only [Nat.zero_mul, Nat.zero_add]; rfl)) (hnew.ge hge4)
    · have hnn := haw n rfl
      have hnl2 := (List.getElem?_eq_some_iff.1 hb).1
      have hpl : ps.length = k := by rw [hps, wasOf_len]
      have hkg : ∀ ys, (heapJ lf (q2 + ql) ys).get n = some ⟨rowQ ps, 50, false, some 1⟩ := fun ys => by
        rw [gap_lo (by omega), hb]; rfl
      (refine At.appE rfl rfl rfl rfl (app_grow appT_sss (hkg _) rfl rfl (by rw [rowQ_len]; omega) (cells_gap 0 rfl rfl (by decide)) rfl (by decide) (by omega)) (by simp (disch := (first | omega | (simp only [sz] <;> omega) | fail)) only [go_sem]; (try simp only [sz]); unfold VB; omega) fun K hK => ?_; simp (disch := (first | omega | (simp only [sz] <;> omega) | fail)) only [go_sem]; with_reducible refine hK _ _ ?_; clear hK K)
      refine via ?_
      refine Goes.folds (by rw [List.length_set]; omega) fun l3 hl3 hge4 hrow3 => ?_
      simp only [List.length_cons, List.length_nil] at hl3
      refine ih2 _ _ _ _ (by omega) ⟨k + 1, _, l3, some ⟨q2 + ql + 1, 0, none⟩, rfl, by omega, by simp only [List.length_cons, List.length_nil]; omega, by simp only [List.length_cons, List.length_nil]; omega, by simp only [List.length_cons, List.length_nil]; omega, (hge3.set' (by omega)).trans hge4, ?_, fun n hn => (by cases hn; omega), rfl, rfl, rfl, rfl, rfl, rfl, rfl, rfl, rfl, rfl, rfl, rfl, by push_cast; rfl⟩
      rw [wasOf_succ]
      exact IsUUU.app hps hall (fun p ys h => (h.set hb (by simp) (by simp)).ge hge4) (by rw [← rowQ_app, hnl]; exact (hrow3 1).trans rfl) ((hnew.set hb (by simp) (by simp)).ge hge4)
  obtain rfl : T = k := by omega
  clear ih2
  refine viaF hgeo2 ?_
  ((first | refine qp1 rfl rfl fun K hK => ?_ | refine qp3 rfl rfl fun K hK => ?_); simp (disch := (first | omega | (simp only [sz] <;> omega) | fail)) only [go_sem]; refine ⟨_, _, qpu fun w => gThreads_any N T w, ?_⟩; (try simp only [go_sem]); with_reducible refine hK _ _ ?_; clear hK K)
  obtain ⟨d3, hd3⟩ : ∃ d3, d3 = x.d % 3 := ⟨_, rfl⟩
  have hdm : (x.d : Int).tmod (3 : Int) = (d3 : Int) := by rw [hd3]; exact tmod_n x.d 3
  have h3 : d3 < 3 := by omega
  refine viaF (And.intro hr2 (And.intro g0 hdm)) ?_
  have hp0 : ∀ (ws : List UInt64) (st : Nat), (Ob.mem ws bs :: (R ++ [Ob.port 0 t st]))[R.length + 1]? = some (.port 0 t st) := fun ws st => by simp
  have hm0 : ∀ (ws : List UInt64) (st : Nat), (Ob.mem ws bs :: (R ++ [Ob.port 0 t st]))[0]? = some (.mem ws bs) := fun ws st => rfl
  have hacc : ∀ (ws ws' : List UInt64) (st st' : Nat), accS (Ob.mem ws bs :: (R ++ [Ob.port 0 t st])) (R.length + 1) 0 t st' ws' bs = Ob.mem ws' bs :: (R ++ [Ob.port 0 t st']) := fun ws ws' st st' => by simp [accS]
  have hit : t * 4 + cc < T * 4 := by omega
  apply share (P := fun todo : List Item => ∀ (tmps : List Value) (st' : Nat) (ws' : List UInt64) (W' : Nat → Nat → UInt64) (free' : List Nat) (ver' : Nat) (G' L' : Nat → List Nat) (I' : Nat → Nat → UInt64) (g : Int), tmps.length = 228 → tmps.getD 2 undef = .slice (some ⟨0, 0, none⟩) l.length c → tmps.getD 6 undef = .bool false → tmps.getD 7 undef = .pointer (some ⟨1, 0, none⟩) → tmps.getD 8 undef = hndV 0 → tmps.getD 9 undef = .int .i64 i → tmps.getD 10 undef = .int .i64 t → tmps.getD 11 undef = hndV (R.length + 1) → tmps.getD 12 undef = .int .i64 cc → tmps.getD 13 undef = .slice aw T T → tmps.getD 15 undef = .int .i64 0 → tmps.getD 16 undef = .int .i64 0 →
    BS N T ws' W' free' ver' G' L' I' → BN T L' I' (i + 1) → ActR T t cc d3 I I' L L' g → (d3 = 0 → g = -1 ∨ x.x = 18446744073709551615) → (d3 = 1 → g = 0 ∨ g = 1) → (d3 = 2 → g = 0) → ver' ≤ ver + 30000 →
    Goes OF Try.f6 (fun x => ∃ h1 S', x = .done (.bool true) h1 S') (.run todo tmps (heapJ l2 q2 []) (.mem ws' bs :: (R ++ [.port 0 t st']))))
  · intro inner
    have hd3' : d3 = 0 ∨ d3 = 1 ∨ d3 = 2 := by omega
    rcases hd3' with rfl | rfl | rfl
    · by_cases hz : x.x = 18446744073709551615
      · have e2 : IntKind.u64.wrap ((x.x : Int) + 1) = 0 := by rw [hz]; decide
        refine viaF (And.intro hgeo2 (And.intro hr2 (And.intro g3 e2))) ?_
        ((first | refine qc1 rfl rfl fun K hK => ?_ | refine qc3 rfl rfl fun K hK => ?_); simp (disch := (first | omega | (simp only [sz] <;> omega) | fail)) only [go_sem]; refine ⟨_, _, badd_zero _ _ 0 t 0 N T cc (hp0 _ _) hN1 (by omega) (by omega) htT hc4, ?_⟩; (try simp only [go_sem]); with_reducible refine hK _ _ ?_; clear hK K)
        refine via ?_
        exact inner _ 0 ws W (y :: fr) ver G L I 0 rfl rfl rfl rfl rfl rfl rfl rfl rfl rfl rfl rfl hS (hBN.le (by omega)) ActR.same (fun _ => .inr hz) (fun h => absurd h (by decide)) (fun h => absurd h (by decide)) (by omega)
      · have e2 : IntKind.u64.wrap ((x.x : Int) + 1) = ((UInt64.ofNat (x.x + 1)).toNat : Int) := u64_i (i := x.x + 1) (by omega)
        have hne0 : UInt64.ofNat (x.x + 1) ≠ 0 := fun e => by
          have h9 := congrArg UInt64.toNat e
          simp at h9; omega
        obtain ⟨v1, S1, ⟨rfl, st1, ws1, W1, fr1, ver1, L1, I1, hst1, rfl, hver1, hS1, hsaid, _⟩, hd⟩ := badd_does (Ob.mem ws bs :: (R ++ [Ob.port 0 t 0])) (R.length + 1) 0 t 0 ws bs N T cc y (UInt64.ofNat (x.x + 1)) (hp0 _ _) (hm0 _ _) (by omega) hN1 (by omega) (by omega) htT hc4 (by omega) hS hne0
        rw [hacc] at hd
        refine viaF (And.intro hgeo2 (And.intro hr2 (And.intro g3 e2))) ?_
        ((first | refine qc1 rfl rfl fun K hK => ?_ | refine qc3 rfl rfl fun K hK => ?_); simp (disch := (first | omega | (simp only [sz] <;> omega) | fail)) only [go_sem]; refine ⟨_, _, hd, ?_⟩; (try simp only [go_sem]); with_reducible refine hK _ _ ?_; clear hK K)
        refine via ?_
        obtain ⟨ht1, hlen1, hj1⟩ := hsaid.tot (hS.lnd hit) (fun z hz hm => hS.out hit hm (List.mem_append.2 (.inl hz))) hne0
        exact inner _ st1 ws1 W1 fr1 ver1 G L1 I1 (-1) rfl rfl rfl rfl rfl rfl rfl rfl rfl rfl rfl rfl hS1 (hBN.add hit ht1 hlen1 (fun j hj hne => ⟨hj1 j hne, addO hS hit hj hne hsaid⟩)) (addR hS htT hc4 hsaid hne0) (fun _ => .inl rfl) (fun h => absurd h (by decide)) (fun h => absurd h (by decide)) (by omega)
    · obtain ⟨v1, S1, ⟨u, ok, rfl, st1, ws1, W1, I1, hst1, rfl, hS1, _, hsaid⟩, hd⟩ := btake_does (Ob.mem ws bs :: (R ++ [Ob.port 0 t 0])) (R.length + 1) 0 t 0 ws bs N T cc (hp0 _ _) (hm0 _ _) (by omega) hN1 (by omega) (by omega) (by omega) htT hc4 hS
      rw [hacc] at hd
      refine viaF hgeo2 ?_
      ((first | refine qc1 rfl rfl fun K hK => ?_ | refine qc3 rfl rfl fun K hK => ?_); simp (disch := (first | omega | (simp only [sz] <;> omega) | fail)) only [go_sem]; refine ⟨_, _, hd, ?_⟩; (try simp only [go_sem]); with_reducible refine hK _ _ ?_; clear hK K)
      refine via ?_
      obtain ⟨g, hg, hR⟩ := takeR hS htT hc4 hsaid
      exact inner _ st1 ws1 W1 (y :: fr) ver G L I1 g rfl rfl rfl rfl rfl rfl rfl rfl rfl rfl rfl rfl hS1 ((hBN.fewer (fun i _ => ⟨Nat.le_refl _, takeO hsaid _⟩)).le (by omega)) hR (fun h => absurd h (by decide)) (fun _ => hg) (fun h => absurd h (by decide)) (by omega)
    · obtain ⟨v1, S1, ⟨rfl, st1, ws1, W1, fr1, ver1, G1, hst1, hver1, rfl, hS1, _⟩, hd⟩ := bprune_does (Ob.mem ws bs :: (R ++ [Ob.port 0 t 0])) (R.length + 1) 0 t 0 ws bs N T cc (hp0 _ _) (hm0 _ _) (by omega) hN1 (by omega) (by omega) (by omega) htT hc4 (by omega) hS
      rw [hacc] at hd
      refine viaF hgeo2 ?_
      ((first | refine qc1 rfl rfl fun K hK => ?_ | refine qc3 rfl rfl fun K hK => ?_); simp (disch := (first | omega | (simp only [sz] <;> omega) | fail)) only [go_sem]; refine ⟨_, _, hd, ?_⟩; (try simp only [go_sem]); with_reducible refine hK _ _ ?_; clear hK K)
      refine via ?_
      refine inner _ st1 ws1 W1 fr1 ver1 G1 _ I 0 rfl rfl rfl rfl rfl rfl rfl rfl rfl rfl rfl rfl hS1 ((hBN.fewer (fun i _ => ?_)).le (by omega)) (pruneR htT hc4) (fun h => absurd h (by decide)) (fun h => absurd h (by decide)) (fun _ => rfl) (by omega)
      by_cases e : i = t * 4 + cc
      · rw [e, upG_eq]; exact ⟨List.length_filter_le _ _, Nat.le_of_eq totI_prune⟩
      · rw [upG_ne e]; exact ⟨Nat.le_refl _, Nat.le_refl _⟩
  rintro tmps st' ws' W' free' ver' G' L' I' g hl f2 f6 f7 f8 f9 f10 f11 f12 f13 f15 f16 hS' hBN' hR hg0 hg1 hg2 hver'
  refine Goes.wh (fun z tmps h S => ∃ (k q3 : Nat) (l3 : List (Option Blk)), z = T - k ∧ k ≤ T ∧ l3.length ≤ q3 ∧ q2 ≤ q3 ∧ q3 ≤ q2 + 40010 * k ∧ Ge l2 l3 ∧ S = .mem ws' bs :: (R ++ [.port 0 t st']) ∧ h = heapJ l3 q3 [] ∧ tmps.length = 228 ∧
      tmps.getD 2 undef = .slice (some ⟨0, 0, none⟩) l.length c ∧ tmps.getD 6 undef = .bool false ∧ tmps.getD 7 undef = .pointer (some ⟨1, 0, none⟩) ∧ tmps.getD 8 undef = hndV 0 ∧ tmps.getD 9 undef = .int .i64 i ∧ tmps.getD 10 undef = .int .i64 t ∧ tmps.getD 11 undef = hndV (R.length + 1) ∧ tmps.getD 12 undef = .int .i64 cc ∧ tmps.getD 13 undef = .slice aw T T ∧ tmps.getD 15 undef = .int .i64 (gN (lost cc I I' L L') k) ∧ tmps.getD 16 undef = .int .i64 k) (m := T)
      ⟨0, q2, l2, rfl, by omega, hlen2, Nat.le_refl _, by omega, Ge.refl _, rfl, rfl, hl, f2, f6, f7, f8, f9, f10, f11, f12, f13, f15, f16⟩ ?_
  rintro z tmps h S ih3 ⟨k, q3, l3, rfl, hk, hlen3, hqq3, hq3', hge3, rfl, rfl, hl, f2, f6, f7, f8, f9, f10, f11, f12, f13, f15, f16⟩
  have hgeo3 := hge3 _ _ hgeo2
  have hr3 := hge3 _ _ hr2
  have hl30 : 0 < l3.length := (List.getElem?_eq_some_iff.1 hr3).1
  have hl31 : 1 < l3.length := (List.getElem?_eq_some_iff.1 hgeo3).1
  have hq30 : 1 < q3 := by omega
  by_cases hkT : k < T
  · obtain ⟨V, hV, hT⟩ := frame_lit hl; replace hT : _ = ([V 0, V 1, V 2, V 3, V 4, V 5, V 6, V 7, V 8, V 9, V 10, V 11, V 12, V 13, V 14, V 15, V 16, V 17, V 18, V 19, V 20, V 21, V 22, V 23, V 24, V 25, V 26, V 27, V 28, V 29, V 30, V 31, V 32, V 33, V 34, V 35, V 36, V 37, V 38, V 39, V 40, V 41, V 42, V 43, V 44, V 45, V 46, V 47, V 48, V 49, V 50, V 51, V 52, V 53, V 54, V 55, V 56, V 57, V 58, V 59, V 60, V 61, V 62, V 63, V 64, V 65, V 66, V 67, V 68, V 69, V 70, V 71, V 72, V 73, V 74, V 75, V 76, V 77, V 78, V 79, V 80, V 81, V 82, V 83, V 84, V 85, V 86, V 87, V 88, V 89, V 90, V 91, V 92, V 93, V 94, V 95, V 96, V 97, V 98, V 99, V 100, V 101, V 102, V 103, V 104, V 105, V 106, V 107, V 108, V 109, V 110, V 111, V 112, V 113, V 114, V 115, V 116, V 117, V 118, V 119, V 120, V 121, V 122, V 123, V 124, V 125, V 126, V 127, V 128, V 129, V 130, V 131, V 132, V 133, V 134, V 135, V 136, V 137, V 138, V 139, V 140, V 141, V 142, V 143, V 144, V 145, V 146, V 147, V 148, V 149, V 150, V 151, V 152, V 153, V 154, V 155, V 156, V 157, V 158, V 159, V 160, V 161, V 162, V 163, V 164, V 165, V 166, V 167, V 168, V 169, V 170, V 171, V 172, V 173, V 174, V 175, V 176, V 177, V 178, V 179, V 180, V 181, V 182, V 183, V 184, V 185, V 186, V 187, V 188, V 189, V 190, V 191, V 192, V 193, V 194, V 195, V 196, V 197, V 198, V 199, V 200, V 201, V 202, V 203, V 204, V 205, V 206, V 207, V 208, V 209, V 210, V 211, V 212, V 213, V 214, V 215, V 216, V 217, V 218, V 219, V 220, V 221, V 222, V 223, V 224, V 225, V 226, V 227] : List Value) := hT; rw [hV] at f2 f6 f7 f8 f9 f10 f11 f12 f13 f15 f16; subst hT; simp only [f2, f6, f7, f8, f9, f10, f11, f12, f13, f15, f16]; clear hV hl
    have hgl := gN_le (n := k) fun j hj => hR.small j (by omega)
    have hlst := hR.small k hkT
    obtain ⟨ll, ql, al, hll, hql, hUl, hdl⟩ := list_fresh (Ob.mem ws' bs :: (R ++ [Ob.port 0 t st'])) 0 ws' bs N T cc k rfl hN1 (by omega) (by omega) (by omega) hkT hc4 hS'
    refine viaF hgeo3 ?_
    ((first | refine qp1 rfl rfl fun K hK => ?_ | refine qp3 rfl rfl fun K hK => ?_); simp (disch := (first | omega | (simp only [sz] <;> omega) | fail)) only [go_sem]; refine ⟨_, _, qpu fun w => gThreads_any N T w, ?_⟩; (try simp only [go_sem]); with_reducible refine hK _ _ ?_; clear hK K)
    refine viaF hgeo3 ?_
    ((first | refine qr1 (by first | assumption | omega | simp) rfl rfl fun K hK => ?_ | refine qr3 (by first | assumption | omega | simp) rfl rfl fun K hK => ?_); simp (disch := (first | omega | (simp only [sz] <;> omega) | fail)) only [go_sem]; refine ⟨_, _, _, _, hdl, by (try simp only [sz, List.length_cons, List.length_nil]); omega, fun lf hF => ?_⟩; (try simp only [go_sem]); with_reducible refine hK _ _ _ _ ?_; clear hK K)
    rw [ren_shU (hUl.at hll (by unfold VB; omega))]
    have hnew := hUl.fresh hF hll (by unfold VB; omega)
    obtain ⟨hF1, hF2, _⟩ := hF
    simp only [List.length_nil, Nat.add_zero] at hF1 hnew
    have hwas4 := (hwas.ge hge3).ge hF2
    rcases hwas4 with ⟨h0, _⟩ | ⟨n, ps, rfl, hne, hb, hps, hall⟩
    · exfalso
      have := wasOf_len (I := I) (L := L) (c := cc) (k := T)
      rw [h0] at this; simp at this; omega
    obtain ⟨⟨ap, np⟩, hpk⟩ : ∃ p, ps[k]? = some p := ⟨_, List.getElem?_eq_getElem (by rw [hps, wasOf_len]; exact hkT)⟩
    obtain ⟨hp2, hUw⟩ := hall k _ _ hpk (wasOf_get hkT)
    simp only [List.length_map] at hp2 hUw
    subst hp2
    have e1 := Nat.mul_one k
    have e3 : (rowQ ps)[k]? = some (.slice ap (L (k * 4 + cc)).length (L (k * 4 + cc)).length) := by simp [rowQ, hpk]
    have hnl := (List.getElem?_eq_some_iff.1 hb).1
    have hr4 := hF2 _ _ hr3
    have hl40 : 0 < lf.length := (List.getElem?_eq_some_iff.1 hr4).1
    have hlon := hR.longer k hkT
    have hsho := hR.shorter k hkT
    have hkn : ((k : Int) == (t : Int)) = decide (k = t) := by
      by_cases e : k = t
      · subst e; simp
      · simp [e]; omega
    have hki : k * 4 + cc < T * 4 := by omega
    have hlL := hS.len_le hki
    have hlL' := hS'.len_le hki
    have ht8 := totI_le8 (I := I) (l := L (k * 4 + cc))
    have ht8' := totI_le8 (I := I') (l := L' (k * 4 + cc))
    have hi1 := itemsL (S := Ob.mem ws' bs :: (R ++ [Ob.port 0 t st'])) (lf := lf) (q := q3 + ql) (by omega) (by omega) hUw (by omega)
    have hi2 := itemsL (S := Ob.mem ws' bs :: (R ++ [Ob.port 0 t st'])) (lf := lf) (q := q3 + ql) (by omega) (by omega) hnew (by omega)
    by_cases hlo : (L (k * 4 + cc)).length < (L' (k * 4 + cc)).length
    · have hkt : k = t ∧ d3 = 0 := by
        refine Classical.byContradiction fun h => ?_
        have := hlon (by omega)
        omega
      obtain ⟨hkt, hd0⟩ := hkt
      subst hkt hd0
      repeat (first | refine Goes.reg ?_ | refine Goes.ctl2 rfl ?_ | ((first | refine qv1 rfl rfl rfl fun K hK => ?_ | refine qv3 rfl rfl rfl fun K hK => ?_ | refine qv2 rfl rfl rfl rfl rfl rfl fun K hK => ?_ | refine qv4 rfl rfl rfl rfl rfl rfl fun K hK => ?_ | refine qn1 rfl rfl rfl fun K hK => ?_ | refine qn3 rfl rfl rfl fun K hK => ?_ | refine qt1 rfl rfl rfl fun K hK => ?_ | refine qt3 rfl rfl rfl fun K hK => ?_); simp (disch := (first | omega | (simp only [sz] <;> omega) | fail)) only [go_sem, e1, hb, e3, hr4, g0, hdm]; with_reducible refine hK _ _ ?_; clear hK K) | refine At.nil rfl ?_ | refine RG.nil rfl ?_ | ((first | refine AtL.skipg rfl rfl rfl rfl rfl ?_ | refine RGL.skipg rfl rfl rfl rfl rfl ?_ | refine AtL.skipu rfl rfl rfl rfl ?_ | refine RGL.skipu rfl rfl rfl rfl ?_); simp only [putL, List.set_cons_zero, List.set_cons_succ]) | refine Goes.yes rfl ?_ | refine Goes.no rfl ?_ | refine Goes.drawR [] (by kernel_rfl) ?_)
      ((first | refine qd1 rfl rfl fun K hK => ?_ | refine qd3 rfl rfl fun K hK => ?_); simp (disch := (first | omega | (simp only [sz] <;> omega) | fail)) only [go_sem]; (first | refine ⟨_, _, _, hi1, ⟨by simp only [sz]; omega, by simp only [sz]; unfold VB; omega, by first | exact heapL_low _ | exact gap_low _ _ _⟩, ?_⟩ | refine ⟨_, _, _, hi1, ?_⟩); (try simp only [go_sem]); with_reducible refine hK _ _ _ ?_; clear hK K)
      refine via ?_
      ((first | refine qd1 rfl rfl fun K hK => ?_ | refine qd3 rfl rfl fun K hK => ?_); simp (disch := (first | omega | (simp only [sz] <;> omega) | fail)) only [go_sem]; (first | refine ⟨_, _, _, hi2, ⟨by simp only [sz]; omega, by simp only [sz]; unfold VB; omega, by first | exact heapL_low _ | exact gap_low _ _ _⟩, ?_⟩ | refine ⟨_, _, _, hi2, ?_⟩); (try simp only [go_sem]); with_reducible refine hK _ _ _ ?_; clear hK K)
      refine via ?_
      exact ih3 _ _ _ _ (by omega) ⟨k + 1, q3 + ql, lf, rfl, by omega, by omega, by omega, by omega, hge3.trans hF2, rfl, rfl, rfl, rfl, rfl, rfl, rfl, rfl, rfl, rfl, rfl, rfl, (Eq.trans (b := Value.int .i64 (gN (lost cc I I' L L') k + (totI I (L (k * 4 + cc)) : Int) - (totI I' (L' (k * 4 + cc)) : Int))) rfl (congrArg (Value.int .i64) (by show _ = gN (lost cc I I' L L') k + ((totI I (L (k * 4 + cc)) : Int) - (totI I' (L' (k * 4 + cc)) : Int)); omega))), by push_cast; rfl⟩
    · by_cases hsh : (L' (k * 4 + cc)).length < (L (k * 4 + cc)).length
      · have hkt : k = t ∧ d3 = 2 := by
          refine Classical.byContradiction fun h => ?_
          have := hsho (by omega)
          omega
        obtain ⟨hkt, hd0⟩ := hkt
        subst hkt hd0
        repeat (first | refine Goes.reg ?_ | refine Goes.ctl2 rfl ?_ | ((first | refine qv1 rfl rfl rfl fun K hK => ?_ | refine qv3 rfl rfl rfl fun K hK => ?_ | refine qv2 rfl rfl rfl rfl rfl rfl fun K hK => ?_ | refine qv4 rfl rfl rfl rfl rfl rfl fun K hK => ?_ | refine qn1 rfl rfl rfl fun K hK => ?_ | refine qn3 rfl rfl rfl fun K hK => ?_ | refine qt1 rfl rfl rfl fun K hK => ?_ | refine qt3 rfl rfl rfl fun K hK => ?_); simp (disch := (first | omega | (simp only [sz] <;> omega) | fail)) only [go_sem, e1, hb, e3, hr4, g0, hdm]; with_reducible refine hK _ _ ?_; clear hK K) | refine At.nil rfl ?_ | refine RG.nil rfl ?_ | ((first | refine AtL.skipg rfl rfl rfl rfl rfl ?_ | refine RGL.skipg rfl rfl rfl rfl rfl ?_ | refine AtL.skipu rfl rfl rfl rfl ?_ | refine RGL.skipu rfl rfl rfl rfl ?_); simp only [putL, List.set_cons_zero, List.set_cons_succ]) | refine Goes.yes rfl ?_ | refine Goes.no rfl ?_ | refine Goes.drawR [] (by kernel_rfl) ?_)
        ((first | refine qd1 rfl rfl fun K hK => ?_ | refine qd3 rfl rfl fun K hK => ?_); simp (disch := (first | omega | (simp only [sz] <;> omega) | fail)) only [go_sem]; (first | refine ⟨_, _, _, hi1, ⟨by simp only [sz]; omega, by simp only [sz]; unfold VB; omega, by first | exact heapL_low _ | exact gap_low _ _ _⟩, ?_⟩ | refine ⟨_, _, _, hi1, ?_⟩); (try simp only [go_sem]); with_reducible refine hK _ _ _ ?_; clear hK K)
        refine via ?_
        ((first | refine qd1 rfl rfl fun K hK => ?_ | refine qd3 rfl rfl fun K hK => ?_); simp (disch := (first | omega | (simp only [sz] <;> omega) | fail)) only [go_sem]; (first | refine ⟨_, _, _, hi2, ⟨by simp only [sz]; omega, by simp only [sz]; unfold VB; omega, by first | exact heapL_low _ | exact gap_low _ _ _⟩, ?_⟩ | refine ⟨_, _, _, hi2, ?_⟩); (try simp only [go_sem]); with_reducible refine hK _ _ _ ?_; clear hK K)
        refine via ?_
        exact ih3 _ _ _ _ (by omega) ⟨k + 1, q3 + ql, lf, rfl, by omega, by omega, by omega, by omega, hge3.trans hF2, rfl, rfl, rfl, rfl, rfl, rfl, rfl, rfl, rfl, rfl, rfl, rfl, (Eq.trans (b := Value.int .i64 (gN (lost cc I I' L L') k + (totI I (L (k * 4 + cc)) : Int) - (totI I' (L' (k * 4 + cc)) : Int))) rfl (congrArg (Value.int .i64) (by show _ = gN (lost cc I I' L L') k + ((totI I (L (k * 4 + cc)) : Int) - (totI I' (L' (k * 4 + cc)) : Int)); omega))), by push_cast; rfl⟩
      · repeat (first | refine Goes.reg ?_ | refine Goes.ctl2 rfl ?_ | ((first | refine qv1 rfl rfl rfl fun K hK => ?_ | refine qv3 rfl rfl rfl fun K hK => ?_ | refine qv2 rfl rfl rfl rfl rfl rfl fun K hK => ?_ | refine qv4 rfl rfl rfl rfl rfl rfl fun K hK => ?_ | refine qn1 rfl rfl rfl fun K hK => ?_ | refine qn3 rfl rfl rfl fun K hK => ?_ | refine qt1 rfl rfl rfl fun K hK => ?_ | refine qt3 rfl rfl rfl fun K hK => ?_); simp (disch := (first | omega | (simp only [sz] <;> omega) | fail)) only [go_sem, e1, hb, e3]; with_reducible refine hK _ _ ?_; clear hK K) | refine At.nil rfl ?_ | refine RG.nil rfl ?_ | ((first | refine AtL.skipg rfl rfl rfl rfl rfl ?_ | refine RGL.skipg rfl rfl rfl rfl rfl ?_ | refine AtL.skipu rfl rfl rfl rfl ?_ | refine RGL.skipu rfl rfl rfl rfl ?_); simp only [putL, List.set_cons_zero, List.set_cons_succ]) | refine Goes.yes rfl ?_ | refine Goes.no rfl ?_ | refine Goes.drawR [] (by kernel_rfl) ?_)
        ((first | refine qd1 rfl rfl fun K hK => ?_ | refine qd3 rfl rfl fun K hK => ?_); simp (disch := (first | omega | (simp only [sz] <;> omega) | fail)) only [go_sem]; (first | refine ⟨_, _, _, hi1, ⟨by simp only [sz]; omega, by simp only [sz]; unfold VB; omega, by first | exact heapL_low _ | exact gap_low _ _ _⟩, ?_⟩ | refine ⟨_, _, _, hi1, ?_⟩); (try simp only [go_sem]); with_reducible refine hK _ _ _ ?_; clear hK K)
        refine via ?_
        ((first | refine qd1 rfl rfl fun K hK => ?_ | refine qd3 rfl rfl fun K hK => ?_); simp (disch := (first | omega | (simp only [sz] <;> omega) | fail)) only [go_sem]; (first | refine ⟨_, _, _, hi2, ⟨by simp only [sz]; omega, by simp only [sz]; unfold VB; omega, by first | exact heapL_low _ | exact gap_low _ _ _⟩, ?_⟩ | refine ⟨_, _, _, hi2, ?_⟩); (try simp only [go_sem]); with_reducible refine hK _ _ _ ?_; clear hK K)
        refine via ?_
        exact ih3 _ _ _ _ (by omega) ⟨k + 1, q3 + ql, lf, rfl, by omega, by omega, by omega, by omega, hge3.trans hF2, rfl, rfl, rfl, rfl, rfl, rfl, rfl, rfl, rfl, rfl, rfl, rfl, (Eq.trans (b := Value.int .i64 (gN (lost cc I I' L L') k + (totI I (L (k * 4 + cc)) : Int) - (totI I' (L' (k * 4 + cc)) : Int))) rfl (congrArg (Value.int .i64) (by show _ = gN (lost cc I I' L L') k + ((totI I (L (k * 4 + cc)) : Int) - (totI I' (L' (k * 4 + cc)) : Int)); omega))), by push_cast; rfl⟩
  · obtain rfl : T = k := by omega
    clear ih3
    rw [hR.sum] at f15
    obtain ⟨V, hV, hT⟩ := frame_lit hl; replace hT : _ = ([V 0, V 1, V 2, V 3, V 4, V 5, V 6, V 7, V 8, V 9, V 10, V 11, V 12, V 13, V 14, V 15, V 16, V 17, V 18, V 19, V 20, V 21, V 22, V 23, V 24, V 25, V 26, V 27, V 28, V 29, V 30, V 31, V 32, V 33, V 34, V 35, V 36, V 37, V 38, V 39, V 40, V 41, V 42, V 43, V 44, V 45, V 46, V 47, V 48, V 49, V 50, V 51, V 52, V 53, V 54, V 55, V 56, V 57, V 58, V 59, V 60, V 61, V 62, V 63, V 64, V 65, V 66, V 67, V 68, V 69, V 70, V 71, V 72, V 73, V 74, V 75, V 76, V 77, V 78, V 79, V 80, V 81, V 82, V 83, V 84, V 85, V 86, V 87, V 88, V 89, V 90, V 91, V 92, V 93, V 94, V 95, V 96, V 97, V 98, V 99, V 100, V 101, V 102, V 103, V 104, V 105, V 106, V 107, V 108, V 109, V 110, V 111, V 112, V 113, V 114, V 115, V 116, V 117, V 118, V 119, V 120, V 121, V 122, V 123, V 124, V 125, V 126, V 127, V 128, V 129, V 130, V 131, V 132, V 133, V 134, V 135, V 136, V 137, V 138, V 139, V 140, V 141, V 142, V 143, V 144, V 145, V 146, V 147, V 148, V 149, V 150, V 151, V 152, V 153, V 154, V 155, V 156, V 157, V 158, V 159, V 160, V 161, V 162, V 163, V 164, V 165, V 166, V 167, V 168, V 169, V 170, V 171, V 172, V 173, V 174, V 175, V 176, V 177, V 178, V 179, V 180, V 181, V 182, V 183, V 184, V 185, V 186, V 187, V 188, V 189, V 190, V 191, V 192, V 193, V 194, V 195, V 196, V 197, V 198, V 199, V 200, V 201, V 202, V 203, V 204, V 205, V 206, V 207, V 208, V 209, V 210, V 211, V 212, V 213, V 214, V 215, V 216, V 217, V 218, V 219, V 220, V 221, V 222, V 223, V 224, V 225, V 226, V 227] : List Value) := hT; rw [hV] at f2 f6 f7 f8 f9 f10 f11 f12 f13 f15 f16; subst hT; simp only [f2, f6, f7, f8, f9, f10, f11, f12, f13, f15, f16]; clear hV hl
    refine viaF hgeo3 ?_
    ((first | refine qp1 rfl rfl fun K hK => ?_ | refine qp3 rfl rfl fun K hK => ?_); simp (disch := (first | omega | (simp only [sz] <;> omega) | fail)) only [go_sem]; refine ⟨_, _, qpu fun w => gThreads_any N T w, ?_⟩; (try simp only [go_sem]); with_reducible refine hK _ _ ?_; clear hK K)
    have hgl := gN_le (n := T) fun j hj => hR.small j (by omega)
    rw [hR.sum] at hgl
    have hd3' : d3 = 0 ∨ d3 = 1 ∨ d3 = 2 := by omega
    rcases hd3' with rfl | rfl | rfl
    · rcases hg0 rfl with rfl | hz
      · refine viaF (And.intro hr3 (And.intro g0 hdm)) ?_
        exact ih _ _ _ _ (by omega) ⟨i + 1, q3, l3, ws', W', free', ver', G', L', I', R ++ [.port 0 t st'], rfl, by omega, hlen3, by omega, Nat.le_trans hq3' (by omega), fun b hb => (by cases hb; exact hr3), hgeo3, hS', hBN', by omega, rfl, rfl, rfl, rfl, rfl, rfl, rfl, by push_cast; rfl⟩
      · have e2 : IntKind.u64.wrap ((x.x : Int) + 1) = 0 := by rw [hz]; decide
        by_cases hgg : g = -1
        · subst hgg
          refine viaF (And.intro hr3 (And.intro g0 hdm)) ?_
          exact ih _ _ _ _ (by omega) ⟨i + 1, q3, l3, ws', W', free', ver', G', L', I', R ++ [.port 0 t st'], rfl, by omega, hlen3, by omega, Nat.le_trans hq3' (by omega), fun b hb => (by cases hb; exact hr3), hgeo3, hS', hBN', by omega, rfl, rfl, rfl, rfl, rfl, rfl, rfl, by push_cast; rfl⟩
        · refine viaF (And.intro hr3 (And.intro g0 (And.intro g3 (And.intro hdm e2)))) ?_
          exact ih _ _ _ _ (by omega) ⟨i + 1, q3, l3, ws', W', free', ver', G', L', I', R ++ [.port 0 t st'], rfl, by omega, hlen3, by omega, Nat.le_trans hq3' (by omega), fun b hb => (by cases hb; exact hr3), hgeo3, hS', hBN', by omega, rfl, rfl, rfl, rfl, rfl, rfl, rfl, by push_cast; rfl⟩
    · rcases hg1 rfl with rfl | rfl
      · refine viaF (And.intro hr3 (And.intro g0 hdm)) ?_
        exact ih _ _ _ _ (by omega) ⟨i + 1, q3, l3, ws', W', free', ver', G', L', I', R ++ [.port 0 t st'], rfl, by omega, hlen3, by omega, Nat.le_trans hq3' (by omega), fun b hb => (by cases hb; exact hr3), hgeo3, hS', hBN', by omega, rfl, rfl, rfl, rfl, rfl, rfl, rfl, by push_cast; rfl⟩
      · refine viaF (And.intro hr3 (And.intro g0 hdm)) ?_
        exact ih _ _ _ _ (by omega) ⟨i + 1, q3, l3, ws', W', free', ver', G', L', I', R ++ [.port 0 t st'], rfl, by omega, hlen3, by omega, Nat.le_trans hq3' (by omega), fun b hb => (by cases hb; exact hr3), hgeo3, hS', hBN', by omega, rfl, rfl, rfl, rfl, rfl, rfl, rfl, by push_cast; rfl⟩
    · obtain rfl := hg2 rfl
      refine viaF (And.intro hr3 (And.intro g0 hdm)) ?_
      exact ih _ _ _ _ (by omega) ⟨i + 1, q3, l3, ws', W', free', ver', G', L', I', R ++ [.port 0 t st'], rfl, by omega, hlen3, by omega, Nat.le_trans hq3' (by omega), fun b hb => (by cases hb; exact hr3), hgeo3, hS', hBN', by omega, rfl, rfl, rfl, rfl, rfl, rfl, rfl, by push_cast; rfl⟩
theorem bagLists_walk (a0 a1 : Int) (a2 : Option Addr) (len2 cap2 : Nat) (z2 : Nat → Nat → Int) (w : World) (w0 : (Lit.int .u8 a0).wf = true) (w1 : (Lit.int .u8 a1).wf = true) (w2 : RowS [.u8, .u8, .i64, .u64] w a2 len2 cap2 z2) :
    Calls Try.prog 6 #[.int .u8 a0, .int .u8 a1, .slice a2 len2 cap2] w fun e w' => e = .returned (.bool true) ∧ Below w.heap.size w w' := by
  have h0 := u8_of9 w0
  obtain ⟨pg, rfl⟩ := Int.eq_ofNat_of_zero_le h0.1
  have h00 := u8_of9 w1
  obtain ⟨th, rfl⟩ := Int.eq_ofNat_of_zero_le h00.1
  obtain ⟨h1, h2, h3⟩ := acts9_slice w2
  obtain ⟨sl, ob, bk, bs, hren, hat, hrow, hlies⟩ := law_slice a9C a9C_len (by decide) a9C_plain (acts9 len2 z2) a2 cap2 w 0 h3
  have L := (bagLists_law pg th sl cap2 (acts9 len2 z2) ob hat hrow (by rw [acts9_len]; exact h1) (by omega) (by omega) h2).calls ⟨fun _ => bk, fun _ => bs, fun _ => 0⟩ w (fun n b hb => by
    match n, hb with
    | 0, hb => exact hlies b (by simpa using hb)
    | n + 1, hb => simp at hb) (by simp)
  simp only [List.map_toArray, List.map_cons, List.map_nil, ren_int] at L
  rw [hren _ rfl rfl rfl, acts9_len] at L
  exact L.mono fun e w' h => ⟨h.1, h.2.below⟩
end Go.Proofs.Ytjdbknnacaacaaa
