/-
  Layer 10, the plain law: runs of pages as a list; which words say so; what is done to these.
  No condition: definitions and laws.
-/
import Derived.Test.YtceddijolfpppaaMem2
namespace Go.Proofs.Ytceddijolfpppaa
open Go Go.RowKit
set_option linter.unusedSimpArgs false
set_option linter.unusedVariables false

/-- The word of a page of a kind and a length. -/
def pgU (k n : Nat) : UInt64 := UInt64.ofNat (k + n * 8)
theorem pgU_nat {k n : Nat} (hk : k < 8) (hn : n < 1024) : (pgU k n).toNat = k + n * 8 := by unfold pgU; simp; omega
def kd (w : UInt64) : Nat := w.toNat / 2 ^ 0 % 2 ^ 3
def ln (w : UInt64) : Nat := w.toNat / 2 ^ 3 % 2 ^ 10
theorem kd_pgU {k n : Nat} (hk : k < 8) (hn : n < 1024) : kd (pgU k n) = k := by unfold kd; rw [pgU_nat hk hn]; omega
theorem ln_pgU {k n : Nat} (hk : k < 8) (hn : n < 1024) : ln (pgU k n) = n := by unfold ln; rw [pgU_nat hk hn]; omega
theorem kd_zero : kd 0 = 0 := rfl
theorem ln_zero : ln 0 = 0 := rfl

/-- Runs: kind, length. -/
abbrev Rn := Nat × Nat
def tot : List Rn → Nat
  | [] => 0
  | r :: L => r.2 + tot L
theorem tot_append : ∀ (A C : List Rn), tot (A ++ C) = tot A + tot C
  | [], C => by simp [tot]
  | r :: A, C => by simp only [List.cons_append, tot, tot_append A C]; omega

/-- The words of runs that lie side by side. -/
def pw : List Rn → Nat → UInt64
  | [], _ => 0
  | r :: L, x => if x = 0 then pgU r.1 r.2 else if x < r.2 then (if r.1 = 1 ∧ x + 1 = r.2 then pgU 2 r.2 else 0) else pw L (x - r.2)

def Pos (L : List Rn) : Prop := ∀ r ∈ L, 1 ≤ r.2 ∧ (r.1 = 1 ∨ 3 ≤ r.1 ∧ r.1 ≤ 5)
theorem Pos.cons {r : Rn} {L : List Rn} : Pos (r :: L) ↔ (1 ≤ r.2 ∧ (r.1 = 1 ∨ 3 ≤ r.1 ∧ r.1 ≤ 5)) ∧ Pos L := by simp [Pos]
theorem Pos.append {A C : List Rn} : Pos (A ++ C) ↔ Pos A ∧ Pos C := by
  simp only [Pos, List.mem_append]
  exact ⟨fun h => ⟨fun r hr => h r (.inl hr), fun r hr => h r (.inr hr)⟩, fun ⟨h1, h2⟩ r hr => hr.elim (h1 r) (h2 r)⟩
theorem Pos.nil : Pos [] := fun _ h => by cases h

theorem pw_left : ∀ {A : List Rn} (C : List Rn) {x : Nat}, Pos A → x < tot A → pw (A ++ C) x = pw A x
  | [], _, _, _, h => by simp [tot] at h
  | r :: A, C, x, hp, h => by
    obtain ⟨h1, h2⟩ := Pos.cons.1 hp
    simp only [tot] at h
    simp only [List.cons_append, pw]
    split
    · rfl
    · split
      · rfl
      · rw [pw_left C h2 (by omega)]
theorem pw_right : ∀ {A : List Rn} (C : List Rn) (z : Nat), Pos A → pw (A ++ C) (tot A + z) = pw C z
  | [], _, _, _ => by simp [tot]
  | r :: A, C, z, hp => by
    obtain ⟨h1, h2⟩ := Pos.cons.1 hp
    simp only [List.cons_append, pw, tot]
    rw [if_neg (by omega), if_neg (by omega), show r.2 + tot A + z - r.2 = tot A + z by omega, pw_right C z h2]
theorem pw_head {A C : List Rn} {r : Rn} (hp : Pos A) : pw (A ++ r :: C) (tot A) = pgU r.1 r.2 := by
  have := pw_right (r :: C) 0 hp
  rw [Nat.add_zero] at this
  rw [this]; simp [pw]

/-- Which run is a page of? -/
theorem pw_cut : ∀ {L : List Rn} {x : Nat}, x < tot L → ∃ A r C z, L = A ++ r :: C ∧ x = tot A + z ∧ z < r.2
  | [], _, h => by simp [tot] at h
  | r :: L, x, h => by
    simp only [tot] at h
    by_cases hx : x < r.2
    · exact ⟨[], r, L, x, rfl, by simp [tot], hx⟩
    · obtain ⟨A, r', C, z, rfl, h1, h2⟩ := pw_cut (L := L) (x := x - r.2) (by omega)
      exact ⟨r :: A, r', C, z, rfl, by simp only [tot]; omega, h2⟩
theorem pw_in {A C : List Rn} {r : Rn} {z : Nat} (hp : Pos A) (h0 : 0 < z) (h : z < r.2) : pw (A ++ r :: C) (tot A + z) = if r.1 = 1 ∧ z + 1 = r.2 then pgU 2 r.2 else 0 := by
  rw [pw_right _ _ hp]
  simp only [pw]
  rw [if_neg (by omega), if_pos h]

def headF : List Rn → Bool
  | [] => false
  | r :: _ => decide (r.1 = 1)
def lastF : List Rn → Bool
  | [] => false
  | [r] => decide (r.1 = 1)
  | _ :: y :: L => lastF (y :: L)
theorem lastF_cons (r : Rn) (y : Rn) (L : List Rn) : lastF (r :: y :: L) = lastF (y :: L) := rfl
theorem lastF_append : ∀ (A : List Rn) (x : Rn) (C : List Rn), lastF (A ++ x :: C) = lastF (x :: C)
  | [], _, _ => rfl
  | [r], x, C => rfl
  | r :: y :: A, x, C => by
    have := lastF_append (y :: A) x C
    simp only [List.cons_append] at this ⊢
    rw [lastF_cons, this]
/-- No two free ones side by side. -/
def nadj : List Rn → Prop
  | [] => True
  | r :: L => ¬ (r.1 = 1 ∧ headF L = true) ∧ nadj L
theorem nadj_append : ∀ {A C : List Rn}, nadj (A ++ C) ↔ nadj A ∧ nadj C ∧ ¬ (lastF A = true ∧ headF C = true)
  | [], C => by simp [nadj, lastF]
  | [r], C => by simp [nadj, lastF, headF]; exact And.comm
  | r :: y :: A, C => by
    have ih := nadj_append (A := y :: A) (C := C)
    simp only [List.cons_append] at ih ⊢
    have e1 : nadj (r :: y :: (A ++ C)) ↔ ¬ (r.1 = 1 ∧ headF (y :: (A ++ C)) = true) ∧ nadj (y :: (A ++ C)) := Iff.rfl
    have e2 : nadj (r :: y :: A) ↔ ¬ (r.1 = 1 ∧ headF (y :: A) = true) ∧ nadj (y :: A) := Iff.rfl
    rw [e1, e2, ih, lastF_cons]
    simp only [headF]
    exact ⟨fun ⟨h1, h2, h3, h4⟩ => ⟨⟨h1, h2⟩, h3, h4⟩, fun ⟨⟨h1, h2⟩, h3, h4⟩ => ⟨h1, h2, h3, h4⟩⟩

/-- A free run, or none. -/
def fr (n : Nat) : List Rn := match n with | 0 => [] | n + 1 => [(1, n + 1)]
theorem fr_0 : fr 0 = [] := rfl
theorem fr_pos {n : Nat} (h : 0 < n) : fr n = [(1, n)] := by cases n with | zero => omega | succ n => rfl
theorem tot_fr (n : Nat) : tot (fr n) = n := by cases n <;> simp [fr, tot]
theorem pos_fr (n : Nat) : Pos (fr n) := by
  cases n with
  | zero => exact Pos.nil
  | succ n => intro r hr; simp only [fr, List.mem_singleton] at hr; subst hr; exact ⟨by simp, .inl rfl⟩
theorem nadj_fr (n : Nat) : nadj (fr n) := by cases n <;> simp [fr, nadj, headF]

theorem snoc {α : Type} (A : List α) : A = [] ∨ ∃ A' x, A = A' ++ [x] := by
  rcases List.eq_nil_or_concat A with h | ⟨A', x, h⟩
  · exact .inl h
  · exact .inr ⟨A', x, by rw [h]; simp⟩
theorem splitLast {A : List Rn} (hp : Pos A) (h : nadj A) : ∃ A' b, A = A' ++ fr b ∧ lastF A' = false := by
  rcases snoc A with rfl | ⟨A', x, rfl⟩
  · exact ⟨[], 0, rfl, rfl⟩
  · have h1 := (hp x (by simp)).1
    by_cases hx : x.1 = 1
    · refine ⟨A', x.2, by rw [fr_pos (by omega), ← hx], ?_⟩
      have := (nadj_append.1 h).2.2
      simp only [headF, hx, decide_true, and_true] at this
      simpa using this
    · exact ⟨A' ++ [x], 0, by simp [fr], by rw [lastF_append]; simp [lastF, hx]⟩
theorem splitHead {C : List Rn} (hp : Pos C) (h : nadj C) : ∃ c C', C = fr c ++ C' ∧ headF C' = false := by
  cases C with
  | nil => exact ⟨0, [], rfl, rfl⟩
  | cons x C =>
    have h1 := (hp x (by simp)).1
    by_cases hx : x.1 = 1
    · refine ⟨x.2, C, by rw [fr_pos (by omega), ← hx]; rfl, ?_⟩
      have := h.1
      simp only [hx, true_and] at this
      simpa using this
    · exact ⟨0, x :: C, rfl, by simp [headF, hx]⟩

/-- The page ahead of a run tells how long the free run is that ends there. -/
theorem ahead_word {A C : List Rn} {b : Nat} (hp : Pos A) (hl : lastF A = false) (hb : tot (A ++ fr b) < 1024) (h0 : 0 < tot (A ++ fr b)) :
    (0 < b → (kd (pw (A ++ fr b ++ C) (tot (A ++ fr b) - 1)) = 2 ∨ kd (pw (A ++ fr b ++ C) (tot (A ++ fr b) - 1)) = 1) ∧ ln (pw (A ++ fr b ++ C) (tot (A ++ fr b) - 1)) = b) ∧
    (b = 0 → kd (pw (A ++ fr b ++ C) (tot (A ++ fr b) - 1)) ≠ 2 ∧ kd (pw (A ++ fr b ++ C) (tot (A ++ fr b) - 1)) ≠ 1) := by
  constructor
  · intro hb0
    rw [fr_pos hb0] at hb ⊢
    simp only [tot_append, tot] at hb ⊢
    rw [List.append_assoc]
    by_cases h1 : b = 1
    · subst h1
      rw [show tot A + (1 + 0) - 1 = tot A by omega]
      have := pw_head (A := A) (C := C) (r := (1, 1)) hp
      rw [show ([(1, 1)] ++ C : List Rn) = (1, 1) :: C from rfl, this]
      exact ⟨.inr (kd_pgU (by decide) (by decide)), ln_pgU (by decide) (by decide)⟩
    · have := pw_in (A := A) (C := C) (r := (1, b)) (z := b - 1) hp (by omega) (by show b - 1 < b; omega)
      rw [show tot A + (b + 0) - 1 = tot A + (b - 1) by omega, show ([(1, b)] ++ C : List Rn) = (1, b) :: C from rfl, this, if_pos ⟨rfl, by show b - 1 + 1 = b; omega⟩]
      exact ⟨.inl (kd_pgU (by decide) (by omega)), ln_pgU (by decide) (by omega)⟩
  · rintro rfl
    simp only [fr, List.append_nil] at hb h0 ⊢
    rcases snoc A with rfl | ⟨A', x, rfl⟩
    · simp [tot] at h0
    · obtain ⟨hp1, hp2⟩ := Pos.append.1 hp
      obtain ⟨h1, h2⟩ := hp2 x (by simp)
      rw [lastF_append] at hl
      have hx : x.1 ≠ 1 := by simpa [lastF] using hl
      simp only [tot_append, tot] at hb ⊢
      rw [List.append_assoc]
      by_cases h3 : x.2 = 1
      · rw [h3, show tot A' + (1 + 0) - 1 = tot A' by omega]
        have := pw_head (A := A') (C := C) (r := x) hp1
        rw [show ([x] ++ C : List Rn) = x :: C from rfl, this, kd_pgU (by omega) (by omega)]
        omega
      · have := pw_in (A := A') (C := C) (r := x) (z := x.2 - 1) hp1 (by omega) (by omega)
        rw [show tot A' + (x.2 + 0) - 1 = tot A' + (x.2 - 1) by omega, show ([x] ++ C : List Rn) = x :: C from rfl, this, if_neg (by omega)]
        decide
/-- So does the page behind it. -/
theorem behind_word {A C : List Rn} {c : Nat} (hpA : Pos A) (hp : Pos C) (hl : headF C = false) (hb : tot (A ++ (fr c ++ C)) < 1024) (h0 : tot A < tot (A ++ (fr c ++ C))) :
    (0 < c → kd (pw (A ++ (fr c ++ C)) (tot A)) = 1 ∧ ln (pw (A ++ (fr c ++ C)) (tot A)) = c) ∧ (c = 0 → kd (pw (A ++ (fr c ++ C)) (tot A)) ≠ 1) := by
  simp only [tot_append, tot_fr] at hb h0
  constructor
  · intro hc
    rw [fr_pos hc, show (A ++ ([(1, c)] ++ C) : List Rn) = A ++ (1, c) :: C from rfl, pw_head hpA]
    exact ⟨kd_pgU (k := 1) (by decide) (by omega), ln_pgU (k := 1) (by decide) (by omega)⟩
  · rintro rfl
    cases C with
    | nil => simp [tot] at h0
    | cons x C =>
      obtain ⟨h1, h2⟩ := hp x (by simp)
      have hx : x.1 ≠ 1 := by simpa [headF] using hl
      simp only [tot] at hb
      rw [show (A ++ (fr 0 ++ x :: C) : List Rn) = A ++ x :: C from rfl, pw_head hpA, kd_pgU (by omega) (by omega)]
      exact hx

/-! ### what is laid -/
def up (P : Nat → UInt64) (x : Nat) (v : UInt64) : Nat → UInt64 := fun y => if y = x then v else P y
def zer (P : Nat → UInt64) (a b : Nat) : Nat → UInt64 := fun y => if a ≤ y ∧ y < b then 0 else P y
def layP (P : Nat → UInt64) (a n : Nat) : Nat → UInt64 := fun y => if n = 0 then P y else if y = a then pgU 1 n else if y + 1 = a + n ∧ 1 < n then pgU 2 n else P y

theorem up_eq {P : Nat → UInt64} {x : Nat} {v : UInt64} {y : Nat} (h : y = x) : up P x v y = v := if_pos h
theorem up_ne {P : Nat → UInt64} {x : Nat} {v : UInt64} {y : Nat} (h : y ≠ x) : up P x v y = P y := if_neg h
theorem zer_in {P : Nat → UInt64} {a b y : Nat} (h : a ≤ y ∧ y < b) : zer P a b y = 0 := if_pos h
theorem zer_out {P : Nat → UInt64} {a b y : Nat} (h : ¬ (a ≤ y ∧ y < b)) : zer P a b y = P y := if_neg h
theorem layP_out {P : Nat → UInt64} {a n y : Nat} (h : ¬ (a ≤ y ∧ y < a + n)) : layP P a n y = P y := by
  unfold layP
  split
  · rfl
  · rw [if_neg (by omega), if_neg (by omega)]
theorem layP_in {P : Nat → UInt64} {a n y : Nat} (h : a ≤ y ∧ y < a + n) : layP P a n y = if y = a then pgU 1 n else if y + 1 = a + n then pgU 2 n else P y := by
  unfold layP
  rw [if_neg (by omega)]
  split
  · rfl
  · split
    · rw [if_pos (by omega)]
    · rw [if_neg (by omega)]
theorem pw_fr {f : Nat} {D : List Rn} {z : Nat} (h : z < f) : pw (fr f ++ D) z = if z = 0 then pgU 1 f else if z + 1 = f then pgU 2 f else 0 := by
  rw [fr_pos (by omega)]
  simp only [List.cons_append, pw, h, if_true, true_and]
theorem pw_fr_right {f : Nat} {D : List Rn} (z : Nat) : pw (fr f ++ D) (f + z) = pw D z := by
  have := pw_right (A := fr f) D z (pos_fr f)
  rwa [tot_fr] at this
/-- A run that is not free. -/
theorem pw_use {k n : Nat} {D : List Rn} {z : Nat} (hk : k ≠ 1) (h : z < n) : pw ((k, n) :: D) z = if z = 0 then pgU k n else 0 := by
  simp only [pw, h, if_true, hk, false_and, if_false]
theorem pw_past {k n : Nat} {D : List Rn} (z : Nat) (hn : 1 ≤ n) : pw ((k, n) :: D) (n + z) = pw D z := by
  simp only [pw]
  rw [if_neg (by omega), if_neg (by omega), Nat.add_sub_cancel_left]
theorem pw_free {n : Nat} {D : List Rn} {z : Nat} (h : z < n) : pw ((1, n) :: D) z = if z = 0 then pgU 1 n else if z + 1 = n then pgU 2 n else 0 := by
  have := pw_fr (D := D) h
  rwa [fr_pos (by omega)] at this

theorem alloc_pw {A C : List Rn} {f k r : Nat} (hp : Pos A) (hk : 1 ≤ k) (x : Nat) :
    layP (layP (up (zer (pw (A ++ (1, f + k + r) :: C)) (tot A + f + 1) (tot A + f + k)) (tot A + f) (pgU 4 k)) (tot A) f) (tot A + f + k) r x = pw (A ++ (fr f ++ (4, k) :: (fr r ++ C))) x := by
  by_cases hx : x < tot A
  · rw [layP_out (by omega), layP_out (by omega), up_ne (by omega), zer_out (by omega), pw_left _ hp hx, pw_left _ hp hx]
  · obtain ⟨z, rfl⟩ : ∃ z, x = tot A + z := ⟨x - tot A, by omega⟩
    rw [pw_right _ z hp]
    by_cases h1 : z < f
    · rw [layP_out (by omega), layP_in (by omega), up_ne (by omega), zer_out (by omega), pw_right _ z hp, pw_fr h1, pw_free (by omega)]
      by_cases h2 : z = 0
      · simp (disch := omega) only [if_pos]
      · by_cases h3 : z + 1 = f
        · simp (disch := omega) only [if_pos, if_neg]
        · simp (disch := omega) only [if_neg]
    obtain ⟨z, rfl⟩ : ∃ y, z = f + y := ⟨z - f, by omega⟩
    rw [pw_fr_right]
    by_cases h2 : z < k
    · rw [layP_out (by omega), layP_out (by omega), pw_use (by decide) h2]
      by_cases h3 : z = 0
      · rw [up_eq (by omega), if_pos h3]
      · rw [up_ne (by omega), if_neg h3, zer_in (by omega)]
    obtain ⟨z, rfl⟩ : ∃ y, z = k + y := ⟨z - k, by omega⟩
    rw [pw_past _ hk]
    by_cases h3 : z < r
    · rw [layP_in (by omega), layP_out (by omega), up_ne (by omega), zer_out (by omega), pw_right _ _ hp, pw_fr h3, pw_free (by omega)]
      by_cases h4 : z = 0
      · simp (disch := omega) only [if_pos]
      · by_cases h5 : z + 1 = r
        · simp (disch := omega) only [if_pos, if_neg]
        · simp (disch := omega) only [if_neg]
    obtain ⟨z, rfl⟩ : ∃ y, z = r + y := ⟨z - r, by omega⟩
    rw [layP_out (by omega), layP_out (by omega), up_ne (by omega), zer_out (by omega), pw_right _ _ hp, pw_fr_right]
    have := pw_past (k := 1) (n := f + k + r) (D := C) z (by omega)
    rw [← this]; congr 1; omega

/-- What Free leaves of the pages: the heads and tails of three runs go. -/
def freeP (P : Nat → UInt64) (a b n c : Nat) : Nat → UInt64 :=
  layP (if c = 0 then (if b = 0 then up P (a + b) 0 else up (up P (a + b) 0) (a + b - 1) 0) else up (if b = 0 then up P (a + b) 0 else up (up P (a + b) 0) (a + b - 1) 0) (a + b + n) 0) a (b + n + c)
theorem free_pw {A C : List Rn} {k b n c : Nat} (hp : Pos A) (hn : 1 ≤ n) (hk : k ≠ 1) (x : Nat) :
    freeP (pw (A ++ (fr b ++ (k, n) :: (fr c ++ C)))) (tot A) b n c x = pw (A ++ (1, b + n + c) :: C) x := by
  unfold freeP
  by_cases hx : x < tot A
  · rw [layP_out (by omega), pw_left _ hp hx]
    repeat' split
    all_goals (repeat rw [up_ne (by omega)])
    all_goals exact pw_left _ hp hx
  · obtain ⟨z, rfl⟩ : ∃ z, x = tot A + z := ⟨x - tot A, by omega⟩
    have e := pw_right (fr b ++ (k, n) :: (fr c ++ C)) z hp
    rw [pw_right _ z hp]
    by_cases h1 : z < b + n + c
    · rw [layP_in (by omega), pw_free h1]
      by_cases h2 : z = 0
      · rw [if_pos (by omega), if_pos h2]
      rw [if_neg (by omega), if_neg h2]
      by_cases h3 : z + 1 = b + n + c
      · rw [if_pos (by omega), if_pos h3]
      rw [if_neg (by omega), if_neg h3]
      -- within: nothing is left
      by_cases c1 : z < b
      · rw [pw_fr c1, if_neg h2] at e
        by_cases c2 : z + 1 = b
        · have hb : b ≠ 0 := by omega
          rw [if_neg hb]
          split
          · rw [up_eq (by omega)]
          · rw [up_ne (by omega), up_eq (by omega)]
        · rw [if_neg c2] at e
          repeat' split
          all_goals (repeat rw [up_ne (by omega)])
          all_goals exact e
      obtain ⟨z, rfl⟩ : ∃ y, z = b + y := ⟨z - b, by omega⟩
      rw [pw_fr_right] at e
      by_cases c2 : z < n
      · rw [pw_use hk c2] at e
        by_cases c3 : z = 0
        · subst c3
          have hb : b ≠ 0 := by omega
          rw [if_neg hb]
          split
          · rw [up_ne (by omega), up_eq (by omega)]
          · rw [up_ne (by omega), up_ne (by omega), up_eq (by omega)]
        · rw [if_neg c3] at e
          repeat' split
          all_goals (repeat rw [up_ne (by omega)])
          all_goals exact e
      obtain ⟨z, rfl⟩ : ∃ y, z = n + y := ⟨z - n, by omega⟩
      rw [pw_past _ hn, pw_fr (by omega)] at e
      have hc : c ≠ 0 := by omega
      rw [if_neg hc]
      by_cases c3 : z = 0
      · rw [up_eq (by omega)]
      · rw [if_neg c3, if_neg (by omega)] at e
        rw [up_ne (by omega)]
        split
        all_goals (repeat rw [up_ne (by omega)])
        all_goals exact e
    · obtain ⟨z, rfl⟩ : ∃ y, z = b + n + c + y := ⟨z - (b + n + c), by omega⟩
      rw [layP_out (by omega), pw_past _ (by omega)]
      rw [show b + n + c + z = b + (n + (c + z)) by omega, pw_fr_right, pw_past _ hn, pw_fr_right] at e
      rw [show tot A + (b + n + c + z) = tot A + (b + (n + (c + z))) by omega]
      repeat' split
      all_goals (repeat rw [up_ne (by omega)])
      all_goals exact e

/-! ### how many free runs there are, by their lengths -/
def bn (L : List Rn) (b : Nat) : Nat := L.countP fun r => decide (r.1 = 1 ∧ r.2.log2 = b)
theorem bn_append (A C : List Rn) (b : Nat) : bn (A ++ C) b = bn A b + bn C b := List.countP_append
theorem bn_cons (r : Rn) (L : List Rn) (b : Nat) : bn (r :: L) b = bn L b + if r.1 = 1 ∧ r.2.log2 = b then 1 else 0 := by
  unfold bn; rw [List.countP_cons]; simp
theorem bn_fr (n b : Nat) : bn (fr n) b = if 0 < n ∧ n.log2 = b then 1 else 0 := by
  cases n with
  | zero => simp [fr, bn]
  | succ n => rw [fr_pos (by omega), bn_cons]; simp [bn]
def bw (L : List Rn) (b : Nat) : UInt64 := UInt64.ofNat (bn L b)
def ad (B : Nat → UInt64) (x : Nat) (v : UInt64) : Nat → UInt64 := fun y => if y = x then B y + v else B y
def layB (B : Nat → UInt64) (n : Nat) : Nat → UInt64 := if n = 0 then B else ad B n.log2 1
theorem layB_at (B : Nat → UInt64) (n b : Nat) : layB B n b = B b + UInt64.ofNat (bn (fr n) b) := by
  unfold layB
  rw [bn_fr]
  split
  · rename_i h; subst h; simp
  · unfold ad
    by_cases h : b = n.log2
    · rw [if_pos h, if_pos ⟨by omega, h.symm⟩]; rfl
    · rw [if_neg h, if_neg (fun k => h k.2.symm)]; simp
def lessB (B : Nat → UInt64) (n : Nat) : Nat → UInt64 := ad B n.log2 (0 - 1)
theorem lessB_at (B : Nat → UInt64) {n : Nat} (hn : 0 < n) (b : Nat) : lessB B n b = B b - UInt64.ofNat (bn (fr n) b) := by
  unfold lessB ad
  rw [bn_fr]
  by_cases h : b = n.log2
  · rw [if_pos h, if_pos ⟨hn, h.symm⟩]
    rw [UInt64.zero_sub, ← UInt64.sub_eq_add_neg]; rfl
  · rw [if_neg h, if_neg (fun k => h k.2.symm)]; simp
theorem u64_move (x y z : Nat) (h : x + z = y) : UInt64.ofNat y - UInt64.ofNat z = UInt64.ofNat x := by
  subst h
  rw [UInt64.ofNat_add]
  rw [UInt64.add_sub_cancel]

theorem alloc_bw {A C : List Rn} {f k r : Nat} (hk : 1 ≤ k) (b : Nat) : layB (layB (lessB (bw (A ++ (1, f + k + r) :: C)) (f + k + r)) f) r b = bw (A ++ (fr f ++ (4, k) :: (fr r ++ C))) b := by
  rw [layB_at, layB_at, lessB_at _ (by omega)]
  unfold bw
  have e1 : bn (A ++ (1, f + k + r) :: C) b = bn (A ++ C) b + bn (fr (f + k + r)) b := by
    rw [fr_pos (by omega), bn_append, bn_append, bn_cons, bn_cons]; simp [bn]; omega
  rw [u64_move (bn (A ++ C) b) _ _ e1.symm, ← UInt64.ofNat_add, ← UInt64.ofNat_add]
  congr 1
  rw [bn_append, bn_append, bn_append, bn_cons, bn_append]
  simp; omega
def freeB (B : Nat → UInt64) (b n c : Nat) : Nat → UInt64 := layB (if c = 0 then (if b = 0 then B else lessB B b) else lessB (if b = 0 then B else lessB B b) c) (b + n + c)
theorem free_bw {A C : List Rn} {k b n c : Nat} (hn : 1 ≤ n) (hk : k ≠ 1) (x : Nat) : freeB (bw (A ++ (fr b ++ (k, n) :: (fr c ++ C)))) b n c x = bw (A ++ (1, b + n + c) :: C) x := by
  unfold freeB
  rw [layB_at]
  have e1 : (if c = 0 then (if b = 0 then bw (A ++ (fr b ++ (k, n) :: (fr c ++ C))) else lessB (bw (A ++ (fr b ++ (k, n) :: (fr c ++ C)))) b) else lessB (if b = 0 then bw (A ++ (fr b ++ (k, n) :: (fr c ++ C))) else lessB (bw (A ++ (fr b ++ (k, n) :: (fr c ++ C)))) b) c) x = UInt64.ofNat (bn (A ++ C) x) := by
    have e2 : (if b = 0 then bw (A ++ (fr b ++ (k, n) :: (fr c ++ C))) else lessB (bw (A ++ (fr b ++ (k, n) :: (fr c ++ C)))) b) x = UInt64.ofNat (bn (A ++ (fr c ++ C)) x) := by
      split
      · rename_i hb; subst hb
        unfold bw
        rw [fr_0, List.nil_append, bn_append, bn_cons, bn_append A]; simp [hk]
      · rw [lessB_at _ (by omega)]
        refine u64_move _ _ _ ?_
        rw [bn_append, bn_append A (fr b ++ (k, n) :: (fr c ++ C)), bn_append (fr b), bn_cons]; simp [hk]; omega
    split
    · rename_i hc; subst hc; rw [e2]; rfl
    · rw [lessB_at _ (by omega), e2]
      refine u64_move _ _ _ ?_
      rw [bn_append, bn_append, bn_append]; omega
  rw [e1, ← UInt64.ofNat_add]
  unfold bw
  congr 1
  rw [fr_pos (by omega), bn_append, bn_append, bn_cons, bn_cons]; simp [bn]; omega
end Go.Proofs.Ytceddijolfpppaa
