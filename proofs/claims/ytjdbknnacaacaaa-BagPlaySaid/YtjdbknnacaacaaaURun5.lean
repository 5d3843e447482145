/-
  A run of the abstract machine that the kernel carries out, part 5: memories and ports, kept as trees; the calls that are known by what they do.
  No condition: definitions and laws.
-/
import Derived.Test.YtjdbknnacaacaaaRun4
import Derived.Test.YtjdbknnacaacaaaUCopy
import Derived.Test.YtjdbknnacaacaaaUMem
import Derived.Test.YtjdbknnacaacaaaUTy
namespace Go.Proofs.Ytjdbknnacaacaaa
open Go Go.RowKit
set_option linter.unusedSimpArgs false
set_option linter.unusedVariables false
inductive KOb where
  | mem (d nw : Nat) (ws : TT Nat d) (e nb : Nat) (bs : TT Nat e)
  | port (m : Nat) (me : Int) (steps : Nat)
def KOb.abs : KOb → Ob
  | .mem d nw ws e nb bs => .mem ((absT d nw ws).map UInt64.ofNat) ((absT e nb bs).map UInt8.ofNat)
  | .port m me steps => .port m me steps
def KOb.wf : KOb → Prop
  | .mem d nw _ e nb _ => nw ≤ 2 ^ d ∧ nb ≤ 2 ^ e
  | .port _ _ _ => True
def eqInts : List Value → List Value → Bool
  | [], [] => true
  | .int .i64 (.ofNat a) :: l, .int .i64 (.ofNat b) :: l' => Nat.beq a b && eqInts l l'
  | _, _ => false
theorem eqInts_ok : ∀ {l l' : List Value}, eqInts l l' = true → l = l'
  | [], [], _ => rfl
  | .int .i64 (.ofNat a) :: l, .int .i64 (.ofNat b) :: l', h => by
    simp only [eqInts, Bool.and_eq_true] at h
    rw [Nat.eq_of_beq_eq_true h.1, eqInts_ok h.2]
def geoL (N T : Nat) : List Value := .int .i64 (.ofNat N) :: .int .i64 (.ofNat T) :: (List.range 20).map fun i => .int .i64 (.ofNat (gb N T i))
theorem geoL_eq (N T : Nat) : (geoL N T).toArray = geoC N T := by
  apply Array.ext'
  simp [geoL, geoC]
def geoD (cs : List Value) : Option (Nat × Nat) := match cs with
  | .int .i64 (.ofNat N) :: .int .i64 (.ofNat T) :: _ => (match eqInts cs (geoL N T) && (Nat.ble 1 N && (Nat.ble N 256 && (Nat.ble 1 T && Nat.ble T 64))) with
    | true => some (N, T)
    | false => none)
  | _ => none
theorem geoD_ok {cs : Array Value} {N T : Nat} (h : geoD cs.toList = some (N, T)) : cs = geoC N T ∧ 1 ≤ N ∧ N ≤ 256 ∧ 1 ≤ T ∧ T ≤ 64 := by
  unfold geoD at h
  split at h
  · rename_i N' T' l hcs
    split at h
    · rename_i hb
      cases h
      simp only [Bool.and_eq_true] at hb
      obtain ⟨h1, h2, h3, h4, h5⟩ := hb
      refine ⟨?_, Nat.le_of_ble_eq_true h2, Nat.le_of_ble_eq_true h3, Nat.le_of_ble_eq_true h4, Nat.le_of_ble_eq_true h5⟩
      rw [← geoL_eq, ← eqInts_ok h1]
    · cases h
  · cases h
def gatK (N T r : Nat) (n : Int) : Int := match n with
  | .negSucc _ => .negSucc 0
  | .ofNat m => (match Nat.ble (gb N T (r + 1)) (gb N T r + m) with
    | true => .negSucc 0
    | false => .ofNat (gb N T r + m))
theorem gatK_eq (N T r : Nat) (n : Int) : gatK N T r n = gat N T r n := by
  unfold gatK
  cases n with
  | negSucc m => exact (gat_neg N T r (Int.negSucc_lt_zero m)).symm
  | ofNat m =>
    simp only []
    cases hb : Nat.ble (gb N T (r + 1)) (gb N T r + m) with
    | true =>
      have := Nat.le_of_ble_eq_true hb
      rw [gat_far N T r (by simp only [Int.ofNat_eq_natCast]; omega)]; rfl
    | false =>
      have : ¬ gb N T (r + 1) ≤ gb N T r + m := fun h => by rw [Nat.ble_eq_true_of_le h] at hb; cases hb
      rw [gat_in N T r (by simp only [Int.ofNat_eq_natCast]; omega) (by simp only [Int.ofNat_eq_natCast]; omega)]
      simp
def wordI (c i A B d : Nat) (ws : TT Nat d) : Nat × TT Nat d := match c with
  | 1 => ((gT d i).f ws % 18446744073709551616, ws)
  | 2 => (0, (sT d i).f ws A)
  | 3 => (match Nat.beq ((gT d i).f ws % 18446744073709551616) A with
    | true => (1, (sT d i).f ws B)
    | false => (0, ws))
  | _ => ((gT d i).f ws % 18446744073709551616, (sT d i).f ws (((gT d i).f ws + A) % 18446744073709551616))
def wordJ (c i A B d : Nat) (ws : TT Nat d) : Nat × TT Nat d := match i with
  | 0 => wordI c 0 A B d ws
  | j + 1 => wordI c (Nat.succ j) A B d ws
theorem wordJ_eq (c i A B d : Nat) (ws : TT Nat d) : wordJ c i A B d ws = wordI c i A B d ws := by cases i <;> rfl
def wordK (c : Nat) (n : Int) (A B : Nat) (d nw : Nat) (ws : TT Nat d) : Nat × TT Nat d := match n with
  | .negSucc _ => (0, ws)
  | .ofNat i => (match Nat.ble (i + 1) nw with
    | false => (0, ws)
    | true => wordJ c i A B d ws)
def absW (d nw : Nat) (ws : TT Nat d) : List UInt64 := (absT d nw ws).map UInt64.ofNat
theorem u64_ofNat_toNat (x : Nat) : (UInt64.ofNat x).toNat = x % 18446744073709551616 := by simp
theorem wordK_ok {c : Nat} {n : Int} {A B d nw : Nat} {ws : TT Nat d} (hl : nw ≤ 2 ^ d) (hA : A < 18446744073709551616) (h1 : 1 ≤ c) (h4 : c ≤ 4) :
    (wordK c n A B d nw ws).1 = (wT c n (UInt64.ofNat A) (absW d nw ws)).toNat ∧ absW d nw (wordK c n A B d nw ws).2 = wS c n (UInt64.ofNat A) (UInt64.ofNat B) (absW d nw ws) := by
  unfold wordK wT wS
  have hlen : (absW d nw ws).length = nw := by unfold absW; rw [List.length_map, absT_len hl]
  cases n with
  | negSucc m => rw [wAt_neg (Int.negSucc_lt_zero m)]; exact ⟨rfl, rfl⟩
  | ofNat i =>
    simp only []
    cases hb : Nat.ble (i + 1) nw with
    | false =>
      have := not_ble hb
      rw [wAt_far (by rw [hlen]; simp only [Int.ofNat_eq_natCast]; omega)]
      exact ⟨rfl, rfl⟩
    | true =>
      have hlt : i < nw := by have := Nat.le_of_ble_eq_true hb; omega
      have hget : (absT d nw ws)[i]? = some ((gT d i).f ws) := by
        unfold absT
        rw [List.getElem?_take, if_pos hlt, gT_eq d i ws (by omega)]
      have hx : wAt (absW d nw ws) (Int.ofNat i) = some (UInt64.ofNat ((gT d i).f ws)) := by
        show wAt (absW d nw ws) ((i : Nat) : Int) = _
        have h2 : (absW d nw ws)[i]? = some (UInt64.ofNat ((gT d i).f ws)) := by
          unfold absW
          rw [List.getElem?_map, hget]; rfl
        have h3 : i < (absW d nw ws).length := by rw [hlen]; exact hlt
        rw [wAt_in h3]
        rw [List.getElem?_eq_getElem h3] at h2
        exact h2
      rw [hx]
      have hset : ∀ v, absW d nw ((sT d i).f ws v) = (absW d nw ws).set i (UInt64.ofNat v) := fun v => by
        unfold absW absT
        rw [sT_eq d i ws v (by omega), List.take_set, List.map_set]
      have hsame : absW d nw ws = (absW d nw ws).set i (UInt64.ofNat ((gT d i).f ws)) := by
        have h2 : (absW d nw ws)[i]? = some (UInt64.ofNat ((gT d i).f ws)) := by
          unfold absW
          rw [List.getElem?_map, hget]; rfl
        obtain ⟨h3, h4⟩ := List.getElem?_eq_some_iff.1 h2
        rw [← h4]
        exact (List.set_getElem_self h3).symm
      simp only [wordJ_eq]
      have hcase : c = 1 ∨ c = 2 ∨ c = 3 ∨ c = 4 := by omega
      rcases hcase with rfl | rfl | rfl | rfl
      · exact ⟨(u64_ofNat_toNat _).symm, hsame⟩
      · exact ⟨rfl, hset A⟩
      · simp only [wordI, kTold, kNow]
        have hiff : (UInt64.ofNat ((gT d i).f ws) = UInt64.ofNat A) ↔ (gT d i).f ws % 18446744073709551616 = A := by
          rw [← UInt64.toNat_inj, u64_ofNat_toNat, u64_ofNat_toNat, Nat.mod_eq_of_lt hA]
        cases hq : Nat.beq ((gT d i).f ws % 18446744073709551616) A with
        | true =>
          have := hiff.2 (Nat.eq_of_beq_eq_true hq)
          rw [if_pos this, if_pos this]
          exact ⟨rfl, hset B⟩
        | false =>
          have : ¬ (UInt64.ofNat ((gT d i).f ws) = UInt64.ofNat A) := fun h => by have := hiff.1 h; rw [this, Nat.beq_refl] at hq; cases hq
          rw [if_neg this, if_neg this]
          exact ⟨rfl, hsame⟩
      · refine ⟨(u64_ofNat_toNat _).symm, ?_⟩
        show absW d nw ((sT d i).f ws _) = (absW d nw ws).set i (kNow 4 _ _ _)
        rw [hset]
        simp only [kNow]
        congr 1
        apply UInt64.toNat_inj.1
        rw [UInt64.toNat_add, u64_ofNat_toNat, u64_ofNat_toNat, u64_ofNat_toNat]
        simp
abbrev KS := List KOb
def absS (s : KS) : St := s.map KOb.abs
def wfS (s : KS) : Prop := ∀ ob ∈ s, ob.wf
def primTab : List (FuncId × Nat) := [
  (168, 1),
  (170, 2),
  (166, 3),
  (165, 4),
  (169, 5),
  (29, 6),
  (25, 7),
  (79, 8),
  (57, 9),
  (59, 10),
  (12, 11),
  (114, 12),
  (64, 13),
  (18, 14),
  (63, 15),
  (77, 16),
  (61, 18),
  (116, 22),
  (145, 31),
  (27, 32),
  (53, 34),
  (35, 35),
  (55, 36),
  (60, 37),
  (122, 39),
  (1000000, 0)]
def lookN (f : FuncId) : List (FuncId × Nat) → Nat
  | [] => 0
  | p :: l => match Nat.beq p.1 f with | true => p.2 | false => lookN f l
theorem lookN_mem {f k : Nat} : ∀ {l : List (FuncId × Nat)}, lookN f l = k → k ≠ 0 → (f, k) ∈ l
  | [], h, hk => absurd h.symm hk
  | p :: l, h, hk => by
    simp only [lookN] at h
    split at h
    · rename_i hb
      have := Nat.eq_of_beq_eq_true hb
      subst h; subst this
      exact List.mem_cons_self
    · exact List.mem_cons_of_mem _ (lookN_mem h hk)
def primIx (f : FuncId) : Nat := lookN f primTab
def accK (s : KS) (p : Nat) (c : Nat) (n : Int) (A B : Nat) (tell : Nat → Value) : Option (Value × KS) := match Nat.ble VB p, s[p - VB]? with
  | true, some (.port m me st) => (match s[m]?, Nat.ble st 1000000000000 with
    | some (.mem d nw ws e nb bs), true => (match wordK c n A B d nw ws with | (x, ws') => some (tell x, (s.set (p - VB) (.port m me (st + 1))).set m (.mem d nw ws' e nb bs)))
    | _, _ => none)
  | _, _ => none
def geo0 (cs : Array Value) (F : Nat → Nat → Int) (s : KS) : Option (Value × KS) := match geoD cs.toList with
  | some (N, T) => some (.int .i64 (F N T), s)
  | none => none
def inB (n : Int) (nw : Nat) : Bool := match n with | .ofNat i => Nat.ble (i + 1) nw | .negSucc _ => false
def eqWs : List Nat → List Nat → Nat → Bool
  | [], [], _ => true
  | a :: l, b :: l', m => Nat.beq (a % m) (b % m) && eqWs l l' m
  | _, _, _ => false
def prim1 (args : List Value) (s : KS) : Option (Value × KS) := match args with
  | [.pointer (some ⟨p, 0, none⟩), .int .i64 n] => accK s p 1 n 0 0 fun x => .int .u64 (.ofNat x)
  | _ => none
def prim2 (args : List Value) (s : KS) : Option (Value × KS) := match args with
  | [.pointer (some ⟨p, 0, none⟩), .int .i64 n, .int .u64 (.ofNat A)] => (match Nat.ble A 18446744073709551615 with | true => accK s p 2 n A 0 fun _ => .tuple #[] | false => none)
  | _ => none
def prim3 (args : List Value) (s : KS) : Option (Value × KS) := match args with
  | [.pointer (some ⟨p, 0, none⟩), .int .i64 n, .int .u64 (.ofNat A), .int .u64 (.ofNat B)] => (match Nat.ble A 18446744073709551615 && Nat.ble B 18446744073709551615 with | true => accK s p 3 n A B fun x => .bool (Nat.beq x 1) | false => none)
  | _ => none
def prim4 (args : List Value) (s : KS) : Option (Value × KS) := match args with
  | [.pointer (some ⟨p, 0, none⟩), .int .i64 n, .int .u64 (.ofNat A)] => (match Nat.ble A 18446744073709551615 with | true => accK s p 4 n A 0 fun x => .int .u64 (.ofNat x) | false => none)
  | _ => none
def prim5 (args : List Value) (s : KS) : Option (Value × KS) := match args with
  | [.pointer (some ⟨p, 0, none⟩)] => (match Nat.ble VB p, s[p - VB]? with | true, some (.port _ me _) => some (.int .i64 me, s) | _, _ => none)
  | _ => none
def prim6 (args : List Value) (s : KS) : Option (Value × KS) := match args with
  | [.pointer (some ⟨p, 0, none⟩)] => (match Nat.ble VB p, s[p - VB]? with | true, some (.port _ _ st) => some (.int .i64 (.ofNat st), s) | _, _ => none)
  | _ => none
def prim7 (args : List Value) (s : KS) : Option (Value × KS) := match args with
  | [.pointer (some ⟨p, 0, none⟩), .int .i64 n] => (match Nat.ble VB p, s[p - VB]? with | true, some (.mem d nw ws _ _ _) => some (.int .u64 (.ofNat (wordK 1 n 0 0 d nw ws).1), s) | _, _ => none)
  | _ => none
def prim8 (args : List Value) (s : KS) : Option (Value × KS) := match args with
  | [.pointer (some ⟨p, 0, none⟩), .agg cs] => (match Nat.ble VB p, s[p - VB]?, cs.toList with
    | true, some (.mem d nw ws e nb bs), [.int .u8 (.ofNat c), .int .i64 n, .int .u64 (.ofNat A), .int .u64 (.ofNat B)] => (match Nat.ble 1 c && (Nat.ble c 4 && (Nat.ble A 18446744073709551615 && Nat.ble B 18446744073709551615)) with
      | true => some (.tuple #[.int .u64 (.ofNat (wordK c n A B d nw ws).1), .bool (inB n nw)], s.set (p - VB) (.mem d nw (wordK c n A B d nw ws).2 e nb bs))
      | false => none)
    | _, _, _ => none)
  | _ => none
def prim9 (args : List Value) (s : KS) : Option (Value × KS) := match args with
  | [.pointer (some ⟨p, 0, none⟩)] => (match Nat.ble VB p, s[p - VB]? with | true, some (.mem d nw ws e nb bs) => some (hndV s.length, s ++ [.mem d nw ws e nb bs]) | _, _ => none)
  | _ => none
def prim10 (args : List Value) (s : KS) : Option (Value × KS) := match args with
  | [.pointer (some ⟨p, 0, none⟩), .pointer (some ⟨q, 0, none⟩)] => (match Nat.ble VB p && Nat.ble VB q, s[p - VB]?, s[q - VB]? with | true, some (.mem d nw ws e nb bs), some (.mem d' nw' us e' nb' cs) => some (.bool (eqWs (absT d nw ws) (absT d' nw' us) 18446744073709551616 && eqWs (absT e nb bs) (absT e' nb' cs) 256), s) | _, _, _ => none)
  | _ => none
def prim11 (args : List Value) (s : KS) : Option (Value × KS) := match args with
  | [.pointer (some ⟨p, 0, none⟩), .int .i64 me] => (match Nat.ble VB p, s[p - VB]? with | true, some (.mem _ _ _ _ _ _) => some (hndV s.length, s ++ [.port (p - VB) me 0]) | _, _ => none)
  | _ => none
def prim12 (args : List Value) (s : KS) : Option (Value × KS) := match args with
  | [.int .i64 (.ofNat a), .int .i64 (.ofNat b)] => (match Nat.ble a 2097152 && Nat.ble b 1048576 with | true => some (.tuple #[hndV s.length, .int .i64 (.ofNat 0)], s ++ [.mem (depN a) a (manyT 0 (depN a)) (depN b) b (manyT 0 (depN b))]) | false => none)
  | _ => none
def prim13 (args : List Value) (s : KS) : Option (Value × KS) := match args with
  | [.agg cs] => geo0 cs (fun N _ => .ofNat N) s
  | _ => none
def prim14 (args : List Value) (s : KS) : Option (Value × KS) := match args with
  | [.agg cs] => geo0 cs (fun _ T => .ofNat T) s
  | _ => none
def prim15 (args : List Value) (s : KS) : Option (Value × KS) := match args with
  | [.agg cs] => geo0 cs (fun N T => .ofNat (gb N T 19)) s
  | _ => none
def prim16 (args : List Value) (s : KS) : Option (Value × KS) := match args with
  | [.agg cs] => geo0 cs (fun N T => .ofNat (gM N T)) s
  | _ => none
def prim18 (args : List Value) (s : KS) : Option (Value × KS) := match args with
  | [.int .i64 (.ofNat N), .int .i64 (.ofNat T)] => (match Nat.ble 1 N && (Nat.ble N 256 && (Nat.ble 1 T && Nat.ble T 64)) with | true => some (.tuple #[.agg (geoC N T), .bool true], s) | false => none)
  | _ => none
def prim22 (args : List Value) (s : KS) : Option (Value × KS) := match args with
  | [.agg cs] => geo0 cs (fun N T => gatK N T 4 0) s
  | _ => none
def prim30 (args : List Value) (s : KS) : Option (Value × KS) := match args with
  | [.agg cs, .int .i64 n] => geo0 cs (fun N T => gatK N T 2 n) s
  | _ => none
def prim31 (args : List Value) (s : KS) : Option (Value × KS) := match args with
  | [.agg cs, .int .i64 n] => geo0 cs (fun N T => gatK N T 3 n) s
  | _ => none
def prim32 (args : List Value) (s : KS) : Option (Value × KS) := match args with
  | [.agg cs, .int .i64 n] => geo0 cs (fun N T => gatK N T 5 n) s
  | _ => none
def prim34 (args : List Value) (s : KS) : Option (Value × KS) := match args with
  | [.agg cs, .int .i64 n] => geo0 cs (fun N T => gatK N T 7 n) s
  | _ => none
def prim35 (args : List Value) (s : KS) : Option (Value × KS) := match args with
  | [.agg cs, .int .i64 n] => geo0 cs (fun N T => gatK N T 8 n) s
  | _ => none
def prim36 (args : List Value) (s : KS) : Option (Value × KS) := match args with
  | [.agg cs, .int .i64 n] => geo0 cs (fun N T => gatK N T 9 n) s
  | _ => none
def prim37 (args : List Value) (s : KS) : Option (Value × KS) := match args with
  | [.agg cs, .int .i64 n] => geo0 cs (fun N T => gatK N T 10 n) s
  | _ => none
def prim39 (args : List Value) (s : KS) : Option (Value × KS) := match args with
  | [.agg cs, .int .i64 n] => geo0 cs (fun N T => gatK N T 15 n) s
  | _ => none
def primK (f : FuncId) (args : List Value) (s : KS) : Option (Value × KS) := match primIx f with
  | 1 => prim1 args s
  | 2 => prim2 args s
  | 3 => prim3 args s
  | 4 => prim4 args s
  | 5 => prim5 args s
  | 6 => prim6 args s
  | 7 => prim7 args s
  | 8 => prim8 args s
  | 9 => prim9 args s
  | 10 => prim10 args s
  | 11 => prim11 args s
  | 12 => prim12 args s
  | 13 => prim13 args s
  | 14 => prim14 args s
  | 15 => prim15 args s
  | 16 => prim16 args s
  | 18 => prim18 args s
  | 22 => prim22 args s
  | 31 => prim31 args s
  | 32 => prim32 args s
  | 34 => prim34 args s
  | 35 => prim35 args s
  | 36 => prim36 args s
  | 37 => prim37 args s
  | 39 => prim39 args s
  | _ => none
theorem absS_get {s : KS} {k : Nat} {ob : KOb} (h : s[k]? = some ob) : (absS s)[k]? = some ob.abs := by
  unfold absS; rw [List.getElem?_map, h]; rfl
theorem absS_len (s : KS) : (absS s).length = s.length := by unfold absS; simp
theorem absS_set (s : KS) (k : Nat) (ob : KOb) : absS (s.set k ob) = (absS s).set k ob.abs := by unfold absS; rw [List.map_set]
theorem absS_app (s : KS) (ob : KOb) : absS (s ++ [ob]) = absS s ++ [ob.abs] := by unfold absS; simp
theorem wfS_get {s : KS} {k : Nat} {ob : KOb} (hs : wfS s) (h : s[k]? = some ob) : ob.wf := hs ob (List.mem_of_getElem? h)
theorem wfS_set {s : KS} {k : Nat} {ob : KOb} (hs : wfS s) (h : ob.wf) : wfS (s.set k ob) := fun x hx => by
  rcases List.mem_or_eq_of_mem_set hx with hx | rfl
  · exact hs x hx
  · exact h
theorem wfS_app {s : KS} {ob : KOb} (hs : wfS s) (h : ob.wf) : wfS (s ++ [ob]) := fun x hx => by
  rcases List.mem_append.1 hx with hx | hx
  · exact hs x hx
  · simp only [List.mem_singleton] at hx; subst hx; exact h
theorem hnd_of {p : Nat} (h : Nat.ble VB p = true) : Value.pointer (some ⟨p, 0, none⟩) = hndV (p - VB) := by
  have := Nat.le_of_ble_eq_true h
  unfold hndV
  rw [Nat.add_sub_cancel' this]
theorem u64_arg {A : Nat} (h : A < 18446744073709551616) : Value.int .u64 (.ofNat A) = .int .u64 ((UInt64.ofNat A).toNat : Int) := by
  congr 1
  rw [u64_ofNat_toNat, Nat.mod_eq_of_lt h]
  rfl
theorem accK_ok {s s' : KS} {p c : Nat} {n : Int} {A B : Nat} {tell : Nat → Value} {v : Value} (hs : wfS s) (hA : A < 18446744073709551616) (h1 : 1 ≤ c) (h4 : c ≤ 4) (h : accK s p c n A B tell = some (v, s')) :
    ∃ (m : Nat) (me : Int) (st : Nat) (ws : List UInt64) (bs : List UInt8), wfS s' ∧ Nat.ble VB p = true ∧ (absS s)[p - VB]? = some (.port m me st) ∧ (absS s)[m]? = some (.mem ws bs) ∧ st ≤ 1000000000000 ∧
      v = tell (wT c n (UInt64.ofNat A) ws).toNat ∧ absS s' = accS (absS s) (p - VB) m me (st + 1) (wS c n (UInt64.ofNat A) (UInt64.ofNat B) ws) bs := by
  unfold accK at h
  split at h
  · rename_i m me st hp hk
    split at h
    · rename_i d nw ws e nb bs hm hst
      cases h
      obtain ⟨w1, w2⟩ := wfS_get hs hm
      obtain ⟨g1, g2⟩ := wordK_ok (n := n) (B := B) (ws := ws) w1 hA h1 h4
      refine ⟨m, me, st, absW d nw ws, (absT e nb bs).map UInt8.ofNat, ?_, hp, absS_get hk, absS_get hm, Nat.le_of_ble_eq_true hst, congrArg tell g1, ?_⟩
      · exact wfS_set (wfS_set hs trivial) ⟨w1, w2⟩
      · rw [absS_set, absS_set]
        unfold accS
        rw [← g2]
        rfl
    · cases h
  · cases h
theorem eqWs_ok : ∀ {l l' : List Nat} {m : Nat}, eqWs l l' m = decide (l.map (· % m) = l'.map (· % m))
  | [], [], m => by simp [eqWs]
  | [], _ :: _, m => by simp [eqWs]
  | _ :: _, [], m => by simp [eqWs]
  | a :: l, b :: l', m => by
    rw [eqWs, eqWs_ok]
    simp only [List.map_cons, List.cons.injEq]
    rw [Bool.decide_and]
    congr 1
    rw [Bool.eq_iff_iff]
    simp
theorem eq64 {l l' : List Nat} : eqWs l l' 18446744073709551616 = decide (l.map UInt64.ofNat = l'.map UInt64.ofNat) := by
  rw [eqWs_ok, decide_eq_decide]
  have inj : ∀ {l l' : List UInt64}, l.map UInt64.toNat = l'.map UInt64.toNat → l = l' := fun h => (List.map_inj_right (fun a b h => UInt64.toNat_inj.1 h)).1 h
  constructor
  · intro h
    apply inj
    simp only [List.map_map]
    simpa [Function.comp_def] using h
  · intro h
    have := congrArg (List.map UInt64.toNat) h
    simp only [List.map_map] at this
    simpa [Function.comp_def] using this
theorem eq8 {l l' : List Nat} : eqWs l l' 256 = decide (l.map UInt8.ofNat = l'.map UInt8.ofNat) := by
  rw [eqWs_ok, decide_eq_decide]
  have inj : ∀ {l l' : List UInt8}, l.map UInt8.toNat = l'.map UInt8.toNat → l = l' := fun h => (List.map_inj_right (fun a b h => UInt8.toNat_inj.1 h)).1 h
  constructor
  · intro h
    apply inj
    simp only [List.map_map]
    simpa [Function.comp_def] using h
  · intro h
    have := congrArg (List.map UInt8.toNat) h
    simp only [List.map_map] at this
    simpa [Function.comp_def] using this
theorem many_mem {a b : Nat} (ha : a ≤ 2097152) (hb : b ≤ 1048576) : (KOb.mem (depN a) a (manyT 0 (depN a)) (depN b) b (manyT 0 (depN b))).wf ∧ (KOb.mem (depN a) a (manyT 0 (depN a)) (depN b) b (manyT 0 (depN b))).abs = .mem (List.replicate a 0) (List.replicate b 0) := by
  have h1 := depN_le (n := a) (by omega)
  have h2 := depN_le (n := b) (by omega)
  refine ⟨⟨h1, h2⟩, ?_⟩
  simp only [KOb.abs, absT_many 0 h1, absT_many 0 h2, List.map_replicate]
  rfl
theorem geo0_ok {cs : Array Value} {F : Nat → Nat → Int} {s s' : KS} {v : Value} (h : geo0 cs F s = some (v, s')) : ∃ N T, cs = geoC N T ∧ 1 ≤ N ∧ N ≤ 256 ∧ 1 ≤ T ∧ T ≤ 64 ∧ v = .int .i64 (F N T) ∧ s' = s := by
  unfold geo0 at h
  split at h
  · rename_i N T hg
    cases h
    obtain ⟨h1, h2, h3, h4, h5⟩ := geoD_ok hg
    exact ⟨N, T, h1, h2, h3, h4, h5, rfl, rfl⟩
  · cases h
theorem pure_ok {f : FuncId} {args : List Value} {v : Value} {S : St} (h : ∀ w, Calls Try.prog f args.toArray w (Ret v (Ext [] w))) (ha : args.toArray.all plainB = true) (hv : plainB v = true) : Prim f args.toArray S v S := .pure h ha hv
theorem geo_args1 {cs : Array Value} (h : plainB (.agg cs) = true) : (List.toArray [Value.agg cs]).all plainB = true := by rw [List.all_toArray]; simp only [List.all_cons, List.all_nil, h, Bool.and_true]
theorem geo_args2 {cs : Array Value} {n : Int} (h : plainB (.agg cs) = true) : (List.toArray [Value.agg cs, .int .i64 n]).all plainB = true := by
  rw [List.all_toArray]; simp only [List.all_cons, List.all_nil, h, Bool.and_true]; rfl
set_option maxRecDepth 4000
theorem ix_1 {f : FuncId} (h : primIx f = 1) : f = 168 := by simpa [primTab] using lookN_mem h (by decide)
theorem ix_2 {f : FuncId} (h : primIx f = 2) : f = 170 := by simpa [primTab] using lookN_mem h (by decide)
theorem ix_3 {f : FuncId} (h : primIx f = 3) : f = 166 := by simpa [primTab] using lookN_mem h (by decide)
theorem ix_4 {f : FuncId} (h : primIx f = 4) : f = 165 := by simpa [primTab] using lookN_mem h (by decide)
theorem ix_5 {f : FuncId} (h : primIx f = 5) : f = 169 := by simpa [primTab] using lookN_mem h (by decide)
theorem ix_6 {f : FuncId} (h : primIx f = 6) : f = 29 := by simpa [primTab] using lookN_mem h (by decide)
theorem ix_7 {f : FuncId} (h : primIx f = 7) : f = 25 := by simpa [primTab] using lookN_mem h (by decide)
theorem ix_8 {f : FuncId} (h : primIx f = 8) : f = 79 := by simpa [primTab] using lookN_mem h (by decide)
theorem ix_9 {f : FuncId} (h : primIx f = 9) : f = 57 := by simpa [primTab] using lookN_mem h (by decide)
theorem ix_10 {f : FuncId} (h : primIx f = 10) : f = 59 := by simpa [primTab] using lookN_mem h (by decide)
theorem ix_11 {f : FuncId} (h : primIx f = 11) : f = 12 := by simpa [primTab] using lookN_mem h (by decide)
theorem ix_12 {f : FuncId} (h : primIx f = 12) : f = 114 := by simpa [primTab] using lookN_mem h (by decide)
theorem ix_13 {f : FuncId} (h : primIx f = 13) : f = 64 := by simpa [primTab] using lookN_mem h (by decide)
theorem ix_14 {f : FuncId} (h : primIx f = 14) : f = 18 := by simpa [primTab] using lookN_mem h (by decide)
theorem ix_15 {f : FuncId} (h : primIx f = 15) : f = 63 := by simpa [primTab] using lookN_mem h (by decide)
theorem ix_16 {f : FuncId} (h : primIx f = 16) : f = 77 := by simpa [primTab] using lookN_mem h (by decide)
theorem ix_18 {f : FuncId} (h : primIx f = 18) : f = 61 := by simpa [primTab] using lookN_mem h (by decide)
theorem ix_22 {f : FuncId} (h : primIx f = 22) : f = 116 := by simpa [primTab] using lookN_mem h (by decide)
theorem ix_31 {f : FuncId} (h : primIx f = 31) : f = 145 := by simpa [primTab] using lookN_mem h (by decide)
theorem ix_32 {f : FuncId} (h : primIx f = 32) : f = 27 := by simpa [primTab] using lookN_mem h (by decide)
theorem ix_34 {f : FuncId} (h : primIx f = 34) : f = 53 := by simpa [primTab] using lookN_mem h (by decide)
theorem ix_35 {f : FuncId} (h : primIx f = 35) : f = 35 := by simpa [primTab] using lookN_mem h (by decide)
theorem ix_36 {f : FuncId} (h : primIx f = 36) : f = 55 := by simpa [primTab] using lookN_mem h (by decide)
theorem ix_37 {f : FuncId} (h : primIx f = 37) : f = 60 := by simpa [primTab] using lookN_mem h (by decide)
theorem ix_39 {f : FuncId} (h : primIx f = 39) : f = 122 := by simpa [primTab] using lookN_mem h (by decide)
theorem prim1_ok (f : FuncId) (args : List Value) (s : KS) (v : Value) (s' : KS) (hs : wfS s) (hix : primIx f = 1) (h : prim1 args s = some (v, s')) : wfS s' ∧ Prim f args.toArray (absS s) v (absS s') ∧ fnOK Try.prog f = true := by
  unfold prim1 at h
  split at h
  · rename_i p n
    obtain rfl := ix_1 hix
    obtain ⟨m, me, st, ws, bs, g1, g2, g3, g4, g5, rfl, g7⟩ := accK_ok hs (by decide) (by decide) (by decide) h
    refine ⟨g1, ?_, by kernel_rfl⟩
    rw [g7, hnd_of g2]
    exact .load n g3 g4 g5
  · cases h
theorem prim2_ok (f : FuncId) (args : List Value) (s : KS) (v : Value) (s' : KS) (hs : wfS s) (hix : primIx f = 2) (h : prim2 args s = some (v, s')) : wfS s' ∧ Prim f args.toArray (absS s) v (absS s') ∧ fnOK Try.prog f = true := by
  unfold prim2 at h
  split at h
  · rename_i p n A
    obtain rfl := ix_2 hix
    split at h
    · rename_i hA
      have hA : A < 18446744073709551616 := by have := Nat.le_of_ble_eq_true hA; omega
      obtain ⟨m, me, st, ws, bs, g1, g2, g3, g4, g5, rfl, g7⟩ := accK_ok hs hA (by decide) (by decide) h
      refine ⟨g1, ?_, by kernel_rfl⟩
      rw [g7, hnd_of g2, u64_arg hA]
      exact .store n (UInt64.ofNat A) g3 g4 g5
    · cases h
  · cases h
theorem prim3_ok (f : FuncId) (args : List Value) (s : KS) (v : Value) (s' : KS) (hs : wfS s) (hix : primIx f = 3) (h : prim3 args s = some (v, s')) : wfS s' ∧ Prim f args.toArray (absS s) v (absS s') ∧ fnOK Try.prog f = true := by
  unfold prim3 at h
  split at h
  · rename_i p n A B
    obtain rfl := ix_3 hix
    split at h
    · rename_i hAB
      simp only [Bool.and_eq_true] at hAB
      have hA : A < 18446744073709551616 := by have := Nat.le_of_ble_eq_true hAB.1; omega
      have hB : B < 18446744073709551616 := by have := Nat.le_of_ble_eq_true hAB.2; omega
      obtain ⟨m, me, st, ws, bs, g1, g2, g3, g4, g5, rfl, g7⟩ := accK_ok hs hA (by decide) (by decide) h
      refine ⟨g1, ?_, by kernel_rfl⟩
      rw [g7, hnd_of g2, u64_arg hA, u64_arg hB]
      have e : Nat.beq (wT 3 n (UInt64.ofNat A) ws).toNat 1 = (wT 3 n (UInt64.ofNat A) ws == 1) := by
        rw [Bool.eq_iff_iff, beq_iff_eq, ← UInt64.toNat_inj]
        exact ⟨fun h => Nat.eq_of_beq_eq_true h, fun h => by rw [h]; rfl⟩
      rw [e]
      exact .cas n (UInt64.ofNat A) (UInt64.ofNat B) g3 g4 g5
    · cases h
  · cases h
theorem prim4_ok (f : FuncId) (args : List Value) (s : KS) (v : Value) (s' : KS) (hs : wfS s) (hix : primIx f = 4) (h : prim4 args s = some (v, s')) : wfS s' ∧ Prim f args.toArray (absS s) v (absS s') ∧ fnOK Try.prog f = true := by
  unfold prim4 at h
  split at h
  · rename_i p n A
    obtain rfl := ix_4 hix
    split at h
    · rename_i hA
      have hA : A < 18446744073709551616 := by have := Nat.le_of_ble_eq_true hA; omega
      obtain ⟨m, me, st, ws, bs, g1, g2, g3, g4, g5, rfl, g7⟩ := accK_ok hs hA (by decide) (by decide) h
      refine ⟨g1, ?_, by kernel_rfl⟩
      rw [g7, hnd_of g2, u64_arg hA]
      exact .add n (UInt64.ofNat A) g3 g4 g5
    · cases h
  · cases h
theorem prim5_ok (f : FuncId) (args : List Value) (s : KS) (v : Value) (s' : KS) (hs : wfS s) (hix : primIx f = 5) (h : prim5 args s = some (v, s')) : wfS s' ∧ Prim f args.toArray (absS s) v (absS s') ∧ fnOK Try.prog f = true := by
  unfold prim5 at h
  split at h
  · rename_i p
    obtain rfl := ix_5 hix
    split at h
    · rename_i m me st hp hk
      cases h
      refine ⟨hs, ?_, by kernel_rfl⟩
      rw [hnd_of hp]
      exact .self (absS_get hk)
    · cases h
  · cases h
theorem prim6_ok (f : FuncId) (args : List Value) (s : KS) (v : Value) (s' : KS) (hs : wfS s) (hix : primIx f = 6) (h : prim6 args s = some (v, s')) : wfS s' ∧ Prim f args.toArray (absS s) v (absS s') ∧ fnOK Try.prog f = true := by
  unfold prim6 at h
  split at h
  · rename_i p
    obtain rfl := ix_6 hix
    split at h
    · rename_i m me st hp hk
      cases h
      refine ⟨hs, ?_, by kernel_rfl⟩
      rw [hnd_of hp]
      exact .steps (absS_get hk)
    · cases h
  · cases h
theorem prim7_ok (f : FuncId) (args : List Value) (s : KS) (v : Value) (s' : KS) (hs : wfS s) (hix : primIx f = 7) (h : prim7 args s = some (v, s')) : wfS s' ∧ Prim f args.toArray (absS s) v (absS s') ∧ fnOK Try.prog f = true := by
  unfold prim7 at h
  split at h
  · rename_i p n
    obtain rfl := ix_7 hix
    split at h
    · rename_i d nw ws e nb bs hp hk
      simp only [Option.some.injEq, Prod.mk.injEq] at h
      obtain ⟨rfl, rfl⟩ := h
      obtain ⟨w1, w2⟩ := wfS_get hs hk
      obtain ⟨g1, g2⟩ := wordK_ok (c := 1) (n := n) (A := 0) (B := 0) (ws := ws) w1 (by decide) (by decide) (by decide)
      refine ⟨hs, ?_, by kernel_rfl⟩
      rw [hnd_of hp, g1]
      exact .word n (absS_get hk)
    · cases h
  · cases h
theorem prim8_ok (f : FuncId) (args : List Value) (s : KS) (v : Value) (s' : KS) (hs : wfS s) (hix : primIx f = 8) (h : prim8 args s = some (v, s')) : wfS s' ∧ Prim f args.toArray (absS s) v (absS s') ∧ fnOK Try.prog f = true := by
  unfold prim8 at h
  split at h
  · rename_i p cs
    obtain rfl := ix_8 hix
    split at h
    · rename_i d nw ws e nb bs c n A B hp hk hcs
      split at h
      · rename_i hc
        simp only [Option.some.injEq, Prod.mk.injEq] at h
        obtain ⟨rfl, rfl⟩ := h
        simp only [Bool.and_eq_true] at hc
        obtain ⟨c1, c4, hA, hB⟩ := hc
        have c1 := Nat.le_of_ble_eq_true c1
        have c4 := Nat.le_of_ble_eq_true c4
        have hA : A < 18446744073709551616 := by have := Nat.le_of_ble_eq_true hA; omega
        have hB : B < 18446744073709551616 := by have := Nat.le_of_ble_eq_true hB; omega
        obtain ⟨w1, w2⟩ := wfS_get hs hk
        obtain ⟨g1, g2⟩ := wordK_ok (c := c) (n := n) (A := A) (B := B) (ws := ws) w1 hA c1 c4
        refine ⟨wfS_set hs ⟨w1, w2⟩, ?_, by kernel_rfl⟩
        have hlen : (absW d nw ws).length = nw := by unfold absW; rw [List.length_map, absT_len w1]
        have e' : inB n nw = (wAt (absW d nw ws) n).isSome := by
          unfold inB
          cases n with
          | negSucc m => rw [wAt_neg (Int.negSucc_lt_zero m)]; rfl
          | ofNat i =>
            simp only []
            cases hb : Nat.ble (i + 1) nw with
            | true =>
              have := Nat.le_of_ble_eq_true hb
              have hl : i < (absW d nw ws).length := by omega
              show true = (wAt (absW d nw ws) ((i : Nat) : Int)).isSome
              rw [wAt_in hl]; rfl
            | false =>
              have : ¬ i + 1 ≤ nw := fun h => by rw [Nat.ble_eq_true_of_le h] at hb; cases hb
              rw [wAt_far (by rw [hlen]; simp only [Int.ofNat_eq_natCast]; omega)]; rfl
        obtain rfl : cs = #[.int .u8 (.ofNat c), .int .i64 n, .int .u64 (.ofNat A), .int .u64 (.ofNat B)] := by rw [← Array.toArray_toList (xs := cs), hcs]
        rw [hnd_of hp, e', g1, absS_set]
        have q := Prim.do' (S := absS s) (bs := (absT e nb bs).map UInt8.ofNat) c n (UInt64.ofNat A) (UInt64.ofNat B) (absS_get hk) c1 c4
        unfold accV at q
        rw [← u64_arg hA, ← u64_arg hB] at q
        rw [show KOb.abs (.mem d nw (wordK c n A B d nw ws).2 e nb bs) = .mem (absW d nw (wordK c n A B d nw ws).2) ((absT e nb bs).map UInt8.ofNat) from rfl, g2]
        exact q
      · cases h
    · cases h
  · cases h
theorem prim9_ok (f : FuncId) (args : List Value) (s : KS) (v : Value) (s' : KS) (hs : wfS s) (hix : primIx f = 9) (h : prim9 args s = some (v, s')) : wfS s' ∧ Prim f args.toArray (absS s) v (absS s') ∧ fnOK Try.prog f = true := by
  unfold prim9 at h
  split at h
  · rename_i p
    obtain rfl := ix_9 hix
    split at h
    · rename_i d nw ws e nb bs hp hk
      cases h
      refine ⟨wfS_app hs (wfS_get hs hk), ?_, by kernel_rfl⟩
      rw [hnd_of hp, absS_app, ← absS_len]
      exact .mcopy (absS_get hk)
    · cases h
  · cases h
theorem prim10_ok (f : FuncId) (args : List Value) (s : KS) (v : Value) (s' : KS) (hs : wfS s) (hix : primIx f = 10) (h : prim10 args s = some (v, s')) : wfS s' ∧ Prim f args.toArray (absS s) v (absS s') ∧ fnOK Try.prog f = true := by
  unfold prim10 at h
  split at h
  · rename_i p q
    obtain rfl := ix_10 hix
    split at h
    · rename_i d nw ws e nb bs d' nw' us e' nb' cs hp hk hj
      cases h
      simp only [Bool.and_eq_true] at hp
      refine ⟨hs, ?_, by kernel_rfl⟩
      rw [hnd_of hp.1, hnd_of hp.2, eq64, eq8]
      exact .msame (absS_get hk) (absS_get hj)
    · cases h
  · cases h
theorem prim11_ok (f : FuncId) (args : List Value) (s : KS) (v : Value) (s' : KS) (hs : wfS s) (hix : primIx f = 11) (h : prim11 args s = some (v, s')) : wfS s' ∧ Prim f args.toArray (absS s) v (absS s') ∧ fnOK Try.prog f = true := by
  unfold prim11 at h
  split at h
  · rename_i p me
    obtain rfl := ix_11 hix
    split at h
    · rename_i d nw ws e nb bs hp hk
      cases h
      refine ⟨wfS_app hs trivial, ?_, by kernel_rfl⟩
      rw [hnd_of hp, absS_app, ← absS_len]
      exact .pnew (absS_get hk)
    · cases h
  · cases h
theorem prim12_ok (f : FuncId) (args : List Value) (s : KS) (v : Value) (s' : KS) (hs : wfS s) (hix : primIx f = 12) (h : prim12 args s = some (v, s')) : wfS s' ∧ Prim f args.toArray (absS s) v (absS s') ∧ fnOK Try.prog f = true := by
  unfold prim12 at h
  split at h
  · rename_i a b
    obtain rfl := ix_12 hix
    split at h
    · rename_i hab
      cases h
      simp only [Bool.and_eq_true] at hab
      obtain ⟨h1, h2⟩ := many_mem (Nat.le_of_ble_eq_true hab.1) (Nat.le_of_ble_eq_true hab.2)
      refine ⟨wfS_app hs h1, ?_, by kernel_rfl⟩
      rw [absS_app, h2, ← absS_len]
      exact .mnew a b (Nat.le_of_ble_eq_true hab.1) (Nat.le_of_ble_eq_true hab.2)
    · cases h
  · cases h
theorem prim13_ok (f : FuncId) (args : List Value) (s : KS) (v : Value) (s' : KS) (hs : wfS s) (hix : primIx f = 13) (h : prim13 args s = some (v, s')) : wfS s' ∧ Prim f args.toArray (absS s) v (absS s') ∧ fnOK Try.prog f = true := by
  unfold prim13 at h
  split at h
  · rename_i cs
    obtain rfl := ix_13 hix
    obtain ⟨N, T, rfl, n1, n2, n3, n4, rfl, rfl⟩ := geo0_ok h
    refine ⟨hs, ?_, by kernel_rfl⟩
    exact pure_ok (fun w => gPages_any N T w) (geo_args1 (geo_plain N T)) rfl
  · cases h
theorem prim14_ok (f : FuncId) (args : List Value) (s : KS) (v : Value) (s' : KS) (hs : wfS s) (hix : primIx f = 14) (h : prim14 args s = some (v, s')) : wfS s' ∧ Prim f args.toArray (absS s) v (absS s') ∧ fnOK Try.prog f = true := by
  unfold prim14 at h
  split at h
  · rename_i cs
    obtain rfl := ix_14 hix
    obtain ⟨N, T, rfl, n1, n2, n3, n4, rfl, rfl⟩ := geo0_ok h
    refine ⟨hs, ?_, by kernel_rfl⟩
    exact pure_ok (fun w => gThreads_any N T w) (geo_args1 (geo_plain N T)) rfl
  · cases h
theorem prim15_ok (f : FuncId) (args : List Value) (s : KS) (v : Value) (s' : KS) (hs : wfS s) (hix : primIx f = 15) (h : prim15 args s = some (v, s')) : wfS s' ∧ Prim f args.toArray (absS s) v (absS s') ∧ fnOK Try.prog f = true := by
  unfold prim15 at h
  split at h
  · rename_i cs
    obtain rfl := ix_15 hix
    obtain ⟨N, T, rfl, n1, n2, n3, n4, rfl, rfl⟩ := geo0_ok h
    refine ⟨hs, ?_, by kernel_rfl⟩
    exact pure_ok (fun w => gWords_any N T w) (geo_args1 (geo_plain N T)) rfl
  · cases h
theorem prim16_ok (f : FuncId) (args : List Value) (s : KS) (v : Value) (s' : KS) (hs : wfS s) (hix : primIx f = 16) (h : prim16 args s = some (v, s')) : wfS s' ∧ Prim f args.toArray (absS s) v (absS s') ∧ fnOK Try.prog f = true := by
  unfold prim16 at h
  split at h
  · rename_i cs
    obtain rfl := ix_16 hix
    obtain ⟨N, T, rfl, n1, n2, n3, n4, rfl, rfl⟩ := geo0_ok h
    refine ⟨hs, ?_, by kernel_rfl⟩
    exact pure_ok (fun w => gNodes_any N T w n1 n2 n4) (geo_args1 (geo_plain N T)) rfl
  · cases h
theorem prim18_ok (f : FuncId) (args : List Value) (s : KS) (v : Value) (s' : KS) (hs : wfS s) (hix : primIx f = 18) (h : prim18 args s = some (v, s')) : wfS s' ∧ Prim f args.toArray (absS s) v (absS s') ∧ fnOK Try.prog f = true := by
  unfold prim18 at h
  split at h
  · rename_i N T
    obtain rfl := ix_18 hix
    split at h
    · rename_i hc
      cases h
      simp only [Bool.and_eq_true] at hc
      obtain ⟨n1, n2, n3, n4⟩ := hc
      refine ⟨hs, ?_, by kernel_rfl⟩
      exact pure_ok (fun w => gNew_any N T w (Nat.le_of_ble_eq_true n1) (Nat.le_of_ble_eq_true n2) (Nat.le_of_ble_eq_true n3) (Nat.le_of_ble_eq_true n4)) (by rw [List.all_toArray]; rfl) (by simp [plainB, geoC])
    · cases h
  · cases h
theorem prim22_ok (f : FuncId) (args : List Value) (s : KS) (v : Value) (s' : KS) (hs : wfS s) (hix : primIx f = 22) (h : prim22 args s = some (v, s')) : wfS s' ∧ Prim f args.toArray (absS s) v (absS s') ∧ fnOK Try.prog f = true := by
  unfold prim22 at h
  split at h
  · rename_i cs
    obtain rfl := ix_22 hix
    obtain ⟨N, T, rfl, n1, n2, n3, n4, rfl, rfl⟩ := geo0_ok h
    refine ⟨hs, ?_, by kernel_rfl⟩
    rw [gatK_eq]
    exact pure_ok (fun w => gPool_any N T w n2 n4) (geo_args1 (geo_plain N T)) rfl
  · cases h
theorem prim31_ok (f : FuncId) (args : List Value) (s : KS) (v : Value) (s' : KS) (hs : wfS s) (hix : primIx f = 31) (h : prim31 args s = some (v, s')) : wfS s' ∧ Prim f args.toArray (absS s) v (absS s') ∧ fnOK Try.prog f = true := by
  unfold prim31 at h
  split at h
  · rename_i cs n
    obtain rfl := ix_31 hix
    obtain ⟨N, T, rfl, n1, n2, n3, n4, rfl, rfl⟩ := geo0_ok h
    refine ⟨hs, ?_, by kernel_rfl⟩
    rw [gatK_eq]
    exact pure_ok (fun w => gBin_any N T n w n2 n4) (geo_args2 (geo_plain N T)) rfl
  · cases h
theorem prim32_ok (f : FuncId) (args : List Value) (s : KS) (v : Value) (s' : KS) (hs : wfS s) (hix : primIx f = 32) (h : prim32 args s = some (v, s')) : wfS s' ∧ Prim f args.toArray (absS s) v (absS s') ∧ fnOK Try.prog f = true := by
  unfold prim32 at h
  split at h
  · rename_i cs n
    obtain rfl := ix_32 hix
    obtain ⟨N, T, rfl, n1, n2, n3, n4, rfl, rfl⟩ := geo0_ok h
    refine ⟨hs, ?_, by kernel_rfl⟩
    rw [gatK_eq]
    exact pure_ok (fun w => gAdds_any N T n w n2 n4) (geo_args2 (geo_plain N T)) rfl
  · cases h
theorem prim34_ok (f : FuncId) (args : List Value) (s : KS) (v : Value) (s' : KS) (hs : wfS s) (hix : primIx f = 34) (h : prim34 args s = some (v, s')) : wfS s' ∧ Prim f args.toArray (absS s) v (absS s') ∧ fnOK Try.prog f = true := by
  unfold prim34 at h
  split at h
  · rename_i cs n
    obtain rfl := ix_34 hix
    obtain ⟨N, T, rfl, n1, n2, n3, n4, rfl, rfl⟩ := geo0_ok h
    refine ⟨hs, ?_, by kernel_rfl⟩
    rw [gatK_eq]
    exact pure_ok (fun w => gPage_any N T n w n2 n4) (geo_args2 (geo_plain N T)) rfl
  · cases h
theorem prim35_ok (f : FuncId) (args : List Value) (s : KS) (v : Value) (s' : KS) (hs : wfS s) (hix : primIx f = 35) (h : prim35 args s = some (v, s')) : wfS s' ∧ Prim f args.toArray (absS s) v (absS s') ∧ fnOK Try.prog f = true := by
  unfold prim35 at h
  split at h
  · rename_i cs n
    obtain rfl := ix_35 hix
    obtain ⟨N, T, rfl, n1, n2, n3, n4, rfl, rfl⟩ := geo0_ok h
    refine ⟨hs, ?_, by kernel_rfl⟩
    rw [gatK_eq]
    exact pure_ok (fun w => gBits_any N T n w n2 n4) (geo_args2 (geo_plain N T)) rfl
  · cases h
theorem prim36_ok (f : FuncId) (args : List Value) (s : KS) (v : Value) (s' : KS) (hs : wfS s) (hix : primIx f = 36) (h : prim36 args s = some (v, s')) : wfS s' ∧ Prim f args.toArray (absS s) v (absS s') ∧ fnOK Try.prog f = true := by
  unfold prim36 at h
  split at h
  · rename_i cs n
    obtain rfl := ix_36 hix
    obtain ⟨N, T, rfl, n1, n2, n3, n4, rfl, rfl⟩ := geo0_ok h
    refine ⟨hs, ?_, by kernel_rfl⟩
    rw [gatK_eq]
    exact pure_ok (fun w => gRemote_any N T n w n2 n4) (geo_args2 (geo_plain N T)) rfl
  · cases h
theorem prim37_ok (f : FuncId) (args : List Value) (s : KS) (v : Value) (s' : KS) (hs : wfS s) (hix : primIx f = 37) (h : prim37 args s = some (v, s')) : wfS s' ∧ Prim f args.toArray (absS s) v (absS s') ∧ fnOK Try.prog f = true := by
  unfold prim37 at h
  split at h
  · rename_i cs n
    obtain rfl := ix_37 hix
    obtain ⟨N, T, rfl, n1, n2, n3, n4, rfl, rfl⟩ := geo0_ok h
    refine ⟨hs, ?_, by kernel_rfl⟩
    rw [gatK_eq]
    exact pure_ok (fun w => gLink_any N T n w n2 n4) (geo_args2 (geo_plain N T)) rfl
  · cases h
theorem prim39_ok (f : FuncId) (args : List Value) (s : KS) (v : Value) (s' : KS) (hs : wfS s) (hix : primIx f = 39) (h : prim39 args s = some (v, s')) : wfS s' ∧ Prim f args.toArray (absS s) v (absS s') ∧ fnOK Try.prog f = true := by
  unfold prim39 at h
  split at h
  · rename_i cs n
    obtain rfl := ix_39 hix
    obtain ⟨N, T, rfl, n1, n2, n3, n4, rfl, rfl⟩ := geo0_ok h
    refine ⟨hs, ?_, by kernel_rfl⟩
    rw [gatK_eq]
    exact pure_ok (fun w => gGone_any N T n w n2 n4) (geo_args2 (geo_plain N T)) rfl
  · cases h
theorem primK_ok (f : FuncId) (args : List Value) (s : KS) (v : Value) (s' : KS) (hs : wfS s) (h : primK f args s = some (v, s')) : wfS s' ∧ Prim f args.toArray (absS s) v (absS s') ∧ fnOK Try.prog f = true := by
  unfold primK at h
  split at h
  · rename_i hix; exact prim1_ok f args s v s' hs hix h
  · rename_i hix; exact prim2_ok f args s v s' hs hix h
  · rename_i hix; exact prim3_ok f args s v s' hs hix h
  · rename_i hix; exact prim4_ok f args s v s' hs hix h
  · rename_i hix; exact prim5_ok f args s v s' hs hix h
  · rename_i hix; exact prim6_ok f args s v s' hs hix h
  · rename_i hix; exact prim7_ok f args s v s' hs hix h
  · rename_i hix; exact prim8_ok f args s v s' hs hix h
  · rename_i hix; exact prim9_ok f args s v s' hs hix h
  · rename_i hix; exact prim10_ok f args s v s' hs hix h
  · rename_i hix; exact prim11_ok f args s v s' hs hix h
  · rename_i hix; exact prim12_ok f args s v s' hs hix h
  · rename_i hix; exact prim13_ok f args s v s' hs hix h
  · rename_i hix; exact prim14_ok f args s v s' hs hix h
  · rename_i hix; exact prim15_ok f args s v s' hs hix h
  · rename_i hix; exact prim16_ok f args s v s' hs hix h
  · rename_i hix; exact prim18_ok f args s v s' hs hix h
  · rename_i hix; exact prim22_ok f args s v s' hs hix h
  · rename_i hix; exact prim31_ok f args s v s' hs hix h
  · rename_i hix; exact prim32_ok f args s v s' hs hix h
  · rename_i hix; exact prim34_ok f args s v s' hs hix h
  · rename_i hix; exact prim35_ok f args s v s' hs hix h
  · rename_i hix; exact prim36_ok f args s v s' hs hix h
  · rename_i hix; exact prim37_ok f args s v s' hs hix h
  · rename_i hix; exact prim39_ok f args s v s' hs hix h
  · cases h
def OKw (kn : FuncId → List Value → Option Value) (hkn : ∀ f args v, kn f args = some v → ∀ S, Does OF f args.toArray [] S v S) : KF Try.prog OF KS where
  known := kn
  known_ok := hkn
  abs := absS
  wf := wfS
  cnt := List.length
  prim := primK
  cnt_ok := fun s _ => (absS_len s).symm
  prim_ok := primK_ok
def trueB {P : Program} {σ : Type} {X : Face P σ} {κ : Type} (K : KF P X κ) (s : κ) (f : FuncId) (n : Nat) : Bool := match P.funcs[f]? with
  | some g => (match goB g, g.body with
    | true, some c => (match Nat.ble g.ntmps 4000000, goK K n g [.code c] (manyT undef (depN g.ntmps)) [] s with
      | true, some (.bool b, _, _) => b
      | _, _ => false)
    | _, _ => false)
  | none => false
theorem trueB_goes {P : Program} {σ : Type} {X : Face P σ} {κ : Type} {K : KF P X κ} {s : κ} {f : FuncId} {n : Nat} (hs : K.wf s) (h : trueB K s f n = true) :
    ∃ g c h1 s', P.funcs[f]? = some g ∧ goB g = true ∧ g.body = some c ∧ K.wf s' ∧ Goes X g (fun x => x = .done (.bool true) h1 (K.abs s')) (.run (enterL g c #[]).1 (enterL g c #[]).2 (heapL []) (K.abs s)) := by
  unfold trueB at h
  split at h
  · rename_i g hf
    split at h
    · rename_i c hg hb
      split at h
      · rename_i b rows1 s1 hn hgo
        subst h
        have hd := depN_le (Nat.le_of_ble_eq_true hn)
        obtain ⟨g1, g2⟩ := goK_ok K n _ _ _ _ _ _ _ _ hd hs hgo
        refine ⟨g, c, heapL rows1, s1, hf, hg, hb, g1, ?_⟩
        rw [absT_many undef hd] at g2
        exact g2
      · cases h
    · cases h
  · cases h
theorem closed_lawK {kn : FuncId → List Value → Option Value} {hkn : ∀ f args v, kn f args = some v → ∀ S, Does OF f args.toArray [] S v S} {f : FuncId} {n : Nat} (h : trueB (OKw kn hkn) [] f n = true) : Law f #[] [] := by
  obtain ⟨g, c, h1, s', hf, hg, hb, _, G⟩ := trueB_goes (K := OKw kn hkn) (s := ([] : KS)) (fun ob hob => by cases hob) h
  exact ⟨g, c, hf, hg, hb, clo0, G.mono fun x hx => ⟨h1, _, hx⟩⟩
end Go.Proofs.Ytjdbknnacaacaaa
namespace Go.Proofs.Ytjdbknnacaacaaa
open Go Go.RowKit
set_option linter.unusedSimpArgs false
set_option linter.unusedVariables false
theorem hlt_of {S : St} {p : Nat} {ob : Ob} (h : S[p]? = some ob) : p < S.length := (List.getElem?_eq_some_iff.1 h).1
theorem hne_of {S : St} {p m : Nat} {a : Nat} {me : Int} {s : Nat} {ws : List UInt64} {bs : List UInt8} (h : S[p]? = some (.port a me s)) (hm : S[m]? = some (.mem ws bs)) : p ≠ m := by
  rintro rfl; rw [h] at hm; cases hm
theorem acc_p {S : St} {p m a : Nat} {me me' : Int} {s s' : Nat} {ws ws' : List UInt64} {bs bs' : List UInt8} (h : S[p]? = some (.port a me s)) (hm : S[m]? = some (.mem ws bs)) : (accS S p m me' s' ws' bs')[p]? = some (.port m me' s') := (accS_get h hm (hne_of h hm)).1
theorem acc_m {S : St} {p m a : Nat} {me me' : Int} {s s' : Nat} {ws ws' : List UInt64} {bs bs' : List UInt8} (h : S[p]? = some (.port a me s)) (hm : S[m]? = some (.mem ws bs)) : (accS S p m me' s' ws' bs')[m]? = some (.mem ws' bs') := (accS_get h hm (hne_of h hm)).2
theorem acc_acc {S : St} {p m : Nat} (hne : p ≠ m) {me me' : Int} {s s' : Nat} {ws ws' : List UInt64} {bs bs' : List UInt8} : accS (accS S p m me s ws bs) p m me' s' ws' bs' = accS S p m me' s' ws' bs' := by
  unfold accS
  rw [List.set_comm _ _ (Ne.symm hne), List.set_set, List.set_set]
theorem acc_same {S : St} {p m : Nat} {me : Int} {s : Nat} {ws : List UInt64} {bs : List UInt8} (h : S[p]? = some (.port m me s)) (hm : S[m]? = some (.mem ws bs)) : accS S p m me s ws bs = S := by
  unfold accS
  apply List.ext_getElem?
  intro j
  have h1 := hlt_of h
  have h2 := hlt_of hm
  rw [List.getElem?_set, List.getElem?_set]
  by_cases e1 : m = j
  · subst e1; rw [if_pos rfl, hm]; simp [h2]
  · rw [if_neg e1]
    by_cases e2 : p = j
    · subst e2; rw [if_pos rfl, h]; simp [h1]
    · rw [if_neg e2]
end Go.Proofs.Ytjdbknnacaacaaa
namespace Go.Proofs.Ytjdbknnacaacaaa
open Go Go.RowKit
set_option linter.unusedSimpArgs false
set_option linter.unusedVariables false
theorem w_id {n : Nat} (h : n < 18446744073709551616) : IntKind.u64.wrap (n : Int) = (n : Int) := by
  rw [IntKind.wrap_u64]; omega
theorem pow_le {m : Nat} (h : m ≤ 63) : 2 ^ m ≤ 9223372036854775808 := by
  have : (2 : Nat) ^ m ≤ 2 ^ 63 := Nat.pow_le_pow_right (by decide) h
  simpa using this
theorem shl_one {m : Nat} (h : m ≤ 63) : IntKind.u64.wrap (1 * 2 ^ min m 64) = ((2 ^ m : Nat) : Int) := by
  have h1 := pow_le h
  rw [show min m 64 = m from Nat.min_eq_left (by show m ≤ 64; omega), Int.one_mul, show ((2 : Int) ^ m) = ((2 ^ m : Nat) : Int) by push_cast; rfl]
  exact w_id (by omega)
theorem sub_one {m : Nat} (h : m ≤ 63) : IntKind.u64.wrap (((2 ^ m : Nat) : Int) - 1) = ((2 ^ m - 1 : Nat) : Int) := by
  have h1 := pow_le h
  have h0 : 0 < 2 ^ m := Nat.pow_pos (by decide)
  rw [show (((2 ^ m : Nat) : Int) - 1) = ((2 ^ m - 1 : Nat) : Int) by omega]
  exact w_id (by omega)
theorem bv_nat {n : Nat} (h : n < 18446744073709551616) : (BitVec.ofInt 64 (n : Int)).toNat = n := by
  show (BitVec.ofInt 64 (n : Int)).toNat = n
  rw [BitVec.toNat_ofInt]
  omega
theorem and_mask {n m : Nat} (hn : n < 18446744073709551616) (h : m ≤ 63) : andZ .u64 (n : Int) ((2 ^ m - 1 : Nat) : Int) = ((n % 2 ^ m : Nat) : Int) := by
  have h1 := pow_le h
  show IntKind.u64.wrap ((BitVec.ofInt 64 (n : Int) &&& BitVec.ofInt 64 ((2 ^ m - 1 : Nat) : Int)).toNat : Int) = _
  rw [BitVec.toNat_and, bv_nat hn, bv_nat (by omega), Nat.and_two_pow_sub_one_eq_mod]
  exact w_id (Nat.lt_of_le_of_lt (Nat.mod_le _ _) hn)
theorem shl_at {n a : Nat} (h : a ≤ 63) (hn : n * 2 ^ a < 18446744073709551616) : IntKind.u64.wrap ((n : Int) * 2 ^ min a 64) = ((n * 2 ^ a : Nat) : Int) := by
  rw [show min a 64 = a from Nat.min_eq_left (by show a ≤ 64; omega), show ((n : Int) * 2 ^ a) = ((n * 2 ^ a : Nat) : Int) by push_cast; rfl]
  exact w_id hn
theorem shr_at {n a : Nat} (h : a ≤ 63) : Int.fdiv (n : Int) (2 ^ min a 64) = ((n / 2 ^ a : Nat) : Int) := by
  rw [show min a 64 = a from Nat.min_eq_left (by show a ≤ 64; omega), Int.fdiv_eq_ediv_of_nonneg _ (by exact Int.le_of_lt (Int.pow_pos (by decide))), show ((2 : Int) ^ a) = ((2 ^ a : Nat) : Int) by push_cast; rfl]
  exact (Int.natCast_ediv n (2 ^ a)).symm
theorem or_add {a b i : Nat} (hb : b < 2 ^ i) (h : a * 2 ^ i + b < 18446744073709551616) : orZ .u64 (b : Int) ((a * 2 ^ i : Nat) : Int) = ((b + a * 2 ^ i : Nat) : Int) := by
  show IntKind.u64.wrap ((BitVec.ofInt 64 (b : Int) ||| BitVec.ofInt 64 ((a * 2 ^ i : Nat) : Int)).toNat : Int) = _
  rw [BitVec.toNat_or, bv_nat (by omega), bv_nat (by omega), Nat.or_comm, Nat.mul_comm a, ← Nat.two_pow_add_eq_or_of_lt hb, Nat.add_comm]
  exact w_id (by rw [Nat.mul_comm a] at h; omega)
theorem field_lt {n a m : Nat} (ha : a + m ≤ 64) : n % 2 ^ m * 2 ^ a < 18446744073709551616 := by
  have h1 : n % 2 ^ m < 2 ^ m := Nat.mod_lt _ (Nat.pow_pos (by decide))
  have h2 : n % 2 ^ m * 2 ^ a < 2 ^ m * 2 ^ a := Nat.mul_lt_mul_of_pos_right h1 (Nat.pow_pos (by decide))
  have h3 : (2 : Nat) ^ m * 2 ^ a = 2 ^ (a + m) := by rw [Nat.add_comm, Nat.pow_add]
  have h4 : (2 : Nat) ^ (a + m) ≤ 2 ^ 64 := Nat.pow_le_pow_right (by decide) ha
  have h5 : (2 : Nat) ^ 64 = 18446744073709551616 := by decide
  omega
theorem field_int (S : St) (n a m : Nat) (hn : n ≤ 9223372036854775807) (hm : m ≤ 63) (ha : a ≤ 63) (ham : a + m ≤ 64) :
    Does OF 104 #[.int .i64 n, .int .i64 a, .int .i64 m] [] S (.int .u64 ((n % 2 ^ m * 2 ^ a : Nat) : Int)) S := by
  refine Does.mk Try.func104 rfl rfl ?clo ?hand ?_
  case clo => exact clo3 iclo iclo iclo
  case hand => exact Hand.plain rfl
  rw [Try.ntmps104]; simp only [List.size_toArray, List.length_cons, List.length_nil, List.replicate, List.cons_append, List.nil_append]
  have e0 := w_id (show n < 18446744073709551616 by omega)
  have e1 := shl_one hm
  have e2 := sub_one hm
  have e3 := and_mask (show n < 18446744073709551616 by omega) hm
  have e4 := shl_at ha (field_lt (n := n) ham)
  refine viaF (And.intro e0 (And.intro e1 (And.intro e2 (And.intro e3 e4)))) ?_
  refine Goes.fin rfl (by simp (disch := (first | omega | (simp only [heapL_next, List.length_cons, List.length_nil, List.size_toArray, geo_len] <;> omega) | fail)) only [go_sem, resA, res1A, Try.results104] <;> rfl) ?_
  rfl
theorem field_u32 (S : St) (n a m : Nat) (hn : n ≤ 4294967295) (hm : m ≤ 63) (ha : a ≤ 63) (ham : a + m ≤ 64) :
    Does OF 103 #[.int .u32 n, .int .i64 a, .int .i64 m] [] S (.int .u64 ((n % 2 ^ m * 2 ^ a : Nat) : Int)) S := by
  refine Does.mk Try.func103 rfl rfl ?clo ?hand ?_
  case clo => exact clo3 iclo iclo iclo
  case hand => exact Hand.plain rfl
  rw [Try.ntmps103]; simp only [List.size_toArray, List.length_cons, List.length_nil, List.replicate, List.cons_append, List.nil_append]
  have e0 := w_id (show n < 18446744073709551616 by omega)
  have e1 := shl_one hm
  have e2 := sub_one hm
  have e3 := and_mask (show n < 18446744073709551616 by omega) hm
  have e4 := shl_at ha (field_lt (n := n) ham)
  refine viaF (And.intro e0 (And.intro e1 (And.intro e2 (And.intro e3 e4)))) ?_
  refine Goes.fin rfl (by simp (disch := (first | omega | (simp only [heapL_next, List.length_cons, List.length_nil, List.size_toArray, geo_len] <;> omega) | fail)) only [go_sem, resA, res1A, Try.results103] <;> rfl) ?_
  rfl
theorem of_int (S : St) (x : UInt64) (a m : Nat) (hm : m ≤ 62) (ha : a ≤ 63) :
    Does OF 94 #[.int .u64 (x.toNat : Int), .int .i64 a, .int .i64 m] [] S (.int .i64 ((x.toNat / 2 ^ a % 2 ^ m : Nat) : Int)) S := by
  refine Does.mk Try.func94 rfl rfl ?clo ?hand ?_
  case clo => exact clo3 iclo iclo iclo
  case hand => exact Hand.plain rfl
  rw [Try.ntmps94]; simp only [List.size_toArray, List.length_cons, List.length_nil, List.replicate, List.cons_append, List.nil_append]
  have hx := x.toNat_lt
  have hd : x.toNat / 2 ^ a < 18446744073709551616 := Nat.lt_of_le_of_lt (Nat.div_le_self _ _) hx
  have e0 := shr_at (n := x.toNat) ha
  have e1 := shl_one (m := m) (by omega)
  have e2 := sub_one (m := m) (by omega)
  have e3 := and_mask hd (show m ≤ 63 by omega)
  have h4 : x.toNat / 2 ^ a % 2 ^ m < 2 ^ m := Nat.mod_lt _ (Nat.pow_pos (by decide))
  have h5 : (2 : Nat) ^ m ≤ 2 ^ 62 := Nat.pow_le_pow_right (by decide) hm
  have h6 : (2 : Nat) ^ 62 = 4611686018427387904 := by decide
  have e4 : IntKind.i64.wrap ((x.toNat / 2 ^ a % 2 ^ m : Nat) : Int) = ((x.toNat / 2 ^ a % 2 ^ m : Nat) : Int) := wrap_i64 (by omega) (by omega)
  refine viaF (And.intro e0 (And.intro e1 (And.intro e2 (And.intro e3 e4)))) ?_
  refine Goes.fin rfl (by simp (disch := (first | omega | (simp only [heapL_next, List.length_cons, List.length_nil, List.size_toArray, geo_len] <;> omega) | fail)) only [go_sem, resA, res1A, Try.results94] <;> rfl) ?_
  rfl
theorem of_u32 (S : St) (x : UInt64) (a m : Nat) (hm : m ≤ 32) (ha : a ≤ 63) :
    Does OF 93 #[.int .u64 (x.toNat : Int), .int .i64 a, .int .i64 m] [] S (.int .u32 ((x.toNat / 2 ^ a % 2 ^ m : Nat) : Int)) S := by
  refine Does.mk Try.func93 rfl rfl ?clo ?hand ?_
  case clo => exact clo3 iclo iclo iclo
  case hand => exact Hand.plain rfl
  rw [Try.ntmps93]; simp only [List.size_toArray, List.length_cons, List.length_nil, List.replicate, List.cons_append, List.nil_append]
  have hx := x.toNat_lt
  have hd : x.toNat / 2 ^ a < 18446744073709551616 := Nat.lt_of_le_of_lt (Nat.div_le_self _ _) hx
  have e0 := shr_at (n := x.toNat) ha
  have e1 := shl_one (m := m) (by omega)
  have e2 := sub_one (m := m) (by omega)
  have e3 := and_mask hd (show m ≤ 63 by omega)
  have h4 : x.toNat / 2 ^ a % 2 ^ m < 2 ^ m := Nat.mod_lt _ (Nat.pow_pos (by decide))
  have h5 : (2 : Nat) ^ m ≤ 2 ^ 32 := Nat.pow_le_pow_right (by decide) hm
  have h6 : (2 : Nat) ^ 32 = 4294967296 := by decide
  have e4 : IntKind.u32.wrap ((x.toNat / 2 ^ a % 2 ^ m : Nat) : Int) = ((x.toNat / 2 ^ a % 2 ^ m : Nat) : Int) := by rw [IntKind.wrap_u32]; omega
  refine viaF (And.intro e0 (And.intro e1 (And.intro e2 (And.intro e3 e4)))) ?_
  refine Goes.fin rfl (by simp (disch := (first | omega | (simp only [heapL_next, List.length_cons, List.length_nil, List.size_toArray, geo_len] <;> omega) | fail)) only [go_sem, resA, res1A, Try.results93] <;> rfl) ?_
  rfl
end Go.Proofs.Ytjdbknnacaacaaa
namespace Go.Proofs.Ytjdbknnacaacaaa
open Go Go.RowKit
set_option linter.unusedSimpArgs false
set_option linter.unusedVariables false
def refV (i : Nat) (m : Bool) (v : Nat) : Value := .agg #[.int .i64 i, .bool m, .int .u32 v]
theorem refV_plain (i : Nat) (m : Bool) (v : Nat) : plainB (refV i m v) = true := by simp [refV, plainB]
def mN (m : Bool) : Nat := match m with | true => 16777216 | false => 0
def rN (i : Nat) (m : Bool) (v : Nat) : Nat := i + v * 2 ^ 32 + mN m
theorem rN_t (i v : Nat) : rN i true v = i + v * 2 ^ 32 + mN true := rfl
theorem rN_f (i v : Nat) : rN i false v = i + v * 2 ^ 32 + mN false := rfl
theorem mN_t : mN true = 16777216 := rfl
theorem mN_f : mN false = 0 := rfl
theorem or_bit {a b : Nat} (ha : a < 16777216) (hb : b < 4294967296) : orZ .u64 ((a + b * 2 ^ 32 : Nat) : Int) 16777216 = ((a + b * 2 ^ 32 + 16777216 : Nat) : Int) := by
  show IntKind.u64.wrap ((BitVec.ofInt 64 ((a + b * 2 ^ 32 : Nat) : Int) ||| BitVec.ofInt 64 16777216).toNat : Int) = _
  rw [BitVec.toNat_or, bv_nat (by omega)]
  have e : (BitVec.ofInt 64 16777216).toNat = 16777216 := by decide
  rw [e]
  have h1 : (a + b * 2 ^ 32) ||| 16777216 = a + b * 2 ^ 32 + 16777216 := by
    have k1 : a + b * 2 ^ 32 = 2 ^ 32 * b ||| a := by rw [← Nat.two_pow_add_eq_or_of_lt (by omega)]; omega
    have k2 : (a ||| 16777216) = 16777216 + a := by
      have := Nat.two_pow_add_eq_or_of_lt (i := 24) (b := a) (by omega) 1
      rw [Nat.or_comm]; simpa using this.symm
    rw [k1, Nat.or_assoc, k2, ← Nat.two_pow_add_eq_or_of_lt (by omega), ← Nat.two_pow_add_eq_or_of_lt (by omega)]
    omega
  rw [h1]
  exact w_id (by omega)
set_option maxHeartbeats 1000000 in
theorem rWord_aux (S : St) (i : Nat) (m : Bool) (v : Nat) (q : Int) (hi : i < 16777216) (hv : v < 4294967296) (hq : (match m with | true => orZ .u64 ((i + v * 2 ^ 32 : Nat) : Int) 16777216 | false => ((i + v * 2 ^ 32 : Nat) : Int)) = q) :
    Does OF 74 #[refV i m v] [] S (.int .u64 q) S := by
  refine Does.mk Try.func74 rfl rfl ?clo ?hand ?_
  case clo => exact clo1 (Clo.plain (refV_plain i m v))
  case hand => exact Hand.plain rfl
  rw [Try.ntmps74]; simp only [List.size_toArray, List.length_cons, List.length_nil, List.replicate, List.cons_append, List.nil_append]
  unfold refV
  refine via ?_
  ((first | refine qc1 rfl rfl fun K hK => ?_ | refine qc3 rfl rfl fun K hK => ?_); simp (disch := (first | omega | (simp only [sz] <;> omega) | fail)) only [go_sem]; refine ⟨_, _, field_int _ i 0 24 (by omega) (by decide) (by decide) (by decide), ?_⟩; (try simp only [go_sem]); with_reducible refine hK _ _ ?_; clear hK K)
  rw [show i % 2 ^ 24 * 2 ^ 0 = i by omega]
  refine via ?_
  ((first | refine qc1 rfl rfl fun K hK => ?_ | refine qc3 rfl rfl fun K hK => ?_); simp (disch := (first | omega | (simp only [sz] <;> omega) | fail)) only [go_sem]; refine ⟨_, _, field_u32 _ v 32 32 (by omega) (by decide) (by decide) (by decide), ?_⟩; (try simp only [go_sem]); with_reducible refine hK _ _ ?_; clear hK K)
  rw [show v % 2 ^ 32 * 2 ^ 32 = v * 2 ^ 32 by omega]
  have e1 := or_add (a := v) (b := i) (i := 32) (by omega) (by omega)
  refine viaF e1 ?_
  cases m with
  | true =>
    simp only at hq
    refine viaF hq ?_
    refine Goes.fin rfl (by simp (disch := (first | omega | (simp only [heapL_next, List.length_cons, List.length_nil, List.size_toArray, geo_len] <;> omega) | fail)) only [go_sem, resA, res1A, Try.results74] <;> rfl) ?_
    rfl
  | false =>
    simp only at hq
    refine viaF hq ?_
    refine Goes.fin rfl (by simp (disch := (first | omega | (simp only [heapL_next, List.length_cons, List.length_nil, List.size_toArray, geo_len] <;> omega) | fail)) only [go_sem, resA, res1A, Try.results74] <;> rfl) ?_
    rfl
theorem rWord_does (S : St) (i : Nat) (m : Bool) (v : Nat) (hi : i < 16777216) (hv : v < 4294967296) :
    Does OF 74 #[refV i m v] [] S (.int .u64 (rN i m v : Int)) S := by
  refine rWord_aux S i m v _ hi hv ?_
  cases m with
  | true => show orZ .u64 ((i + v * 2 ^ 32 : Nat) : Int) 16777216 = _; rw [or_bit hi hv, rN_t, mN_t]
  | false => show ((i + v * 2 ^ 32 : Nat) : Int) = _; rw [rN_f, mN_f, Nat.add_zero]
def bB (x : Nat) : Bool := Nat.beq x 1
set_option maxHeartbeats 1000000 in
theorem refOf_does (S : St) (x : UInt64) :
    Does OF 71 #[.int .u64 (x.toNat : Int)] [] S (refV (x.toNat / 2 ^ 0 % 2 ^ 24) (bB (x.toNat / 2 ^ 24 % 2 ^ 1)) (x.toNat / 2 ^ 32 % 2 ^ 32)) S := by
  refine Does.mk Try.func71 rfl rfl ?clo ?hand ?_
  case clo => exact clo1 iclo
  case hand => exact Hand.plain (refV_plain _ _ _)
  rw [Try.ntmps71]; simp only [List.size_toArray, List.length_cons, List.length_nil, List.replicate, List.cons_append, List.nil_append]
  have e1 : (((x.toNat / 2 ^ 24 % 2 ^ 1 : Nat) : Int) == 1) = bB (x.toNat / 2 ^ 24 % 2 ^ 1) := by
    rw [Bool.eq_iff_iff, beq_iff_eq]
    unfold bB
    rw [Nat.beq_eq]
    omega
  refine via ?_
  ((first | refine qc1 rfl rfl fun K hK => ?_ | refine qc3 rfl rfl fun K hK => ?_); simp (disch := (first | omega | (simp only [sz] <;> omega) | fail)) only [go_sem]; refine ⟨_, _, of_int _ x 0 24 (by decide) (by decide), ?_⟩; (try simp only [go_sem]); with_reducible refine hK _ _ ?_; clear hK K)
  refine via ?_
  ((first | refine qc1 rfl rfl fun K hK => ?_ | refine qc3 rfl rfl fun K hK => ?_); simp (disch := (first | omega | (simp only [sz] <;> omega) | fail)) only [go_sem]; refine ⟨_, _, of_int _ x 24 1 (by decide) (by decide), ?_⟩; (try simp only [go_sem]); with_reducible refine hK _ _ ?_; clear hK K)
  refine viaF e1 ?_
  ((first | refine qc1 rfl rfl fun K hK => ?_ | refine qc3 rfl rfl fun K hK => ?_); simp (disch := (first | omega | (simp only [sz] <;> omega) | fail)) only [go_sem]; refine ⟨_, _, of_u32 _ x 32 32 (by decide) (by decide), ?_⟩; (try simp only [go_sem]); with_reducible refine hK _ _ ?_; clear hK K)
  refine via ?_
  refine Goes.fin rfl (by simp (disch := (first | omega | (simp only [heapL_next, List.length_cons, List.length_nil, List.size_toArray, geo_len] <;> omega) | fail)) only [go_sem, resA, res1A, Try.results71] <;> rfl) ?_
  rfl
def pgV (k n c o : Nat) : Value := .agg #[.int .i64 k, .int .i64 n, .int .i64 c, .int .i64 o]
theorem pgV_plain (k n c o : Nat) : plainB (pgV k n c o) = true := by simp [pgV, plainB]
def pgN (k n c o : Nat) : Nat := k + n * 2 ^ 3 + c * 2 ^ 13 + o * 2 ^ 16
set_option maxHeartbeats 1000000 in
theorem pgWord_does (S : St) (k n c o : Nat) (hk : k < 8) (hn : n < 1024) (hc : c < 4) (ho : o < 128) :
    Does OF 54 #[pgV k n c o] [] S (.int .u64 (pgN k n c o : Int)) S := by
  refine Does.mk Try.func54 rfl rfl ?clo ?hand ?_
  case clo => exact clo1 (Clo.plain (pgV_plain k n c o))
  case hand => exact Hand.plain rfl
  rw [Try.ntmps54]; simp only [List.size_toArray, List.length_cons, List.length_nil, List.replicate, List.cons_append, List.nil_append]
  unfold pgV
  refine via ?_
  ((first | refine qc1 rfl rfl fun K hK => ?_ | refine qc3 rfl rfl fun K hK => ?_); simp (disch := (first | omega | (simp only [sz] <;> omega) | fail)) only [go_sem]; refine ⟨_, _, field_int _ k 0 3 (by omega) (by decide) (by decide) (by decide), ?_⟩; (try simp only [go_sem]); with_reducible refine hK _ _ ?_; clear hK K)
  rw [show k % 2 ^ 3 * 2 ^ 0 = k by omega]
  refine via ?_
  ((first | refine qc1 rfl rfl fun K hK => ?_ | refine qc3 rfl rfl fun K hK => ?_); simp (disch := (first | omega | (simp only [sz] <;> omega) | fail)) only [go_sem]; refine ⟨_, _, field_int _ n 3 10 (by omega) (by decide) (by decide) (by decide), ?_⟩; (try simp only [go_sem]); with_reducible refine hK _ _ ?_; clear hK K)
  rw [show n % 2 ^ 10 * 2 ^ 3 = n * 2 ^ 3 by omega]
  have e1 := or_add (a := n) (b := k) (i := 3) (by omega) (by omega)
  refine viaF e1 ?_
  ((first | refine qc1 rfl rfl fun K hK => ?_ | refine qc3 rfl rfl fun K hK => ?_); simp (disch := (first | omega | (simp only [sz] <;> omega) | fail)) only [go_sem]; refine ⟨_, _, field_int _ c 13 2 (by omega) (by decide) (by decide) (by decide), ?_⟩; (try simp only [go_sem]); with_reducible refine hK _ _ ?_; clear hK K)
  rw [show c % 2 ^ 2 * 2 ^ 13 = c * 2 ^ 13 by omega]
  have e2 := or_add (a := c) (b := k + n * 2 ^ 3) (i := 13) (by omega) (by omega)
  refine viaF e2 ?_
  ((first | refine qc1 rfl rfl fun K hK => ?_ | refine qc3 rfl rfl fun K hK => ?_); simp (disch := (first | omega | (simp only [sz] <;> omega) | fail)) only [go_sem]; refine ⟨_, _, field_int _ o 16 7 (by omega) (by decide) (by decide) (by decide), ?_⟩; (try simp only [go_sem]); with_reducible refine hK _ _ ?_; clear hK K)
  rw [show o % 2 ^ 7 * 2 ^ 16 = o * 2 ^ 16 by omega]
  have e3 := or_add (a := o) (b := k + n * 2 ^ 3 + c * 2 ^ 13) (i := 16) (by omega) (by omega)
  refine viaF e3 ?_
  refine Goes.fin rfl (by simp (disch := (first | omega | (simp only [heapL_next, List.length_cons, List.length_nil, List.size_toArray, geo_len] <;> omega) | fail)) only [go_sem, resA, res1A, Try.results54] <;> rfl) ?_
  rfl
set_option maxHeartbeats 1000000 in
theorem pageOf_does (S : St) (x : UInt64) :
    Does OF 105 #[.int .u64 (x.toNat : Int)] [] S (pgV (x.toNat / 2 ^ 0 % 2 ^ 3) (x.toNat / 2 ^ 3 % 2 ^ 10) (x.toNat / 2 ^ 13 % 2 ^ 2) (x.toNat / 2 ^ 16 % 2 ^ 7)) S := by
  refine Does.mk Try.func105 rfl rfl ?clo ?hand ?_
  case clo => exact clo1 iclo
  case hand => exact Hand.plain (pgV_plain _ _ _ _)
  rw [Try.ntmps105]; simp only [List.size_toArray, List.length_cons, List.length_nil, List.replicate, List.cons_append, List.nil_append]
  refine via ?_
  ((first | refine qc1 rfl rfl fun K hK => ?_ | refine qc3 rfl rfl fun K hK => ?_); simp (disch := (first | omega | (simp only [sz] <;> omega) | fail)) only [go_sem]; refine ⟨_, _, of_int _ x 0 3 (by decide) (by decide), ?_⟩; (try simp only [go_sem]); with_reducible refine hK _ _ ?_; clear hK K)
  refine via ?_
  ((first | refine qc1 rfl rfl fun K hK => ?_ | refine qc3 rfl rfl fun K hK => ?_); simp (disch := (first | omega | (simp only [sz] <;> omega) | fail)) only [go_sem]; refine ⟨_, _, of_int _ x 3 10 (by decide) (by decide), ?_⟩; (try simp only [go_sem]); with_reducible refine hK _ _ ?_; clear hK K)
  refine via ?_
  ((first | refine qc1 rfl rfl fun K hK => ?_ | refine qc3 rfl rfl fun K hK => ?_); simp (disch := (first | omega | (simp only [sz] <;> omega) | fail)) only [go_sem]; refine ⟨_, _, of_int _ x 13 2 (by decide) (by decide), ?_⟩; (try simp only [go_sem]); with_reducible refine hK _ _ ?_; clear hK K)
  refine via ?_
  ((first | refine qc1 rfl rfl fun K hK => ?_ | refine qc3 rfl rfl fun K hK => ?_); simp (disch := (first | omega | (simp only [sz] <;> omega) | fail)) only [go_sem]; refine ⟨_, _, of_int _ x 16 7 (by decide) (by decide), ?_⟩; (try simp only [go_sem]); with_reducible refine hK _ _ ?_; clear hK K)
  refine via ?_
  refine Goes.fin rfl (by simp (disch := (first | omega | (simp only [heapL_next, List.length_cons, List.length_nil, List.size_toArray, geo_len] <;> omega) | fail)) only [go_sem, resA, res1A, Try.results105] <;> rfl) ?_
  rfl
theorem gHead_does (S : St) (N T : Nat) (a b : Int) (hN : N ≤ 256) (hT : T ≤ 64) (hb : b ≤ 9223372036854775807) :
    Does OF 70 #[.agg (geoC N T), .int .i64 a, .int .i64 b] [] S (.int .i64 (gat N T 13 (gin a b 4))) S := by
  refine Does.mk Try.func70 rfl rfl ?clo ?hand ?_
  case clo => exact clo3 gclo iclo iclo
  case hand => exact Hand.plain rfl
  rw [Try.ntmps70]; simp only [List.size_toArray, List.length_cons, List.length_nil, List.replicate, List.cons_append, List.nil_append]
  refine via ?_
  ((first | refine qp1 rfl rfl fun K hK => ?_ | refine qp3 rfl rfl fun K hK => ?_); simp (disch := (first | omega | (simp only [sz] <;> omega) | fail)) only [go_sem]; refine ⟨_, _, qpu fun w => in_any a b 4 w hb (by omega) (by omega), ?_⟩; (try simp only [go_sem]); with_reducible refine hK _ _ ?_; clear hK K)
  refine via ?_
  ((first | refine qp1 rfl rfl fun K hK => ?_ | refine qp3 rfl rfl fun K hK => ?_); simp (disch := (first | omega | (simp only [sz] <;> omega) | fail)) only [go_sem]; refine ⟨_, _, qpu fun w => at_any N T 13 13 (gin a b 4) w rfl (by omega) hN hT, ?_⟩; (try simp only [go_sem]); with_reducible refine hK _ _ ?_; clear hK K)
  refine via ?_
  refine Goes.fin rfl (by simp (disch := (first | omega | (simp only [heapL_next, List.length_cons, List.length_nil, List.size_toArray, geo_len] <;> omega) | fail)) only [go_sem, resA, res1A, Try.results70] <;> rfl) ?_
  rfl
theorem gHazard_does (S : St) (N T : Nat) (a b : Int) (hN : N ≤ 256) (hT : T ≤ 64) (hb : b ≤ 9223372036854775807) :
    Does OF 26 #[.agg (geoC N T), .int .i64 a, .int .i64 b] [] S (.int .i64 (gat N T 14 (gin a b 2))) S := by
  refine Does.mk Try.func26 rfl rfl ?clo ?hand ?_
  case clo => exact clo3 gclo iclo iclo
  case hand => exact Hand.plain rfl
  rw [Try.ntmps26]; simp only [List.size_toArray, List.length_cons, List.length_nil, List.replicate, List.cons_append, List.nil_append]
  refine via ?_
  ((first | refine qp1 rfl rfl fun K hK => ?_ | refine qp3 rfl rfl fun K hK => ?_); simp (disch := (first | omega | (simp only [sz] <;> omega) | fail)) only [go_sem]; refine ⟨_, _, qpu fun w => in_any a b 2 w hb (by omega) (by omega), ?_⟩; (try simp only [go_sem]); with_reducible refine hK _ _ ?_; clear hK K)
  refine via ?_
  ((first | refine qp1 rfl rfl fun K hK => ?_ | refine qp3 rfl rfl fun K hK => ?_); simp (disch := (first | omega | (simp only [sz] <;> omega) | fail)) only [go_sem]; refine ⟨_, _, qpu fun w => at_any N T 14 14 (gin a b 2) w rfl (by omega) hN hT, ?_⟩; (try simp only [go_sem]); with_reducible refine hK _ _ ?_; clear hK K)
  refine via ?_
  refine Goes.fin rfl (by simp (disch := (first | omega | (simp only [heapL_next, List.length_cons, List.length_nil, List.size_toArray, geo_len] <;> omega) | fail)) only [go_sem, resA, res1A, Try.results26] <;> rfl) ?_
  rfl
theorem gRoom_does (S : St) (N T : Nat) (hT : T ≤ 64) :
    Does OF 113 #[.agg (geoC N T)] [] S (.int .i64 ((2 * T + 2 : Nat) : Int)) S := by
  refine Does.mk Try.func113 rfl rfl ?clo ?hand ?_
  case clo => exact clo1 gclo
  case hand => exact Hand.plain rfl
  rw [Try.ntmps113]; simp only [List.size_toArray, List.length_cons, List.length_nil, List.replicate, List.cons_append, List.nil_append]
  have e1 : IntKind.i64.wrap (2 * (T : Int)) = ((2 * T : Nat) : Int) := by rw [wrap_i64 (by omega) (by omega)]; push_cast; rfl
  have e2 : IntKind.i64.wrap (((2 * T : Nat) : Int) + 2) = ((2 * T + 2 : Nat) : Int) := by rw [wrap_i64 (by omega) (by omega)]; push_cast; rfl
  have e3 : (geoC N T).toList[1]? = some (.int .i64 T) := by have := geoC_1 N T; simpa using this
  refine viaF (And.intro e1 (And.intro e2 e3)) ?_
  refine Goes.fin rfl (by simp (disch := (first | omega | (simp only [heapL_next, List.length_cons, List.length_nil, List.size_toArray, geo_len] <;> omega) | fail)) only [go_sem, resA, res1A, Try.results113] <;> rfl) ?_
  rfl
theorem gRetired_does (S : St) (N T : Nat) (a b : Int) (hN : N ≤ 256) (hT : T ≤ 64) (hb : b ≤ 9223372036854775807) :
    Does OF 123 #[.agg (geoC N T), .int .i64 a, .int .i64 b] [] S (.int .i64 (gat N T 16 (gin a b ((2 * T + 2 : Nat) : Int)))) S := by
  refine Does.mk Try.func123 rfl rfl ?clo ?hand ?_
  case clo => exact clo3 gclo iclo iclo
  case hand => exact Hand.plain rfl
  rw [Try.ntmps123]; simp only [List.size_toArray, List.length_cons, List.length_nil, List.replicate, List.cons_append, List.nil_append]
  refine via ?_
  ((first | refine qc1 rfl rfl fun K hK => ?_ | refine qc3 rfl rfl fun K hK => ?_); simp (disch := (first | omega | (simp only [sz] <;> omega) | fail)) only [go_sem]; refine ⟨_, _, gRoom_does S N T hT, ?_⟩; (try simp only [go_sem]); with_reducible refine hK _ _ ?_; clear hK K)
  refine via ?_
  ((first | refine qp1 rfl rfl fun K hK => ?_ | refine qp3 rfl rfl fun K hK => ?_); simp (disch := (first | omega | (simp only [sz] <;> omega) | fail)) only [go_sem]; refine ⟨_, _, qpu fun w => in_any a b ((2 * T + 2 : Nat) : Int) w hb (by omega) (by omega), ?_⟩; (try simp only [go_sem]); with_reducible refine hK _ _ ?_; clear hK K)
  refine via ?_
  ((first | refine qp1 rfl rfl fun K hK => ?_ | refine qp3 rfl rfl fun K hK => ?_); simp (disch := (first | omega | (simp only [sz] <;> omega) | fail)) only [go_sem]; refine ⟨_, _, qpu fun w => at_any N T 16 16 (gin a b ((2 * T + 2 : Nat) : Int)) w rfl (by omega) hN hT, ?_⟩; (try simp only [go_sem]); with_reducible refine hK _ _ ?_; clear hK K)
  refine via ?_
  refine Goes.fin rfl (by simp (disch := (first | omega | (simp only [heapL_next, List.length_cons, List.length_nil, List.size_toArray, geo_len] <;> omega) | fail)) only [go_sem, resA, res1A, Try.results123] <;> rfl) ?_
  rfl
theorem gNext_does (S : St) (N T : Nat) (a : Int) (hN : N ≤ 256) (hT : T ≤ 64) (h0 : -9223372036854775807 ≤ a) (h1 : a ≤ 9223372036854775807) :
    Does OF 73 #[.agg (geoC N T), .int .i64 a] [] S (.int .i64 (gat N T 17 (gin (a - 1) 0 1))) S := by
  refine Does.mk Try.func73 rfl rfl ?clo ?hand ?_
  case clo => exact clo2 gclo iclo
  case hand => exact Hand.plain rfl
  rw [Try.ntmps73]; simp only [List.size_toArray, List.length_cons, List.length_nil, List.replicate, List.cons_append, List.nil_append]
  have e1 : IntKind.i64.wrap (a - 1) = a - 1 := wrap_i64 (by omega) (by omega)
  refine viaF e1 ?_
  ((first | refine qp1 rfl rfl fun K hK => ?_ | refine qp3 rfl rfl fun K hK => ?_); simp (disch := (first | omega | (simp only [sz] <;> omega) | fail)) only [go_sem]; refine ⟨_, _, qpu fun w => in_any (a - 1) 0 1 w (by omega) (by omega) (by omega), ?_⟩; (try simp only [go_sem]); with_reducible refine hK _ _ ?_; clear hK K)
  refine via ?_
  ((first | refine qp1 rfl rfl fun K hK => ?_ | refine qp3 rfl rfl fun K hK => ?_); simp (disch := (first | omega | (simp only [sz] <;> omega) | fail)) only [go_sem]; refine ⟨_, _, qpu fun w => at_any N T 17 17 (gin (a - 1) 0 1) w rfl (by omega) hN hT, ?_⟩; (try simp only [go_sem]); with_reducible refine hK _ _ ?_; clear hK K)
  refine via ?_
  refine Goes.fin rfl (by simp (disch := (first | omega | (simp only [heapL_next, List.length_cons, List.length_nil, List.size_toArray, geo_len] <;> omega) | fail)) only [go_sem, resA, res1A, Try.results73] <;> rfl) ?_
  rfl
theorem gItem_does (S : St) (N T : Nat) (a b : Int) (hN : N ≤ 256) (hT : T ≤ 64) (h0 : -9223372036854775807 ≤ a) (h1 : a ≤ 9223372036854775807) (hb : b ≤ 9223372036854775807) :
    Does OF 78 #[.agg (geoC N T), .int .i64 a, .int .i64 b] [] S (.int .i64 (gat N T 18 (gin (a - 1) b 8))) S := by
  refine Does.mk Try.func78 rfl rfl ?clo ?hand ?_
  case clo => exact clo3 gclo iclo iclo
  case hand => exact Hand.plain rfl
  rw [Try.ntmps78]; simp only [List.size_toArray, List.length_cons, List.length_nil, List.replicate, List.cons_append, List.nil_append]
  have e1 : IntKind.i64.wrap (a - 1) = a - 1 := wrap_i64 (by omega) (by omega)
  refine viaF e1 ?_
  ((first | refine qp1 rfl rfl fun K hK => ?_ | refine qp3 rfl rfl fun K hK => ?_); simp (disch := (first | omega | (simp only [sz] <;> omega) | fail)) only [go_sem]; refine ⟨_, _, qpu fun w => in_any (a - 1) b 8 w hb (by omega) (by omega), ?_⟩; (try simp only [go_sem]); with_reducible refine hK _ _ ?_; clear hK K)
  refine via ?_
  ((first | refine qp1 rfl rfl fun K hK => ?_ | refine qp3 rfl rfl fun K hK => ?_); simp (disch := (first | omega | (simp only [sz] <;> omega) | fail)) only [go_sem]; refine ⟨_, _, qpu fun w => at_any N T 18 18 (gin (a - 1) b 8) w rfl (by omega) hN hT, ?_⟩; (try simp only [go_sem]); with_reducible refine hK _ _ ?_; clear hK K)
  refine via ?_
  refine Goes.fin rfl (by simp (disch := (first | omega | (simp only [heapL_next, List.length_cons, List.length_nil, List.size_toArray, geo_len] <;> omega) | fail)) only [go_sem, resA, res1A, Try.results78] <;> rfl) ?_
  rfl
end Go.Proofs.Ytjdbknnacaacaaa
namespace Go.Proofs.Ytjdbknnacaacaaa
open Go Go.RowKit
set_option linter.unusedSimpArgs false
set_option linter.unusedVariables false
theorem Does.ex {f : FuncId} {g : Func} {c : Code} {args : Array Value} {l : List Blk} {S : St} {Q : Value → St → Prop} (hf : Try.prog.funcs[f]? = some g) (hg : goB g = true) (hb : g.body = some c) (hclo : ∀ u ∈ args.toList, Clo (Kn l.length (OF.cnt S)) u) (hv : ∀ v S', Q v S' → Hand (OF.cnt S') v)
    (hrun : Goes OF g (fun x => ∃ h1 v S', Q v S' ∧ x = .done v h1 S') (.run [.code c] (args.toList ++ List.replicate (g.ntmps - args.size) undef) (heapL (l.map some)) S)) : ∃ v S', Q v S' ∧ Does OF f args l S v S' := by
  obtain ⟨c', ⟨h1, v, S', hq, rfl⟩, G⟩ := hrun.out
  exact ⟨v, S', hq, g, c, h1, hf, hg, hb, hclo, hv v S' hq, G⟩
theorem Goes.finE {fn : Func} {todo : List Item} {tmps : List Value} {h : AHeap} {S : St} {Q : Value → St → Prop} {v : Value} (ht : retB todo = true) (hv : resA Try.prog fn tmps h = some v) (hS : Q v S) :
    Goes OF fn (fun x => ∃ h1 v S', Q v S' ∧ x = .done v h1 S') (.run todo tmps h S) := .ret ht hv (.here ⟨h, v, S, hS, rfl⟩)
end Go.Proofs.Ytjdbknnacaacaaa
namespace Go.Proofs.Ytjdbknnacaacaaa
open Go Go.RowKit
set_option linter.unusedSimpArgs false
set_option linter.unusedVariables false
theorem ld_w {ws : List UInt64} {n : Int} {x : UInt64} (h : wAt ws n = some x) : wT 1 n 0 ws = x := by unfold wT; rw [h]; rfl
theorem maxA_ints {k k' : IntKind} {a b : Int} : maxA [.int k' b] (.int k a) = some (.int k (if b > a then b else a)) := rfl
theorem minA_ints {k k' : IntKind} {a b : Int} : minA [.int k' b] (.int k a) = some (.int k (if b < a then b else a)) := rfl
theorem n_if {P : Program} {k : Nat} : nilCheckA P (prtV k) = some (prtV k) := rfl
attribute [go_sem] maxA_ints minA_ints n_if
theorem gPage_at {N T k : Nat} (hN : 1 ≤ N) (hk : k < N) : gat N T 7 k = ((21 + T + k : Nat) : Int) := by
  have e : gb N T 8 = gb N T 7 + N := by unfold gb; rw [if_neg (by omega), if_neg (by omega)]; rfl
  have e2 : gb N T 7 = 21 + T := by unfold gb; rw [if_neg (by omega)]; simp only [gsum, gsz]
  rw [gat_in N T 7 (by omega) (by rw [e]; omega), e2]; push_cast; rfl
theorem gBin_at {N T k : Nat} (hN : 1 ≤ N) (hk : k < 9) : gat N T 3 k = ((7 + k : Nat) : Int) := by
  have e : gb N T 4 = gb N T 3 + 9 := by unfold gb; rw [if_neg (by omega), if_neg (by omega)]; rfl
  have e2 : gb N T 3 = 7 := by unfold gb; rw [if_neg (by omega)]; rfl
  rw [gat_in N T 3 (by omega) (by rw [e]; omega), e2]; push_cast; rfl
theorem wAt_wS {c : Nat} {n : Int} {A B x : UInt64} {ws : List UInt64} (h : wAt ws n = some x) (m : Int) : wAt (wS c n A B ws) m = if m = n then some (kNow c x A B) else wAt ws m := by
  have hs : wS c n A B ws = ws.set n.toNat (kNow c x A B) := by unfold wS; rw [h]
  rw [hs]
  unfold wAt at h ⊢
  by_cases hn : n < 0
  · rw [if_pos hn] at h; cases h
  rw [if_neg hn] at h
  have hlt := (List.getElem?_eq_some_iff.1 h).1
  by_cases e : m = n
  · subst e
    rw [if_neg hn, if_pos rfl, List.getElem?_set_self hlt]
  · rw [if_neg e]
    by_cases hm : m < 0
    · rw [if_pos hm, if_pos hm]
    · rw [if_neg hm, if_neg hm, List.getElem?_set_ne (by omega)]
structure Pg (N T : Nat) (ws0 ws : List UInt64) (P B : Nat → UInt64) : Prop where
  len : ws.length = ws0.length
  pg : ∀ x : Nat, x < N → wAt ws (gat N T 7 x) = some (P x)
  bn : ∀ b : Nat, b < 9 → wAt ws (gat N T 3 b) = some (B b)
  rest : ∀ i : Nat, (∀ x, x < N → i ≠ 21 + T + x) → (∀ b, b < 9 → i ≠ 7 + b) → wAt ws i = wAt ws0 i
theorem Pg.congr {N T : Nat} {ws0 ws : List UInt64} {P B P' B' : Nat → UInt64} (h : Pg N T ws0 ws P B) (hP : ∀ x, x < N → P x = P' x) (hB : ∀ b, b < 9 → B b = B' b) : Pg N T ws0 ws P' B' :=
  ⟨h.len, fun x hx => by rw [← hP x hx]; exact h.pg x hx, fun b hb => by rw [← hB b hb]; exact h.bn b hb, h.rest⟩
theorem Pg.put {N T : Nat} {ws0 ws : List UInt64} {P B : Nat → UInt64} (h : Pg N T ws0 ws P B) (hN : 1 ≤ N) {x : Nat} (hx : x < N) (c : Nat) (v V : UInt64) : Pg N T ws0 (wS c (gat N T 7 x) v V ws) (up P x (kNow c (P x) v V)) B := by
  have e := wAt_wS (c := c) (A := v) (B := V) (h.pg x hx)
  refine ⟨by rw [wS_length, h.len], fun y hy => ?_, fun b hb => ?_, fun i h1 h2 => ?_⟩
  · rw [e, gPage_at hN hx, gPage_at hN hy]
    unfold up
    by_cases hxy : y = x
    · rw [if_pos hxy, if_pos (by omega)]
    · rw [if_neg hxy, if_neg (by omega), ← gPage_at hN hy]; exact h.pg y hy
  · rw [e, gPage_at hN hx, gBin_at hN hb, if_neg (by omega), ← gBin_at (T := T) hN hb]; exact h.bn b hb
  · rw [e, gPage_at hN hx, if_neg (by have := h1 x hx; omega)]; exact h.rest i h1 h2
theorem Pg.add {N T : Nat} {ws0 ws : List UInt64} {P B : Nat → UInt64} (h : Pg N T ws0 ws P B) (hN : 1 ≤ N) {b : Nat} (hb : b < 9) (v : UInt64) : Pg N T ws0 (wS 4 (gat N T 3 b) v 0 ws) P (ad B b v) := by
  have e := wAt_wS (c := 4) (A := v) (B := 0) (h.bn b hb)
  refine ⟨by rw [wS_length, h.len], fun y hy => ?_, fun b' hb' => ?_, fun i h1 h2 => ?_⟩
  · rw [e, gBin_at hN hb, gPage_at hN hy, if_neg (by omega), ← gPage_at hN hy]; exact h.pg y hy
  · rw [e, gBin_at hN hb, gBin_at hN hb']
    unfold ad
    by_cases hxy : b' = b
    · rw [if_pos hxy, if_pos (by omega), hxy]; rfl
    · rw [if_neg hxy, if_neg (by omega), ← gBin_at (T := T) hN hb']; exact h.bn b' hb'
  · rw [e, gBin_at hN hb, if_neg (by have := h2 b hb; omega)]; exact h.rest i h1 h2
end Go.Proofs.Ytjdbknnacaacaaa
namespace Go.Proofs.Ytjdbknnacaacaaa
open Go Go.RowKit
set_option linter.unusedSimpArgs false
set_option linter.unusedVariables false
theorem gb_next {N T r : Nat} (hN : 1 ≤ N) : gb N T (r + 1) = gb N T r + gsz N T r := by rw [gb_succ, if_neg (by omega)]
theorem gat_of {N T r n : Nat} (hN : 1 ≤ N) (h : n < gsz N T r) : gat N T r n = ((gb N T r + n : Nat) : Int) := by
  rw [gat_in N T r (by omega) (by rw [gb_next hN]; omega)]; push_cast; rfl
theorem gat_no {N T r : Nat} {n : Int} (hN : 1 ≤ N) (h : n < 0 ∨ (gsz N T r : Int) ≤ n) : gat N T r n = -1 := by
  rcases h with h | h
  · exact gat_neg N T r h
  · exact gat_far N T r (by rw [gb_next hN]; omega)
theorem gb_le_of {N T : Nat} : ∀ {r r' : Nat}, r ≤ r' → gb N T r ≤ gb N T r'
  | r, 0, h => by obtain rfl : r = 0 := by omega
                  exact Nat.le_refl _
  | r, r' + 1, h => by
    by_cases e : r = r' + 1
    · rw [e]; exact Nat.le_refl _
    · exact Nat.le_trans (gb_le_of (by omega)) (gb_mono N T r')
theorem gat_inj {N T r n r' n' : Nat} (hN : 1 ≤ N) (h : n < gsz N T r) (h' : n' < gsz N T r') (e : gat N T r n = gat N T r' n') : r = r' ∧ n = n' := by
  rw [gat_of hN h, gat_of hN h'] at e
  have e1 := gb_next (r := r) (T := T) hN
  have e2 := gb_next (r := r') (T := T) hN
  rcases Nat.lt_trichotomy r r' with k | k | k
  · have := gb_le_of (N := N) (T := T) (show r + 1 ≤ r' from k); omega
  · subst k; exact ⟨rfl, by omega⟩
  · have := gb_le_of (N := N) (T := T) (show r' + 1 ≤ r from k); omega
def Wd (N T : Nat) (ws : List UInt64) (W : Nat → Nat → UInt64) : Prop := ∀ r n : Nat, r < 19 → n < gsz N T r → wAt ws (gat N T r n) = some (W r n)
def up2 (W : Nat → Nat → UInt64) (r n : Nat) (v : UInt64) : Nat → Nat → UInt64 := fun r' n' => if r' = r ∧ n' = n then v else W r' n'
theorem up2_eq {W : Nat → Nat → UInt64} {r n : Nat} {v : UInt64} : up2 W r n v r n = v := if_pos ⟨rfl, rfl⟩
theorem up2_r {W : Nat → Nat → UInt64} {r n r' n' : Nat} {v : UInt64} (h : r' ≠ r) : up2 W r n v r' n' = W r' n' := if_neg fun e => h e.1
theorem up2_n {W : Nat → Nat → UInt64} {r n r' n' : Nat} {v : UInt64} (h : n' ≠ n) : up2 W r n v r' n' = W r' n' := if_neg fun e => h e.2
theorem Wd.put {N T : Nat} {ws : List UInt64} {W : Nat → Nat → UInt64} (h : Wd N T ws W) (hN : 1 ≤ N) {r n : Nat} (hr : r < 19) (hn : n < gsz N T r) (c : Nat) (A B : UInt64) : Wd N T (wS c (gat N T r n) A B ws) (up2 W r n (kNow c (W r n) A B)) := by
  intro r' n' hr' hn'
  rw [wAt_wS (h r n hr hn)]
  by_cases e : gat N T r' n' = gat N T r n
  · obtain ⟨rfl, rfl⟩ := gat_inj hN hn' hn e
    rw [if_pos rfl, up2_eq]
  · rw [if_neg e, h r' n' hr' hn']
    refine congrArg some (if_neg ?_).symm
    rintro ⟨rfl, rfl⟩
    exact e rfl
theorem Wd.store {N T : Nat} {ws : List UInt64} {W : Nat → Nat → UInt64} (h : Wd N T ws W) (hN : 1 ≤ N) {r n : Nat} (hr : r < 19) (hn : n < gsz N T r) (A : UInt64) : Wd N T (wS 2 (gat N T r n) A 0 ws) (up2 W r n A) := h.put hN hr hn 2 A 0
theorem Wd.cas {N T : Nat} {ws : List UInt64} {W : Nat → Nat → UInt64} (h : Wd N T ws W) (hN : 1 ≤ N) {r n : Nat} (hr : r < 19) (hn : n < gsz N T r) {A : UInt64} (hA : W r n = A) (B : UInt64) : Wd N T (wS 3 (gat N T r n) A B ws) (up2 W r n B) := by
  have := h.put hN hr hn 3 A B
  rw [hA] at this
  simpa only [kNow, if_true] using this
theorem Wd.add {N T : Nat} {ws : List UInt64} {W : Nat → Nat → UInt64} (h : Wd N T ws W) (hN : 1 ≤ N) {r n : Nat} (hr : r < 19) (hn : n < gsz N T r) (A : UInt64) : Wd N T (wS 4 (gat N T r n) A 0 ws) (up2 W r n (W r n + A)) := h.put hN hr hn 4 A 0
theorem Wd.tells {N T : Nat} {ws : List UInt64} {W : Nat → Nat → UInt64} (h : Wd N T ws W) {r n : Nat} (hr : r < 19) (hn : n < gsz N T r) : wT 1 (gat N T r n) 0 ws = W r n := ld_w (h r n hr hn)
theorem Wd.hits {N T : Nat} {ws : List UInt64} {W : Nat → Nat → UInt64} (h : Wd N T ws W) {r n : Nat} (hr : r < 19) (hn : n < gsz N T r) {A : UInt64} (hA : W r n = A) : (wT 3 (gat N T r n) A ws == 1) = true := by
  unfold wT
  rw [h r n hr hn]
  simp only [kTold, hA, if_true]
  rfl
theorem Wd.zero {N T n : Nat} (hN : 1 ≤ N) (h : gb N T 19 ≤ n) : Wd N T (List.replicate n 0) (fun _ _ => 0) := by
  intro r k hr hk
  rw [gat_of hN hk]
  have e1 := gb_next (r := r) (T := T) hN
  have := gb_le_of (N := N) (T := T) (show r + 1 ≤ 19 by omega)
  unfold wAt
  rw [if_neg (by omega)]
  simp only [Int.toNat_natCast]
  rw [List.getElem?_replicate, if_pos (by omega)]
theorem Wd.congr {N T : Nat} {ws : List UInt64} {W W' : Nat → Nat → UInt64} (h : Wd N T ws W) (e : ∀ r n, r < 19 → n < gsz N T r → W r n = W' r n) : Wd N T ws W' := fun r n hr hn => by rw [h r n hr hn, e r n hr hn]
theorem gin_of {n k many : Nat} (hn : n ≤ 1073741824) (hk : k < many) : gin n k many = ((n * many + k : Nat) : Int) := by
  unfold gin
  rw [if_neg (by omega)]; push_cast; rfl
theorem gin_no {n k many : Int} (h : n < 0 ∨ 1073741824 < n ∨ k < 0 ∨ many ≤ k) : gin n k many = -1 := if_pos h
end Go.Proofs.Ytjdbknnacaacaaa
namespace Go.Proofs.Ytjdbknnacaacaaa
open Go Go.RowKit
set_option linter.unusedSimpArgs false
set_option linter.unusedVariables false
theorem dlt_f {a b : Int} (h : b ≤ a) : decide (a < b) = false := decide_eq_false (by omega)
theorem dle_f {a b : Int} (h : b < a) : decide (a ≤ b) = false := decide_eq_false (by omega)
theorem beq_t {a b : Int} (h : a = b) : (a == b) = true := by rw [h]; exact beq_self_eq_true _
theorem beq_f {a b : Int} (h : a < b ∨ b < a) : (a == b) = false := by rw [beq_eq_false_iff_ne]; omega
theorem bne_t {a b : Int} (h : a < b ∨ b < a) : (a != b) = true := by rw [bne_iff_ne]; omega
theorem bne_f {a b : Int} (h : a = b) : (a != b) = false := by rw [h]; exact bne_self_eq_false _
theorem ile_T {a b : Int} (h : a ≤ b) : (a ≤ b) = True := eq_true h
theorem ilt_T {a b : Int} (h : a < b) : (a < b) = True := eq_true h
theorem nle_T {a b : Nat} (h : a ≤ b) : (a ≤ b) = True := eq_true h
theorem nlt_T {a b : Nat} (h : a < b) : (a < b) = True := eq_true h
theorem tdiv_n (a n : Nat) : (a : Int).tdiv (n : Int) = ((a / n : Nat) : Int) := by
  rw [Int.tdiv_eq_ediv_of_nonneg (by omega)]; exact (Int.natCast_ediv a n).symm
theorem tmod_n (a n : Nat) : (a : Int).tmod (n : Int) = ((a % n : Nat) : Int) := by
  rw [Int.tmod_eq_emod_of_nonneg (by omega)]; exact (Int.natCast_emod a n).symm
attribute [go_sem] dlt_f dle_f beq_t beq_f bne_t bne_f ile_T ilt_T nle_T nlt_T
end Go.Proofs.Ytjdbknnacaacaaa
