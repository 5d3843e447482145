/-
  SlabBlocks: the blocks that are told of a slab lie in its page, at multiples of the class's alignment, and not on one another.
  No condition.
-/
import Derived.Test.YtjdbknnacaacaaaUApp
namespace Go.Proofs.Ytjdbknnacaacaaa
open Go Go.RowKit
set_option linter.unusedSimpArgs false
set_option linter.unusedVariables false
set_option maxHeartbeats 2000000 in
theorem take_none (S : St) (p mm me : Nat) (steps : Nat) (ws : List UInt64) (bs : List UInt8) (N T x k v : Nat) (hp : S[p]? = some (.port mm me steps)) (hm : S[mm]? = some (.mem ws bs)) (hst : steps ≤ 10000000000) (hN : N ≤ 256) (hT : T ≤ 64) (hx : x < N) (h2 : k < 4) (h3 : v < 4294967296)
    (hu : wAt ws (gat N T 8 x) = some (btU 0 true k v)) :
    Does OF 32 #[prtV p, .agg (geoC N T), .int .i64 x, .int .i64 k] [] S (.tuple #[.int .i64 0, .bool false]) (accS S p mm me (steps + 1) ws bs) := by
  refine Does.mk Try.func32 rfl rfl ?clo ?hand ?_
  case clo => exact clo4 (pclo (hlt_of hp)) gclo iclo iclo
  case hand => exact Hand.plain (by simp [plainB])
  rw [Try.ntmps32]; simp only [List.size_toArray, List.length_cons, List.length_nil, List.replicate, List.cons_append, List.nil_append]
  refine viaL ?_
  ((first | refine qc1 rfl rfl fun K hK => ?_ | refine qc3 rfl rfl fun K hK => ?_); simp (disch := (first | omega | (simp only [sz] <;> omega) | fail)) only [go_sem]; refine ⟨_, _, sis_t S p N T x k (hlt_of hp) hx h2, ?_⟩; (try simp only [go_sem]); with_reducible refine hK _ _ ?_; clear hK K)
  refine via ?_
  ((first | refine qc1 rfl rfl fun K hK => ?_ | refine qc3 rfl rfl fun K hK => ?_); simp (disch := (first | omega | (simp only [sz] <;> omega) | fail)) only [go_sem]; refine ⟨_, _, sbits_does _ p mm me _ _ bs N T x _ hp hm (by omega) hN hT hu, ?_⟩; (try simp only [go_sem]); with_reducible refine hK _ _ ?_; clear hK K)
  rw [btOf_U (by decide) h2 h3]
  unfold btV
  refine via ?_
  ((first | refine qc1 rfl rfl fun K hK => ?_ | refine qc3 rfl rfl fun K hK => ?_); simp (disch := (first | omega | (simp only [sz] <;> omega) | fail)) only [go_sem]; refine ⟨_, _, first_none _ true k v, ?_⟩; (try simp only [go_sem]); with_reducible refine hK _ _ ?_; clear hK K)
  have ek : ((k : Int) != (k : Int)) = false := by simp
  refine viaF ek ?_
  refine Goes.fin rfl (by simp (disch := (first | omega | (simp only [heapL_next, List.length_cons, List.length_nil, List.size_toArray, geo_len] <;> omega) | fail)) only [go_sem, resA, res1A, Try.results32] <;> rfl) ?_
  rfl
theorem heapJ_L1 {a b : Option Blk} : heapL [a, b] = heapJ [a] 1 [b] := by
  refine ah_ext (fun n => ?_) (by simp [heapL, heapJ])
  rw [heapL_get]
  match n with
  | 0 => rfl
  | 1 => rfl
  | n + 2 =>
    rw [show n + 2 = 1 + (n + 1) by omega, gap_hi, List.getElem?_eq_none (by simp only [List.length_cons, List.length_nil]; omega), List.getElem?_eq_none (by simp only [List.length_cons, List.length_nil]; omega)]
theorem share {α : Type} {P : α → Prop} {Q : Prop} {T : α} (h2 : P T → Q) (h1 : P T) : Q := h2 h1
def blK (c : Nat) : Nat := match c with | 0 => 8 | 1 => 4 | _ => 2
def msk (c t : Nat) : Nat := 2 ^ blK c - 2 ^ (t + 1)
theorem msk_all : (List.range 4).all (fun c => (msk c 0 == mapK c) && (msk c (blK c - 1) == 0) && (List.range 8).all fun t => decide (blK c ≤ t + 1) || (decide (1 ≤ msk c t) && decide (msk c t < 256) && (tzN (msk c t) == t + 1) && (msk c t - 2 ^ (t + 1) == msk c (t + 1)))) = true := by decide
theorem msk_0 {c : Nat} (h : c < 4) : msk c 0 = mapK c ∧ msk c (blK c - 1) = 0 := by
  have := List.all_eq_true.1 msk_all c (List.mem_range.2 h)
  simp only [Bool.and_eq_true, beq_iff_eq] at this
  exact this.1
theorem msk_t {c t : Nat} (h : c < 4) (ht : t + 1 < blK c) : 1 ≤ msk c t ∧ msk c t < 256 ∧ tzN (msk c t) = t + 1 ∧ msk c t - 2 ^ (t + 1) = msk c (t + 1) := by
  have h8 : blK c ≤ 8 := by unfold blK; split <;> omega
  have := List.all_eq_true.1 msk_all c (List.mem_range.2 h)
  simp only [Bool.and_eq_true, beq_iff_eq] at this
  have := List.all_eq_true.1 this.2 t (List.mem_range.2 (by omega))
  simp only [Bool.or_eq_true, Bool.and_eq_true, beq_iff_eq, decide_eq_true_eq] at this
  rcases this with h1 | h1
  · omega
  · exact ⟨h1.1.1.1, h1.1.1.2, h1.1.2, h1.2⟩
def grS (wh c t : Nat) : List Int := (List.range (t + 1)).map fun b => ((wh * 8 + b * szK c / 8 : Nat) : Int)
theorem grS_len (wh c t : Nat) : (grS wh c t).length = t + 1 := by simp [grS]
theorem grS_succ (wh c t : Nat) : grS wh c (t + 1) = grS wh c t ++ [((wh * 8 + (t + 1) * szK c / 8 : Nat) : Int)] := by unfold grS; rw [List.range_succ, List.map_append]; rfl
theorem grS_get {wh c t b : Nat} (h : b ≤ t) : (numRow .i64 (grS wh c t))[b]? = some (.int .i64 ((wh * 8 + b * szK c / 8 : Nat) : Int)) := by
  unfold numRow grS
  rw [List.getElem?_map, List.getElem?_map, List.getElem?_range (by omega)]; rfl
theorem grS_0 (wh c : Nat) : numRow .i64 (grS wh c 0) = [.int .i64 ((wh * 8 : Nat) : Int)] := by simp [numRow, grS]
theorem appT_int' : AppT Try.prog 62 3 0 := AppT.of (bs := 8) (z := .int .i64 0) (by simp only [go_sem]) (by simp only [go_sem]) (by simp only [go_sem]) (by simp only [go_sem]) (by simp [plainB, Value.cells])
theorem numRow_app' {k : IntKind} {A B : List Int} : numRow k A ++ numRow k B = numRow k (A ++ B) := by simp [numRow]
def slA (c i : Nat) : List Rn := (List.range i).map fun j => (3 + (c + j) % 4 * 8192, 1)
theorem slA_succ (c i : Nat) : slA c (i + 1) = slA c i ++ [(3 + (c + i) % 4 * 8192, 1)] := by unfold slA; rw [List.range_succ, List.map_append]; rfl
theorem slA_tot (c i : Nat) : tot (slA c i) = i := by
  induction i with
  | zero => rfl
  | succ i ih => rw [slA_succ, tot_append, ih]; rfl
theorem slA_used (c i : Nat) : ∀ r ∈ slA c i, r.1 ≠ 1 := by
  intro r hr
  obtain ⟨j, _, rfl⟩ := List.mem_map.1 hr
  simp only; omega
theorem slA_pos (c i n : Nat) (hn : 1 ≤ n) : Pos (slA c i ++ [(1, n)]) := by
  refine Pos.append.2 ⟨fun r hr => ?_, fun r hr => ?_⟩
  · obtain ⟨j, _, rfl⟩ := List.mem_map.1 hr
    have := Nat.mod_lt (c + j) (show 0 < 4 by decide)
    exact ⟨Nat.le_refl _, .inr (.inr (.inr ⟨by simp only; omega, by simp only; omega⟩))⟩
  · rw [List.mem_singleton] at hr; subst hr; exact ⟨hn, .inl rfl⟩
structure SlB (N c i : Nat) (ws0 ws : List UInt64) : Prop where
  pg : Pg N 1 ws0 ws (pw (slA c i ++ [(1, N - i)])) (bw (slA c i ++ [(1, N - i)]))
  done : ∀ j, j < i → wAt ws0 (gat N 1 8 (j : Nat)) = some (btU (mapK ((c + j) % 4)) true ((c + j) % 4) 1)
  open' : ∀ j, i ≤ j → j < N → wAt ws0 (gat N 1 8 (j : Nat)) = some 0
theorem SlB.next {N c i : Nat} {ws0 ws' : List UInt64} (hi : i < N)
    (hP : Pg N 1 (wS 2 (gat N 1 8 (i : Nat)) (btU (mapK ((c + i) % 4)) true ((c + i) % 4) 1) 0 ws0) ws' (pw (slA c i ++ (3 + (c + i) % 4 * 8192 + 0 * 65536, 1) :: fr (N - i - 1))) (bw (slA c i ++ (3 + (c + i) % 4 * 8192 + 0 * 65536, 1) :: fr (N - i - 1))))
    (hd : ∀ j, j < i → wAt ws0 (gat N 1 8 (j : Nat)) = some (btU (mapK ((c + j) % 4)) true ((c + j) % 4) 1)) (ho : ∀ j, i ≤ j → j < N → wAt ws0 (gat N 1 8 (j : Nat)) = some 0) (hN : 1 ≤ N) :
    (∀ j, j < i + 1 → wAt ws' (gat N 1 8 (j : Nat)) = some (btU (mapK ((c + j) % 4)) true ((c + j) % 4) 1)) ∧ (i + 1 < N → SlB N c (i + 1) (wS 2 (gat N 1 8 (i : Nat)) (btU (mapK ((c + i) % 4)) true ((c + i) % 4) 1) 0 ws0) ws') := by
  have h0 := ho i (Nat.le_refl _) hi
  have e := wAt_wS (c := 2) (A := btU (mapK ((c + i) % 4)) true ((c + i) % 4) 1) (B := 0) h0
  have hdone : ∀ j, j < i + 1 → wAt (wS 2 (gat N 1 8 (i : Nat)) (btU (mapK ((c + i) % 4)) true ((c + i) % 4) 1) 0 ws0) (gat N 1 8 (j : Nat)) = some (btU (mapK ((c + j) % 4)) true ((c + j) % 4) 1) := fun j hj => by
    rw [e]
    by_cases hji : j = i
    · subst hji; rw [if_pos rfl]; rfl
    · rw [if_neg (by rw [gBits_of hN hi, gBits_of hN (show j < N by omega)]; omega)]; exact hd j (by omega)
  refine ⟨fun j hj => ?_, fun hlt => ⟨?_, hdone, fun j h1 h2 => ?_⟩⟩
  · have hr := hP.rest (21 + 1 + N + j) (fun x hx => by omega) (fun b hb => by omega)
    have := hdone j hj
    rw [gBits_of hN (show j < N by omega)] at this ⊢
    rw [hr]; exact this
  · rw [slA_succ, List.append_assoc]
    rw [Nat.zero_mul, Nat.add_zero, fr_pos (by omega)] at hP
    exact hP
  · rw [e, if_neg (by rw [gBits_of hN hi, gBits_of hN h2]; omega)]; exact ho j (by omega) h2
set_option maxHeartbeats 8000000 in
set_option maxRecDepth 10000 in
theorem slabBlocks_law (pages which k : Nat) (h1 : pages < 256) (h2 : which < 256) (h3 : k < 256) : Law 8 #[.int .u8 pages, .int .u8 which, .int .u8 k] [] := by
  refine Law.mk Try.func8 rfl rfl (clo3 iclo iclo iclo) ?_
  rw [Try.ntmps8]; simp only [List.size_toArray, List.length_cons, List.length_nil, List.replicate, List.cons_append, List.nil_append]
  have e1 : (pages : Int).tmod 20 = ((pages % 20 : Nat) : Int) := tmod_n pages 20
  have e2 : IntKind.u8.wrap ((pages % 20 : Nat) : Int) = ((pages % 20 : Nat) : Int) := by rw [IntKind.wrap_u8]; omega
  have e3 : IntKind.i64.wrap ((pages % 20 : Nat) : Int) = ((pages % 20 : Nat) : Int) := by rw [wrap_i64 (by omega) (by omega)]
  have e4 : ((pages % 20 : Nat) : Int) + 1 = ((pages % 20 + 1 : Nat) : Int) := by push_cast; rfl
  have e5 : (which : Int).tmod ((pages % 20 + 1 : Nat) : Int) = ((which % (pages % 20 + 1) : Nat) : Int) := tmod_n which (pages % 20 + 1)
  have e6 : IntKind.i64.wrap (which : Int) = (which : Int) := by rw [wrap_i64 (by omega) (by omega)]
  have e7 : (k : Int).tmod 4 = ((k % 4 : Nat) : Int) := tmod_n k 4
  have e8 : IntKind.u8.wrap ((k % 4 : Nat) : Int) = ((k % 4 : Nat) : Int) := by rw [IntKind.wrap_u8]; omega
  have e9 : IntKind.i64.wrap ((k % 4 : Nat) : Int) = ((k % 4 : Nat) : Int) := by rw [wrap_i64 (by omega) (by omega)]
  refine viaF (And.intro e1 (And.intro e2 (And.intro e3 (And.intro e4 (And.intro e5 (And.intro e6 (And.intro e7 (And.intro e8 e9)))))))) ?_
  obtain ⟨N, hN⟩ : ∃ N, N = pages % 20 + 1 := ⟨_, rfl⟩
  rw [← hN] at e5 ⊢
  obtain ⟨wh, hwh⟩ : ∃ wh, wh = which % N := ⟨_, rfl⟩
  rw [← hwh]
  obtain ⟨c, hc⟩ : ∃ c, c = k % 4 := ⟨_, rfl⟩
  rw [← hc]
  have hN1 : 1 ≤ N := by omega
  have hN2 : N ≤ 20 := by omega
  have hw : wh < N := by rw [hwh]; exact Nat.mod_lt _ (by omega)
  have hc4 : c < 4 := by omega
  clear e1 e2 e3 e4 e5 e6 e7 e8 e9 hN hwh hc
  obtain ⟨wb, sb, hsb, hPb, hbeg⟩ := begun10_does [] N 1 hN1 (by omega) (by decide) (by decide)
  simp only [List.length_nil, List.nil_append, Nat.zero_add] at hbeg
  ((first | refine qc1 rfl rfl fun K hK => ?_ | refine qc3 rfl rfl fun K hK => ?_); simp (disch := (first | omega | (simp only [sz] <;> omega) | fail)) only [go_sem]; refine ⟨_, _, hbeg, ?_⟩; (try simp only [go_sem]); with_reducible refine hK _ _ ?_; clear hK K)
  refine via ?_
  obtain ⟨bs, hbs⟩ : ∃ bs, bs = List.replicate (64 * N) (0 : UInt8) := ⟨_, rfl⟩
  rw [← hbs]
  have h8 : ∀ j, j < N → wAt (List.replicate (gb N 1 19) (0 : UInt64)) (gat N 1 8 (j : Nat)) = some 0 := fun j hj => by
    rw [gBits_of hN1 hj]
    refine wAt_zeros ?_
    have := gb8 (T := 1) hN1
    have e9 : gb N 1 9 = gb N 1 8 + N := gb_next hN1
    have := gb_mono' N 1 9 19 (by decide)
    omega
  have hS0 : SlB N c 0 (List.replicate (gb N 1 19) 0) wb := ⟨hPb, fun j hj => by omega, fun j _ hj => h8 j hj⟩
  refine Goes.wh (fun z tmps h S' => ∃ (i st : Nat) (ws0 ws : List UInt64), z = wh - i ∧ i ≤ wh ∧ st ≤ 3 + 700 * i ∧ SlB N c i ws0 ws ∧ S' = [.mem ws bs, .port 0 0 st] ∧ h = heapL [some { cells := (geoC N 1).toList, elem := 24 }] ∧ tmps.length = 192 ∧
      tmps.getD 6 undef = .bool false ∧ tmps.getD 7 undef = .int .i64 N ∧ tmps.getD 8 undef = .int .i64 wh ∧ tmps.getD 9 undef = .int .i64 c ∧ tmps.getD 10 undef = .pointer (some ⟨0, 0, none⟩) ∧ tmps.getD 11 undef = hndV 0 ∧ tmps.getD 12 undef = hndV 1 ∧ tmps.getD 13 undef = .int .i64 i) (m := wh)
      ⟨0, sb, _, wb, rfl, by omega, by omega, hS0, rfl, rfl, rfl, rfl, rfl, rfl, rfl, rfl, rfl, rfl, rfl⟩ ?_
  clear hS0 hPb hbeg h8
  rintro z tmps h S' ih ⟨i, st, ws0, ws, rfl, hi, hst, hI, rfl, rfl, hl, f6, f7, f8, f9, f10, f11, f12, f13⟩
  obtain ⟨V, hV, hT⟩ := frame_lit hl; replace hT : _ = ([V 0, V 1, V 2, V 3, V 4, V 5, V 6, V 7, V 8, V 9, V 10, V 11, V 12, V 13, V 14, V 15, V 16, V 17, V 18, V 19, V 20, V 21, V 22, V 23, V 24, V 25, V 26, V 27, V 28, V 29, V 30, V 31, V 32, V 33, V 34, V 35, V 36, V 37, V 38, V 39, V 40, V 41, V 42, V 43, V 44, V 45, V 46, V 47, V 48, V 49, V 50, V 51, V 52, V 53, V 54, V 55, V 56, V 57, V 58, V 59, V 60, V 61, V 62, V 63, V 64, V 65, V 66, V 67, V 68, V 69, V 70, V 71, V 72, V 73, V 74, V 75, V 76, V 77, V 78, V 79, V 80, V 81, V 82, V 83, V 84, V 85, V 86, V 87, V 88, V 89, V 90, V 91, V 92, V 93, V 94, V 95, V 96, V 97, V 98, V 99, V 100, V 101, V 102, V 103, V 104, V 105, V 106, V 107, V 108, V 109, V 110, V 111, V 112, V 113, V 114, V 115, V 116, V 117, V 118, V 119, V 120, V 121, V 122, V 123, V 124, V 125, V 126, V 127, V 128, V 129, V 130, V 131, V 132, V 133, V 134, V 135, V 136, V 137, V 138, V 139, V 140, V 141, V 142, V 143, V 144, V 145, V 146, V 147, V 148, V 149, V 150, V 151, V 152, V 153, V 154, V 155, V 156, V 157, V 158, V 159, V 160, V 161, V 162, V 163, V 164, V 165, V 166, V 167, V 168, V 169, V 170, V 171, V 172, V 173, V 174, V 175, V 176, V 177, V 178, V 179, V 180, V 181, V 182, V 183, V 184, V 185, V 186, V 187, V 188, V 189, V 190, V 191] : List Value) := hT; rw [hV] at f6 f7 f8 f9 f10 f11 f12 f13; subst hT; simp only [f6, f7, f8, f9, f10, f11, f12, f13]; clear hV hl
  obtain ⟨hP, hd, ho⟩ := hI
  by_cases hlt : i < wh
  · have e1 : (c : Int) + (i : Int) = ((c + i : Nat) : Int) := by push_cast; rfl
    have e2 : ((c + i : Nat) : Int).tmod 4 = (((c + i) % 4 : Nat) : Int) := tmod_n (c + i) 4
    have hk4 := Nat.mod_lt (c + i) (show 0 < 4 by decide)
    obtain ⟨v1, S1, ⟨rfl, s1, w1, hs1, rfl, hP1⟩, hd1⟩ := page_does [.mem ws bs, .port 0 0 st] 1 0 0 st ws0 ws bs N 1 ((c + i) % 4) (N - i) rfl rfl (by omega) hN1 (by omega) (by decide) (by decide) hk4 hP (slA_used c i) (slA_pos c i _ (by omega)) (by rw [slA_tot]; omega) (by rw [slA_tot]; exact ho i (Nat.le_refl _) (by omega))
    rw [slA_tot] at hP1 hd1
    obtain ⟨_, hI2⟩ := SlB.next (by omega) hP1 hd ho hN1
    refine viaF (And.intro e1 e2) ?_
    ((first | refine qc1 rfl rfl fun K hK => ?_ | refine qc3 rfl rfl fun K hK => ?_); simp (disch := (first | omega | (simp only [sz] <;> omega) | fail)) only [go_sem]; refine ⟨_, _, hd1, ?_⟩; (try simp only [go_sem]); with_reducible refine hK _ _ ?_; clear hK K)
    refine via ?_
    exact ih _ _ _ _ (by omega) ⟨i + 1, s1, _, w1, rfl, by omega, by omega, hI2 (by omega), rfl, rfl, rfl, rfl, rfl, rfl, rfl, rfl, rfl, rfl, rfl⟩
  · obtain rfl : i = wh := by omega
    obtain ⟨v1, S1, ⟨rfl, s1, w1, hs1, rfl, hP1⟩, hd1⟩ := page_does [.mem ws bs, .port 0 0 st] 1 0 0 st ws0 ws bs N 1 c (N - i) rfl rfl (by omega) hN1 (by omega) (by decide) (by decide) hc4 hP (slA_used c i) (slA_pos c i _ (by omega)) (by rw [slA_tot]; omega) (by rw [slA_tot]; exact ho i (Nat.le_refl _) (by omega))
    rw [slA_tot] at hP1 hd1
    refine via ?_
    ((first | refine qc1 rfl rfl fun K hK => ?_ | refine qc3 rfl rfl fun K hK => ?_); simp (disch := (first | omega | (simp only [sz] <;> omega) | fail)) only [go_sem]; refine ⟨_, _, hd1, ?_⟩; (try simp only [go_sem]); with_reducible refine hK _ _ ?_; clear hK K)
    refine via ?_
    have hbw : wAt w1 (gat N 1 8 (i : Nat)) = some (btU (msk c 0) true c 1) := by
      have hr := hP1.rest (21 + 1 + N + i) (fun x hx => by omega) (fun b hb => by omega)
      have h0 := ho i (Nat.le_refl _) hw
      have e := wAt_wS (c := 2) (A := btU (mapK c) true c 1) (B := 0) h0 (gat N 1 8 (i : Nat))
      rw [if_pos rfl] at e
      rw [gBits_of hN1 hw] at e ⊢
      rw [hr, ← gBits_of (T := 1) hN1 hw, (msk_0 hc4).1] 
      rw [gBits_of hN1 hw]
      exact e
    have hbd : ∀ j, j < i → wAt w1 (gat N 1 8 (j : Nat)) = some (btU (mapK ((c + j) % 4)) true ((c + j) % 4) 1) := fun j hj => by
      have hr := hP1.rest (21 + 1 + N + j) (fun x hx => by omega) (fun b hb => by omega)
      have h0 := ho i (Nat.le_refl _) hw
      have e := wAt_wS (c := 2) (A := btU (mapK c) true c 1) (B := 0) h0 (gat N 1 8 (j : Nat))
      rw [if_neg (by rw [gBits_of hN1 (show j < N by omega), gBits_of hN1 hw]; omega), hd j hj] at e
      rw [gBits_of hN1 (show j < N by omega)] at e ⊢
      rw [hr]; exact e
    have hbl : 2 ≤ blK c ∧ blK c ≤ 8 := by unfold blK; split <;> omega
    have hsz : szK c ≤ 32 := by unfold szK; split <;> omega
    clear hP1 hd1 ho hd hP ih
    refine Goes.wh (fun z tmps h S' => ∃ (j t st q : Nat) (ws : List UInt64) (g : Option Nat), z = 8 - j ∧ j ≤ 8 ∧ t = min j (blK c - 1) ∧ st ≤ s1 + 2 * j ∧ 1 ≤ q ∧ q ≤ 1 + 10 * j ∧ wAt ws (gat N 1 8 (i : Nat)) = some (btU (msk c t) true c 1) ∧ (∀ j, j < i → wAt ws (gat N 1 8 (j : Nat)) = some (btU (mapK ((c + j) % 4)) true ((c + j) % 4) 1)) ∧ ((t = 0 ∧ g = some 0) ∨ g = some 1) ∧
        S' = [.mem ws bs, .port 0 0 st] ∧ h = heapJ [some { cells := (geoC N 1).toList, elem := 24 }] q [some { cells := numRow .i64 (grS i c t), elem := 3, grow := g }] ∧ tmps.length = 192 ∧
        tmps.getD 6 undef = .bool false ∧ tmps.getD 7 undef = .int .i64 N ∧ tmps.getD 8 undef = .int .i64 i ∧ tmps.getD 9 undef = .int .i64 c ∧ tmps.getD 10 undef = .pointer (some ⟨0, 0, none⟩) ∧ tmps.getD 11 undef = hndV 0 ∧ tmps.getD 12 undef = hndV 1 ∧ tmps.getD 18 undef = .slice (some ⟨q, 0, none⟩) (t + 1) (t + 1) ∧ tmps.getD 19 undef = .int .i64 j) (m := 8)
        ⟨0, 0, s1, 1, w1, some 0, rfl, by omega, by omega, by omega, by omega, by omega, hbw, hbd, .inl ⟨rfl, rfl⟩, rfl, by rw [grS_0]; exact heapJ_L1, rfl, rfl, rfl, rfl, rfl, rfl, rfl, rfl, rfl, rfl⟩ ?_
    clear hbw hbd
    rintro z tmps h S' ih ⟨j, t, st2, q, w2, g, rfl, hj, ht, hst2, hq1, hq2, hbw, hbd, hg, rfl, rfl, hl, f6, f7, f8, f9, f10, f11, f12, f18, f19⟩
    obtain ⟨V, hV, hT⟩ := frame_lit hl; replace hT : _ = ([V 0, V 1, V 2, V 3, V 4, V 5, V 6, V 7, V 8, V 9, V 10, V 11, V 12, V 13, V 14, V 15, V 16, V 17, V 18, V 19, V 20, V 21, V 22, V 23, V 24, V 25, V 26, V 27, V 28, V 29, V 30, V 31, V 32, V 33, V 34, V 35, V 36, V 37, V 38, V 39, V 40, V 41, V 42, V 43, V 44, V 45, V 46, V 47, V 48, V 49, V 50, V 51, V 52, V 53, V 54, V 55, V 56, V 57, V 58, V 59, V 60, V 61, V 62, V 63, V 64, V 65, V 66, V 67, V 68, V 69, V 70, V 71, V 72, V 73, V 74, V 75, V 76, V 77, V 78, V 79, V 80, V 81, V 82, V 83, V 84, V 85, V 86, V 87, V 88, V 89, V 90, V 91, V 92, V 93, V 94, V 95, V 96, V 97, V 98, V 99, V 100, V 101, V 102, V 103, V 104, V 105, V 106, V 107, V 108, V 109, V 110, V 111, V 112, V 113, V 114, V 115, V 116, V 117, V 118, V 119, V 120, V 121, V 122, V 123, V 124, V 125, V 126, V 127, V 128, V 129, V 130, V 131, V 132, V 133, V 134, V 135, V 136, V 137, V 138, V 139, V 140, V 141, V 142, V 143, V 144, V 145, V 146, V 147, V 148, V 149, V 150, V 151, V 152, V 153, V 154, V 155, V 156, V 157, V 158, V 159, V 160, V 161, V 162, V 163, V 164, V 165, V 166, V 167, V 168, V 169, V 170, V 171, V 172, V 173, V 174, V 175, V 176, V 177, V 178, V 179, V 180, V 181, V 182, V 183, V 184, V 185, V 186, V 187, V 188, V 189, V 190, V 191] : List Value) := hT; rw [hV] at f6 f7 f8 f9 f10 f11 f12 f18 f19; subst hT; simp only [f6, f7, f8, f9, f10, f11, f12, f18, f19]; clear hV hl
    by_cases hlt2 : j < 8
    · by_cases hb : t + 1 < blK c
      · obtain ⟨k1, k2, k3, k4⟩ := msk_t hc4 hb
        have hd := take_does [.mem w2 bs, .port 0 0 st2] 1 0 0 st2 w2 bs N 1 i (msk c t) c 1 rfl rfl (by omega) (by omega) (by decide) hw k1 k2 hc4 (by decide) hbw
        rw [k3, k4] at hd
        have hbw2 : wAt (wS 3 (gat N 1 8 (i : Nat)) (btU (msk c t) true c 1) (btU (msk c (t + 1)) true c 1) w2) (gat N 1 8 (i : Nat)) = some (btU (msk c (t + 1)) true c 1) := by
          rw [wAt_wS hbw, if_pos rfl]; simp only [kNow, if_true]
        have hbd2 : ∀ j, j < i → wAt (wS 3 (gat N 1 8 (i : Nat)) (btU (msk c t) true c 1) (btU (msk c (t + 1)) true c 1) w2) (gat N 1 8 (j : Nat)) = some (btU (mapK ((c + j) % 4)) true ((c + j) % 4) 1) := fun j hj => by
          rw [wAt_wS hbw, if_neg (by rw [gBits_of hN1 (show j < N by omega), gBits_of hN1 hw]; omega)]; exact hbd j hj
        rcases hg with ⟨h0, rfl⟩ | rfl
        · refine via ?_
          ((first | refine qc1 rfl rfl fun K hK => ?_ | refine qc3 rfl rfl fun K hK => ?_); simp (disch := (first | omega | (simp only [sz] <;> omega) | fail)) only [go_sem]; refine ⟨_, _, hd, ?_⟩; (try simp only [go_sem]); with_reducible refine hK _ _ ?_; clear hK K)
          refine via ?_
          (refine At.appE rfl rfl rfl rfl (app_new appT_int' (cells_gap 0 rfl (by simp only [numRow_len, grS_len]; omega) (by omega)) (cells_gap 1 rfl rfl (by decide)) (by decide) (by omega) (fun x hx => by cases hx; exact ⟨_, gap_hi0, rfl⟩)) (by simp (disch := (first | omega | (simp only [sz] <;> omega) | fail)) only [go_sem]; (try simp only [sz]); unfold VB; omega) fun K hK => ?_; simp (disch := (first | omega | (simp only [sz] <;> omega) | fail)) only [go_sem]; with_reducible refine hK _ _ ?_; clear hK K)
          refine via ?_
          refine Goes.forgetS [_, _] [_] ?_ (by simp only [List.length_cons, List.length_nil]; omega)
          exact ih _ _ _ _ (by omega) ⟨j + 1, t + 1, st2 + 2, _, _, some 1, rfl, by omega, by omega, by omega, by (try simp only [List.length_cons, List.length_nil]); omega, by (try simp only [List.length_cons, List.length_nil]); omega, hbw2, hbd2, .inr rfl, rfl, by rw [grS_succ, ← numRow_app']; rfl, rfl, rfl, rfl, rfl, rfl, rfl, rfl, rfl, rfl, rfl⟩
        · refine via ?_
          ((first | refine qc1 rfl rfl fun K hK => ?_ | refine qc3 rfl rfl fun K hK => ?_); simp (disch := (first | omega | (simp only [sz] <;> omega) | fail)) only [go_sem]; refine ⟨_, _, hd, ?_⟩; (try simp only [go_sem]); with_reducible refine hK _ _ ?_; clear hK K)
          refine via ?_
          (refine At.appE rfl rfl rfl rfl (app_grow appT_int' gap_hi0 rfl rfl (by simp only [numRow_len, grS_len]; omega) (cells_gap 1 rfl rfl (by decide)) rfl (by decide) (by omega)) (by simp (disch := (first | omega | (simp only [sz] <;> omega) | fail)) only [go_sem]; (try simp only [sz]); unfold VB; omega) fun K hK => ?_; simp (disch := (first | omega | (simp only [sz] <;> omega) | fail)) only [go_sem]; with_reducible refine hK _ _ ?_; clear hK K)
          refine via ?_
          refine Goes.forgetS [_, _] [_] ?_ (by simp only [List.length_cons, List.length_nil]; omega)
          exact ih _ _ _ _ (by omega) ⟨j + 1, t + 1, st2 + 2, _, _, some 1, rfl, by omega, by omega, by omega, by (try simp only [List.length_cons, List.length_nil]); omega, by (try simp only [List.length_cons, List.length_nil]); omega, hbw2, hbd2, .inr rfl, rfl, by rw [grS_succ, ← numRow_app']; rfl, rfl, rfl, rfl, rfl, rfl, rfl, rfl, rfl, rfl, rfl⟩
      · have ht1 : t = blK c - 1 := by omega
        have hbw0 := hbw
        rw [ht1, (msk_0 hc4).2] at hbw0
        have hd := take_none [.mem w2 bs, .port 0 0 st2] 1 0 0 st2 w2 bs N 1 i c 1 rfl rfl (by omega) (by omega) (by decide) hw hc4 (by decide) hbw0
        refine via ?_
        ((first | refine qc1 rfl rfl fun K hK => ?_ | refine qc3 rfl rfl fun K hK => ?_); simp (disch := (first | omega | (simp only [sz] <;> omega) | fail)) only [go_sem]; refine ⟨_, _, hd, ?_⟩; (try simp only [go_sem]); with_reducible refine hK _ _ ?_; clear hK K)
        refine via ?_
        exact ih _ _ _ _ (by omega) ⟨j + 1, t, st2 + 1, q, w2, g, rfl, by omega, by omega, by omega, by omega, by omega, hbw, hbd, hg, rfl, rfl, rfl, rfl, rfl, rfl, rfl, rfl, rfl, rfl, rfl, rfl⟩
    obtain rfl : j = 8 := by omega
    obtain rfl : t = blK c - 1 := by omega
    clear ih hg hbw
    apply share (P := fun todo : List Item => ∀ (tmps : List Value) (q' : Nat), 1 ≤ q' → q' ≤ q + 10 → tmps.length = 192 → tmps.getD 6 undef = .bool false → tmps.getD 8 undef = .int .i64 i → tmps.getD 9 undef = .int .i64 c → tmps.getD 10 undef = .pointer (some ⟨0, 0, none⟩) → tmps.getD 11 undef = hndV 0 → tmps.getD 24 undef = .int .i64 0 →
        Goes OF Try.f8 (fun x => ∃ h1 S', x = .done (.bool true) h1 S') (.run todo tmps (heapJ [some { cells := (geoC N 1).toList, elem := 24 }] q' []) [.mem w2 bs, .port 0 0 st2]))
    · intro inner
      obtain rfl | rfl | rfl | rfl : c = 0 ∨ c = 1 ∨ c = 2 ∨ c = 3 := by omega
      · simp only [blK]
        refine via ?_
        refine Goes.wh (fun z tmps h S' => ∃ (b : Nat), z = 8 - b ∧ b ≤ 8 ∧ S' = [.mem w2 bs, .port 0 0 st2] ∧ h = heapJ [some { cells := (geoC N 1).toList, elem := 24 }] q [some { cells := numRow .i64 (grS i 0 7), elem := 3, grow := g }, some { cells := [.int .i64 8, .int .i64 4, .int .i64 2, .int .i64 2], elem := 3, grow := some 0 }, some { cells := [.int .i64 8, .int .i64 16, .int .i64 8, .int .i64 32], elem := 3, grow := some 0 }] ∧ tmps.length = 192 ∧
          tmps.getD 6 undef = .bool false ∧ tmps.getD 7 undef = .int .i64 N ∧ tmps.getD 8 undef = .int .i64 i ∧ tmps.getD 9 undef = .int .i64 (0 : Nat) ∧ tmps.getD 10 undef = .pointer (some ⟨0, 0, none⟩) ∧ tmps.getD 11 undef = hndV 0 ∧ tmps.getD 12 undef = hndV 1 ∧ tmps.getD 18 undef = .slice (some ⟨q, 0, none⟩) 8 8 ∧ tmps.getD 22 undef = .int .i64 8 ∧ tmps.getD 23 undef = .int .i64 b) (m := 8)
          ⟨0, rfl, by omega, rfl, rfl, rfl, rfl, rfl, rfl, rfl, rfl, rfl, rfl, rfl, rfl, rfl⟩ ?_
        rintro z tmps h S' ih ⟨b, rfl, hb8, rfl, rfl, hl, f6, f7, f8, f9, f10, f11, f12, f18, f22, f23⟩
        obtain ⟨V, hV, hT⟩ := frame_lit hl; replace hT : _ = ([V 0, V 1, V 2, V 3, V 4, V 5, V 6, V 7, V 8, V 9, V 10, V 11, V 12, V 13, V 14, V 15, V 16, V 17, V 18, V 19, V 20, V 21, V 22, V 23, V 24, V 25, V 26, V 27, V 28, V 29, V 30, V 31, V 32, V 33, V 34, V 35, V 36, V 37, V 38, V 39, V 40, V 41, V 42, V 43, V 44, V 45, V 46, V 47, V 48, V 49, V 50, V 51, V 52, V 53, V 54, V 55, V 56, V 57, V 58, V 59, V 60, V 61, V 62, V 63, V 64, V 65, V 66, V 67, V 68, V 69, V 70, V 71, V 72, V 73, V 74, V 75, V 76, V 77, V 78, V 79, V 80, V 81, V 82, V 83, V 84, V 85, V 86, V 87, V 88, V 89, V 90, V 91, V 92, V 93, V 94, V 95, V 96, V 97, V 98, V 99, V 100, V 101, V 102, V 103, V 104, V 105, V 106, V 107, V 108, V 109, V 110, V 111, V 112, V 113, V 114, V 115, V 116, V 117, V 118, V 119, V 120, V 121, V 122, V 123, V 124, V 125, V 126, V 127, V 128, V 129, V 130, V 131, V 132, V 133, V 134, V 135, V 136, V 137, V 138, V 139, V 140, V 141, V 142, V 143, V 144, V 145, V 146, V 147, V 148, V 149, V 150, V 151, V 152, V 153, V 154, V 155, V 156, V 157, V 158, V 159, V 160, V 161, V 162, V 163, V 164, V 165, V 166, V 167, V 168, V 169, V 170, V 171, V 172, V 173, V 174, V 175, V 176, V 177, V 178, V 179, V 180, V 181, V 182, V 183, V 184, V 185, V 186, V 187, V 188, V 189, V 190, V 191] : List Value) := hT; rw [hV] at f6 f7 f8 f9 f10 f11 f12 f18 f22 f23; subst hT; simp only [f6, f7, f8, f9, f10, f11, f12, f18, f22, f23]; clear hV hl
        by_cases hlt3 : b < 8
        · have m1 := Nat.mul_one b
          have m2 : (b : Int).toNat = b := by omega
          have hg1 := grS_get (wh := i) (c := 0) (t := 7) (b := b) (by omega)
          have hszd := size_does [.mem w2 bs, .port 0 0 st2] 0 (by decide)
          simp only [szK] at hg1 hszd
          obtain ⟨gr, hgr⟩ : ∃ gr, gr = i * 8 + b * 8 / 8 := ⟨_, rfl⟩
          rw [← hgr] at hg1
          have hmod : ((gr : Int) * 8).tmod 8 = ((gr * 8 % 8 : Nat) : Int) := tmod_n (gr * 8) 8
          have hmod0 : gr * 8 % 8 = 0 := by omega
          rw [hmod0] at hmod
          refine viaF (And.intro m1 (And.intro m2 (And.intro hg1 hmod))) ?_
          ((first | refine qc1 rfl rfl fun K hK => ?_ | refine qc3 rfl rfl fun K hK => ?_); simp (disch := (first | omega | (simp only [sz] <;> omega) | fail)) only [go_sem]; refine ⟨_, _, hszd, ?_⟩; (try simp only [go_sem]); with_reducible refine hK _ _ ?_; clear hK K)
          by_cases hb0 : b = 0
          · subst hb0
            refine viaF (And.intro m1 (And.intro m2 (And.intro hg1 hmod))) ?_
            exact ih _ _ _ _ (by omega) ⟨1, rfl, by omega, rfl, rfl, rfl, rfl, rfl, rfl, rfl, rfl, rfl, rfl, rfl, rfl, rfl⟩
          · have m3 := Nat.mul_one (b - 1)
            have m4 : (b : Int) - 1 = ((b - 1 : Nat) : Int) := by omega
            have m5 : ((b - 1 : Nat) : Int).toNat = b - 1 := by omega
            have hg2 := grS_get (wh := i) (c := 0) (t := 7) (b := b - 1) (by omega)
            simp only [szK] at hg2
            obtain ⟨gr2, hgr2⟩ : ∃ gr2, gr2 = i * 8 + (b - 1) * 8 / 8 := ⟨_, rfl⟩
            rw [← hgr2] at hg2
            refine viaF (And.intro m1 (And.intro m2 (And.intro m3 (And.intro m4 (And.intro m5 (And.intro hg1 (And.intro hg2 hmod))))))) ?_
            ((first | refine qc1 rfl rfl fun K hK => ?_ | refine qc3 rfl rfl fun K hK => ?_); simp (disch := (first | omega | (simp only [sz] <;> omega) | fail)) only [go_sem]; refine ⟨_, _, hszd, ?_⟩; (try simp only [go_sem]); with_reducible refine hK _ _ ?_; clear hK K)
            refine via ?_
            exact ih _ _ _ _ (by omega) ⟨b + 1, rfl, by omega, rfl, rfl, rfl, rfl, rfl, rfl, rfl, rfl, rfl, rfl, rfl, rfl, rfl⟩
        · obtain rfl : b = 8 := by omega
          clear ih
          refine via ?_
          refine Goes.forget ?_ (by simp only [List.length_cons, List.length_nil]; omega)
          exact inner _ _ (by simp only [List.length_cons, List.length_nil]; omega) (by simp only [List.length_cons, List.length_nil]; omega) rfl rfl rfl rfl rfl rfl rfl
      · simp only [blK]
        refine via ?_
        refine Goes.wh (fun z tmps h S' => ∃ (b : Nat), z = 4 - b ∧ b ≤ 4 ∧ S' = [.mem w2 bs, .port 0 0 st2] ∧ h = heapJ [some { cells := (geoC N 1).toList, elem := 24 }] q [some { cells := numRow .i64 (grS i 1 3), elem := 3, grow := g }, some { cells := [.int .i64 8, .int .i64 4, .int .i64 2, .int .i64 2], elem := 3, grow := some 0 }, some { cells := [.int .i64 8, .int .i64 16, .int .i64 8, .int .i64 32], elem := 3, grow := some 0 }] ∧ tmps.length = 192 ∧
          tmps.getD 6 undef = .bool false ∧ tmps.getD 7 undef = .int .i64 N ∧ tmps.getD 8 undef = .int .i64 i ∧ tmps.getD 9 undef = .int .i64 (1 : Nat) ∧ tmps.getD 10 undef = .pointer (some ⟨0, 0, none⟩) ∧ tmps.getD 11 undef = hndV 0 ∧ tmps.getD 12 undef = hndV 1 ∧ tmps.getD 18 undef = .slice (some ⟨q, 0, none⟩) 4 4 ∧ tmps.getD 22 undef = .int .i64 16 ∧ tmps.getD 23 undef = .int .i64 b) (m := 4)
          ⟨0, rfl, by omega, rfl, rfl, rfl, rfl, rfl, rfl, rfl, rfl, rfl, rfl, rfl, rfl, rfl⟩ ?_
        rintro z tmps h S' ih ⟨b, rfl, hb8, rfl, rfl, hl, f6, f7, f8, f9, f10, f11, f12, f18, f22, f23⟩
        obtain ⟨V, hV, hT⟩ := frame_lit hl; replace hT : _ = ([V 0, V 1, V 2, V 3, V 4, V 5, V 6, V 7, V 8, V 9, V 10, V 11, V 12, V 13, V 14, V 15, V 16, V 17, V 18, V 19, V 20, V 21, V 22, V 23, V 24, V 25, V 26, V 27, V 28, V 29, V 30, V 31, V 32, V 33, V 34, V 35, V 36, V 37, V 38, V 39, V 40, V 41, V 42, V 43, V 44, V 45, V 46, V 47, V 48, V 49, V 50, V 51, V 52, V 53, V 54, V 55, V 56, V 57, V 58, V 59, V 60, V 61, V 62, V 63, V 64, V 65, V 66, V 67, V 68, V 69, V 70, V 71, V 72, V 73, V 74, V 75, V 76, V 77, V 78, V 79, V 80, V 81, V 82, V 83, V 84, V 85, V 86, V 87, V 88, V 89, V 90, V 91, V 92, V 93, V 94, V 95, V 96, V 97, V 98, V 99, V 100, V 101, V 102, V 103, V 104, V 105, V 106, V 107, V 108, V 109, V 110, V 111, V 112, V 113, V 114, V 115, V 116, V 117, V 118, V 119, V 120, V 121, V 122, V 123, V 124, V 125, V 126, V 127, V 128, V 129, V 130, V 131, V 132, V 133, V 134, V 135, V 136, V 137, V 138, V 139, V 140, V 141, V 142, V 143, V 144, V 145, V 146, V 147, V 148, V 149, V 150, V 151, V 152, V 153, V 154, V 155, V 156, V 157, V 158, V 159, V 160, V 161, V 162, V 163, V 164, V 165, V 166, V 167, V 168, V 169, V 170, V 171, V 172, V 173, V 174, V 175, V 176, V 177, V 178, V 179, V 180, V 181, V 182, V 183, V 184, V 185, V 186, V 187, V 188, V 189, V 190, V 191] : List Value) := hT; rw [hV] at f6 f7 f8 f9 f10 f11 f12 f18 f22 f23; subst hT; simp only [f6, f7, f8, f9, f10, f11, f12, f18, f22, f23]; clear hV hl
        by_cases hlt3 : b < 4
        · have m1 := Nat.mul_one b
          have m2 : (b : Int).toNat = b := by omega
          have hg1 := grS_get (wh := i) (c := 1) (t := 3) (b := b) (by omega)
          have hszd := size_does [.mem w2 bs, .port 0 0 st2] 1 (by decide)
          simp only [szK] at hg1 hszd
          obtain ⟨gr, hgr⟩ : ∃ gr, gr = i * 8 + b * 16 / 8 := ⟨_, rfl⟩
          rw [← hgr] at hg1
          have hmod : ((gr : Int) * 8).tmod 16 = ((gr * 8 % 16 : Nat) : Int) := tmod_n (gr * 8) 16
          have hmod0 : gr * 8 % 16 = 0 := by omega
          rw [hmod0] at hmod
          refine viaF (And.intro m1 (And.intro m2 (And.intro hg1 hmod))) ?_
          ((first | refine qc1 rfl rfl fun K hK => ?_ | refine qc3 rfl rfl fun K hK => ?_); simp (disch := (first | omega | (simp only [sz] <;> omega) | fail)) only [go_sem]; refine ⟨_, _, hszd, ?_⟩; (try simp only [go_sem]); with_reducible refine hK _ _ ?_; clear hK K)
          by_cases hb0 : b = 0
          · subst hb0
            refine viaF (And.intro m1 (And.intro m2 (And.intro hg1 hmod))) ?_
            exact ih _ _ _ _ (by omega) ⟨1, rfl, by omega, rfl, rfl, rfl, rfl, rfl, rfl, rfl, rfl, rfl, rfl, rfl, rfl, rfl⟩
          · have m3 := Nat.mul_one (b - 1)
            have m4 : (b : Int) - 1 = ((b - 1 : Nat) : Int) := by omega
            have m5 : ((b - 1 : Nat) : Int).toNat = b - 1 := by omega
            have hg2 := grS_get (wh := i) (c := 1) (t := 3) (b := b - 1) (by omega)
            simp only [szK] at hg2
            obtain ⟨gr2, hgr2⟩ : ∃ gr2, gr2 = i * 8 + (b - 1) * 16 / 8 := ⟨_, rfl⟩
            rw [← hgr2] at hg2
            refine viaF (And.intro m1 (And.intro m2 (And.intro m3 (And.intro m4 (And.intro m5 (And.intro hg1 (And.intro hg2 hmod))))))) ?_
            ((first | refine qc1 rfl rfl fun K hK => ?_ | refine qc3 rfl rfl fun K hK => ?_); simp (disch := (first | omega | (simp only [sz] <;> omega) | fail)) only [go_sem]; refine ⟨_, _, hszd, ?_⟩; (try simp only [go_sem]); with_reducible refine hK _ _ ?_; clear hK K)
            refine via ?_
            exact ih _ _ _ _ (by omega) ⟨b + 1, rfl, by omega, rfl, rfl, rfl, rfl, rfl, rfl, rfl, rfl, rfl, rfl, rfl, rfl, rfl⟩
        · obtain rfl : b = 4 := by omega
          clear ih
          refine via ?_
          refine Goes.forget ?_ (by simp only [List.length_cons, List.length_nil]; omega)
          exact inner _ _ (by simp only [List.length_cons, List.length_nil]; omega) (by simp only [List.length_cons, List.length_nil]; omega) rfl rfl rfl rfl rfl rfl rfl
      · simp only [blK]
        refine via ?_
        refine Goes.wh (fun z tmps h S' => ∃ (b : Nat), z = 2 - b ∧ b ≤ 2 ∧ S' = [.mem w2 bs, .port 0 0 st2] ∧ h = heapJ [some { cells := (geoC N 1).toList, elem := 24 }] q [some { cells := numRow .i64 (grS i 2 1), elem := 3, grow := g }, some { cells := [.int .i64 8, .int .i64 4, .int .i64 2, .int .i64 2], elem := 3, grow := some 0 }, some { cells := [.int .i64 8, .int .i64 16, .int .i64 8, .int .i64 32], elem := 3, grow := some 0 }] ∧ tmps.length = 192 ∧
          tmps.getD 6 undef = .bool false ∧ tmps.getD 7 undef = .int .i64 N ∧ tmps.getD 8 undef = .int .i64 i ∧ tmps.getD 9 undef = .int .i64 (2 : Nat) ∧ tmps.getD 10 undef = .pointer (some ⟨0, 0, none⟩) ∧ tmps.getD 11 undef = hndV 0 ∧ tmps.getD 12 undef = hndV 1 ∧ tmps.getD 18 undef = .slice (some ⟨q, 0, none⟩) 2 2 ∧ tmps.getD 22 undef = .int .i64 8 ∧ tmps.getD 23 undef = .int .i64 b) (m := 2)
          ⟨0, rfl, by omega, rfl, rfl, rfl, rfl, rfl, rfl, rfl, rfl, rfl, rfl, rfl, rfl, rfl⟩ ?_
        rintro z tmps h S' ih ⟨b, rfl, hb8, rfl, rfl, hl, f6, f7, f8, f9, f10, f11, f12, f18, f22, f23⟩
        obtain ⟨V, hV, hT⟩ := frame_lit hl; replace hT : _ = ([V 0, V 1, V 2, V 3, V 4, V 5, V 6, V 7, V 8, V 9, V 10, V 11, V 12, V 13, V 14, V 15, V 16, V 17, V 18, V 19, V 20, V 21, V 22, V 23, V 24, V 25, V 26, V 27, V 28, V 29, V 30, V 31, V 32, V 33, V 34, V 35, V 36, V 37, V 38, V 39, V 40, V 41, V 42, V 43, V 44, V 45, V 46, V 47, V 48, V 49, V 50, V 51, V 52, V 53, V 54, V 55, V 56, V 57, V 58, V 59, V 60, V 61, V 62, V 63, V 64, V 65, V 66, V 67, V 68, V 69, V 70, V 71, V 72, V 73, V 74, V 75, V 76, V 77, V 78, V 79, V 80, V 81, V 82, V 83, V 84, V 85, V 86, V 87, V 88, V 89, V 90, V 91, V 92, V 93, V 94, V 95, V 96, V 97, V 98, V 99, V 100, V 101, V 102, V 103, V 104, V 105, V 106, V 107, V 108, V 109, V 110, V 111, V 112, V 113, V 114, V 115, V 116, V 117, V 118, V 119, V 120, V 121, V 122, V 123, V 124, V 125, V 126, V 127, V 128, V 129, V 130, V 131, V 132, V 133, V 134, V 135, V 136, V 137, V 138, V 139, V 140, V 141, V 142, V 143, V 144, V 145, V 146, V 147, V 148, V 149, V 150, V 151, V 152, V 153, V 154, V 155, V 156, V 157, V 158, V 159, V 160, V 161, V 162, V 163, V 164, V 165, V 166, V 167, V 168, V 169, V 170, V 171, V 172, V 173, V 174, V 175, V 176, V 177, V 178, V 179, V 180, V 181, V 182, V 183, V 184, V 185, V 186, V 187, V 188, V 189, V 190, V 191] : List Value) := hT; rw [hV] at f6 f7 f8 f9 f10 f11 f12 f18 f22 f23; subst hT; simp only [f6, f7, f8, f9, f10, f11, f12, f18, f22, f23]; clear hV hl
        by_cases hlt3 : b < 2
        · have m1 := Nat.mul_one b
          have m2 : (b : Int).toNat = b := by omega
          have hg1 := grS_get (wh := i) (c := 2) (t := 1) (b := b) (by omega)
          have hszd := size_does [.mem w2 bs, .port 0 0 st2] 2 (by decide)
          simp only [szK] at hg1 hszd
          obtain ⟨gr, hgr⟩ : ∃ gr, gr = i * 8 + b * 24 / 8 := ⟨_, rfl⟩
          rw [← hgr] at hg1
          have hmod : ((gr : Int) * 8).tmod 8 = ((gr * 8 % 8 : Nat) : Int) := tmod_n (gr * 8) 8
          have hmod0 : gr * 8 % 8 = 0 := by omega
          rw [hmod0] at hmod
          refine viaF (And.intro m1 (And.intro m2 (And.intro hg1 hmod))) ?_
          ((first | refine qc1 rfl rfl fun K hK => ?_ | refine qc3 rfl rfl fun K hK => ?_); simp (disch := (first | omega | (simp only [sz] <;> omega) | fail)) only [go_sem]; refine ⟨_, _, hszd, ?_⟩; (try simp only [go_sem]); with_reducible refine hK _ _ ?_; clear hK K)
          by_cases hb0 : b = 0
          · subst hb0
            refine viaF (And.intro m1 (And.intro m2 (And.intro hg1 hmod))) ?_
            exact ih _ _ _ _ (by omega) ⟨1, rfl, by omega, rfl, rfl, rfl, rfl, rfl, rfl, rfl, rfl, rfl, rfl, rfl, rfl, rfl⟩
          · have m3 := Nat.mul_one (b - 1)
            have m4 : (b : Int) - 1 = ((b - 1 : Nat) : Int) := by omega
            have m5 : ((b - 1 : Nat) : Int).toNat = b - 1 := by omega
            have hg2 := grS_get (wh := i) (c := 2) (t := 1) (b := b - 1) (by omega)
            simp only [szK] at hg2
            obtain ⟨gr2, hgr2⟩ : ∃ gr2, gr2 = i * 8 + (b - 1) * 24 / 8 := ⟨_, rfl⟩
            rw [← hgr2] at hg2
            refine viaF (And.intro m1 (And.intro m2 (And.intro m3 (And.intro m4 (And.intro m5 (And.intro hg1 (And.intro hg2 hmod))))))) ?_
            ((first | refine qc1 rfl rfl fun K hK => ?_ | refine qc3 rfl rfl fun K hK => ?_); simp (disch := (first | omega | (simp only [sz] <;> omega) | fail)) only [go_sem]; refine ⟨_, _, hszd, ?_⟩; (try simp only [go_sem]); with_reducible refine hK _ _ ?_; clear hK K)
            refine via ?_
            exact ih _ _ _ _ (by omega) ⟨b + 1, rfl, by omega, rfl, rfl, rfl, rfl, rfl, rfl, rfl, rfl, rfl, rfl, rfl, rfl, rfl⟩
        · obtain rfl : b = 2 := by omega
          clear ih
          refine via ?_
          refine Goes.forget ?_ (by simp only [List.length_cons, List.length_nil]; omega)
          exact inner _ _ (by simp only [List.length_cons, List.length_nil]; omega) (by simp only [List.length_cons, List.length_nil]; omega) rfl rfl rfl rfl rfl rfl rfl
      · simp only [blK]
        refine via ?_
        refine Goes.wh (fun z tmps h S' => ∃ (b : Nat), z = 2 - b ∧ b ≤ 2 ∧ S' = [.mem w2 bs, .port 0 0 st2] ∧ h = heapJ [some { cells := (geoC N 1).toList, elem := 24 }] q [some { cells := numRow .i64 (grS i 3 1), elem := 3, grow := g }, some { cells := [.int .i64 8, .int .i64 4, .int .i64 2, .int .i64 2], elem := 3, grow := some 0 }, some { cells := [.int .i64 8, .int .i64 16, .int .i64 8, .int .i64 32], elem := 3, grow := some 0 }] ∧ tmps.length = 192 ∧
          tmps.getD 6 undef = .bool false ∧ tmps.getD 7 undef = .int .i64 N ∧ tmps.getD 8 undef = .int .i64 i ∧ tmps.getD 9 undef = .int .i64 (3 : Nat) ∧ tmps.getD 10 undef = .pointer (some ⟨0, 0, none⟩) ∧ tmps.getD 11 undef = hndV 0 ∧ tmps.getD 12 undef = hndV 1 ∧ tmps.getD 18 undef = .slice (some ⟨q, 0, none⟩) 2 2 ∧ tmps.getD 22 undef = .int .i64 32 ∧ tmps.getD 23 undef = .int .i64 b) (m := 2)
          ⟨0, rfl, by omega, rfl, rfl, rfl, rfl, rfl, rfl, rfl, rfl, rfl, rfl, rfl, rfl, rfl⟩ ?_
        rintro z tmps h S' ih ⟨b, rfl, hb8, rfl, rfl, hl, f6, f7, f8, f9, f10, f11, f12, f18, f22, f23⟩
        obtain ⟨V, hV, hT⟩ := frame_lit hl; replace hT : _ = ([V 0, V 1, V 2, V 3, V 4, V 5, V 6, V 7, V 8, V 9, V 10, V 11, V 12, V 13, V 14, V 15, V 16, V 17, V 18, V 19, V 20, V 21, V 22, V 23, V 24, V 25, V 26, V 27, V 28, V 29, V 30, V 31, V 32, V 33, V 34, V 35, V 36, V 37, V 38, V 39, V 40, V 41, V 42, V 43, V 44, V 45, V 46, V 47, V 48, V 49, V 50, V 51, V 52, V 53, V 54, V 55, V 56, V 57, V 58, V 59, V 60, V 61, V 62, V 63, V 64, V 65, V 66, V 67, V 68, V 69, V 70, V 71, V 72, V 73, V 74, V 75, V 76, V 77, V 78, V 79, V 80, V 81, V 82, V 83, V 84, V 85, V 86, V 87, V 88, V 89, V 90, V 91, V 92, V 93, V 94, V 95, V 96, V 97, V 98, V 99, V 100, V 101, V 102, V 103, V 104, V 105, V 106, V 107, V 108, V 109, V 110, V 111, V 112, V 113, V 114, V 115, V 116, V 117, V 118, V 119, V 120, V 121, V 122, V 123, V 124, V 125, V 126, V 127, V 128, V 129, V 130, V 131, V 132, V 133, V 134, V 135, V 136, V 137, V 138, V 139, V 140, V 141, V 142, V 143, V 144, V 145, V 146, V 147, V 148, V 149, V 150, V 151, V 152, V 153, V 154, V 155, V 156, V 157, V 158, V 159, V 160, V 161, V 162, V 163, V 164, V 165, V 166, V 167, V 168, V 169, V 170, V 171, V 172, V 173, V 174, V 175, V 176, V 177, V 178, V 179, V 180, V 181, V 182, V 183, V 184, V 185, V 186, V 187, V 188, V 189, V 190, V 191] : List Value) := hT; rw [hV] at f6 f7 f8 f9 f10 f11 f12 f18 f22 f23; subst hT; simp only [f6, f7, f8, f9, f10, f11, f12, f18, f22, f23]; clear hV hl
        by_cases hlt3 : b < 2
        · have m1 := Nat.mul_one b
          have m2 : (b : Int).toNat = b := by omega
          have hg1 := grS_get (wh := i) (c := 3) (t := 1) (b := b) (by omega)
          have hszd := size_does [.mem w2 bs, .port 0 0 st2] 3 (by decide)
          simp only [szK] at hg1 hszd
          obtain ⟨gr, hgr⟩ : ∃ gr, gr = i * 8 + b * 32 / 8 := ⟨_, rfl⟩
          rw [← hgr] at hg1
          have hmod : ((gr : Int) * 8).tmod 32 = ((gr * 8 % 32 : Nat) : Int) := tmod_n (gr * 8) 32
          have hmod0 : gr * 8 % 32 = 0 := by omega
          rw [hmod0] at hmod
          refine viaF (And.intro m1 (And.intro m2 (And.intro hg1 hmod))) ?_
          ((first | refine qc1 rfl rfl fun K hK => ?_ | refine qc3 rfl rfl fun K hK => ?_); simp (disch := (first | omega | (simp only [sz] <;> omega) | fail)) only [go_sem]; refine ⟨_, _, hszd, ?_⟩; (try simp only [go_sem]); with_reducible refine hK _ _ ?_; clear hK K)
          by_cases hb0 : b = 0
          · subst hb0
            refine viaF (And.intro m1 (And.intro m2 (And.intro hg1 hmod))) ?_
            exact ih _ _ _ _ (by omega) ⟨1, rfl, by omega, rfl, rfl, rfl, rfl, rfl, rfl, rfl, rfl, rfl, rfl, rfl, rfl, rfl⟩
          · have m3 := Nat.mul_one (b - 1)
            have m4 : (b : Int) - 1 = ((b - 1 : Nat) : Int) := by omega
            have m5 : ((b - 1 : Nat) : Int).toNat = b - 1 := by omega
            have hg2 := grS_get (wh := i) (c := 3) (t := 1) (b := b - 1) (by omega)
            simp only [szK] at hg2
            obtain ⟨gr2, hgr2⟩ : ∃ gr2, gr2 = i * 8 + (b - 1) * 32 / 8 := ⟨_, rfl⟩
            rw [← hgr2] at hg2
            refine viaF (And.intro m1 (And.intro m2 (And.intro m3 (And.intro m4 (And.intro m5 (And.intro hg1 (And.intro hg2 hmod))))))) ?_
            ((first | refine qc1 rfl rfl fun K hK => ?_ | refine qc3 rfl rfl fun K hK => ?_); simp (disch := (first | omega | (simp only [sz] <;> omega) | fail)) only [go_sem]; refine ⟨_, _, hszd, ?_⟩; (try simp only [go_sem]); with_reducible refine hK _ _ ?_; clear hK K)
            refine via ?_
            exact ih _ _ _ _ (by omega) ⟨b + 1, rfl, by omega, rfl, rfl, rfl, rfl, rfl, rfl, rfl, rfl, rfl, rfl, rfl, rfl, rfl⟩
        · obtain rfl : b = 2 := by omega
          clear ih
          refine via ?_
          refine Goes.forget ?_ (by simp only [List.length_cons, List.length_nil]; omega)
          exact inner _ _ (by simp only [List.length_cons, List.length_nil]; omega) (by simp only [List.length_cons, List.length_nil]; omega) rfl rfl rfl rfl rfl rfl rfl
    · intro tmps q' hq'1 hq'2 hl f6 f8 f9 f10 f11 f24
      refine Goes.wh (fun z tmps h S' => ∃ (y qq : Nat), z = i - y ∧ y ≤ i ∧ 1 ≤ qq ∧ qq ≤ q + 10 + 10 * y ∧ S' = [.mem w2 bs, .port 0 0 st2] ∧ h = heapJ [some { cells := (geoC N 1).toList, elem := 24 }] qq [] ∧ tmps.length = 192 ∧
          tmps.getD 6 undef = .bool false ∧ tmps.getD 8 undef = .int .i64 i ∧ tmps.getD 9 undef = .int .i64 c ∧ tmps.getD 10 undef = .pointer (some ⟨0, 0, none⟩) ∧ tmps.getD 11 undef = hndV 0 ∧ tmps.getD 24 undef = .int .i64 y) (m := i)
          ⟨0, q', rfl, by omega, hq'1, by omega, rfl, rfl, hl, f6, f8, f9, f10, f11, f24⟩ ?_
      clear hl f6 f8 f9 f10 f11 f24
      rintro z tmps h S' ih ⟨y, qq, rfl, hy, hqq1, hqq2, rfl, rfl, hl, f6, f8, f9, f10, f11, f24⟩
      obtain ⟨V, hV, hT⟩ := frame_lit hl; replace hT : _ = ([V 0, V 1, V 2, V 3, V 4, V 5, V 6, V 7, V 8, V 9, V 10, V 11, V 12, V 13, V 14, V 15, V 16, V 17, V 18, V 19, V 20, V 21, V 22, V 23, V 24, V 25, V 26, V 27, V 28, V 29, V 30, V 31, V 32, V 33, V 34, V 35, V 36, V 37, V 38, V 39, V 40, V 41, V 42, V 43, V 44, V 45, V 46, V 47, V 48, V 49, V 50, V 51, V 52, V 53, V 54, V 55, V 56, V 57, V 58, V 59, V 60, V 61, V 62, V 63, V 64, V 65, V 66, V 67, V 68, V 69, V 70, V 71, V 72, V 73, V 74, V 75, V 76, V 77, V 78, V 79, V 80, V 81, V 82, V 83, V 84, V 85, V 86, V 87, V 88, V 89, V 90, V 91, V 92, V 93, V 94, V 95, V 96, V 97, V 98, V 99, V 100, V 101, V 102, V 103, V 104, V 105, V 106, V 107, V 108, V 109, V 110, V 111, V 112, V 113, V 114, V 115, V 116, V 117, V 118, V 119, V 120, V 121, V 122, V 123, V 124, V 125, V 126, V 127, V 128, V 129, V 130, V 131, V 132, V 133, V 134, V 135, V 136, V 137, V 138, V 139, V 140, V 141, V 142, V 143, V 144, V 145, V 146, V 147, V 148, V 149, V 150, V 151, V 152, V 153, V 154, V 155, V 156, V 157, V 158, V 159, V 160, V 161, V 162, V 163, V 164, V 165, V 166, V 167, V 168, V 169, V 170, V 171, V 172, V 173, V 174, V 175, V 176, V 177, V 178, V 179, V 180, V 181, V 182, V 183, V 184, V 185, V 186, V 187, V 188, V 189, V 190, V 191] : List Value) := hT; rw [hV] at f6 f8 f9 f10 f11 f24; subst hT; simp only [f6, f8, f9, f10, f11, f24]; clear hV hl
      by_cases hlt4 : y < i
      · have hk4 := Nat.mod_lt (c + y) (show 0 < 4 by decide)
        have hby := hbd y hlt4
        have hm4 : mapK ((c + y) % 4) < 256 := by unfold mapK; split <;> omega
        have e1 : (c : Int) + (y : Int) = ((c + y : Nat) : Int) := by push_cast; rfl
        have e2 : ((c + y : Nat) : Int).tmod 4 = (((c + y) % 4 : Nat) : Int) := tmod_n (c + y) 4
        have e3 : ((((c + y) % 4 : Nat) : Int) != (((c + y) % 4 : Nat) : Int)) = false := by simp
        refine via ?_
        ((first | refine qp1 rfl rfl fun K hK => ?_ | refine qp3 rfl rfl fun K hK => ?_); simp (disch := (first | omega | (simp only [sz] <;> omega) | fail)) only [go_sem]; refine ⟨_, _, qpu fun w => gBits_any N 1 y w (by omega) (by decide), ?_⟩; (try simp only [go_sem]); with_reducible refine hK _ _ ?_; clear hK K)
        refine via ?_
        ((first | refine qp1 rfl rfl fun K hK => ?_ | refine qp3 rfl rfl fun K hK => ?_); simp (disch := (first | omega | (simp only [sz] <;> omega) | fail)) only [go_sem]; refine ⟨_, _, .word _ rfl, ?_⟩; (try simp only [go_sem]); with_reducible refine hK _ _ ?_; clear hK K)
        rw [ld_w hby]
        refine via ?_
        ((first | refine qc1 rfl rfl fun K hK => ?_ | refine qc3 rfl rfl fun K hK => ?_); simp (disch := (first | omega | (simp only [sz] <;> omega) | fail)) only [go_sem]; refine ⟨_, _, bitsOf_does _ (btU (mapK ((c + y) % 4)) true ((c + y) % 4) 1), ?_⟩; (try simp only [go_sem]); with_reducible refine hK _ _ ?_; clear hK K)
        rw [btOf_U hm4 hk4 (by decide)]
        unfold btV
        refine viaF (And.intro e1 (And.intro e2 e3)) ?_
        refine Goes.forget ?_ (by simp only [List.length_cons, List.length_nil]; omega)
        exact ih _ _ _ _ (by omega) ⟨y + 1, _, rfl, by omega, by simp only [List.length_cons, List.length_nil]; omega, by simp only [List.length_cons, List.length_nil]; omega, rfl, rfl, rfl, rfl, rfl, rfl, rfl, rfl, rfl⟩
      · refine via ?_
        ((first | refine qp1 rfl rfl fun K hK => ?_ | refine qp3 rfl rfl fun K hK => ?_); simp (disch := (first | omega | (simp only [sz] <;> omega) | fail)) only [go_sem]; refine ⟨_, _, qpu fun w => awake11_any w, ?_⟩; (try simp only [go_sem]); with_reducible refine hK _ _ ?_; clear hK K)
        refine via ?_
        exact Goes.law rfl rfl
theorem slabBlocks_walk (a0 a1 a2 : Int) (w : World) (w0 : (Lit.int .u8 a0).wf = true) (w1 : (Lit.int .u8 a1).wf = true) (w2 : (Lit.int .u8 a2).wf = true) :
    Calls Try.prog 8 #[.int .u8 a0, .int .u8 a1, .int .u8 a2] w fun e w' => e = .returned (.bool true) ∧ Below w.heap.size w w' := by
  have h0 : 0 ≤ a0 ∧ a0 ≤ 255 := by simpa [Lit.wf, IntKind.min, IntKind.max, IntKind.signed, IntKind.bits] using w0
  have h1 : 0 ≤ a1 ∧ a1 ≤ 255 := by simpa [Lit.wf, IntKind.min, IntKind.max, IntKind.signed, IntKind.bits] using w1
  have h2 : 0 ≤ a2 ∧ a2 ≤ 255 := by simpa [Lit.wf, IntKind.min, IntKind.max, IntKind.signed, IntKind.bits] using w2
  obtain ⟨x, rfl⟩ := Int.eq_ofNat_of_zero_le h0.1
  obtain ⟨y, rfl⟩ := Int.eq_ofNat_of_zero_le h1.1
  obtain ⟨z, rfl⟩ := Int.eq_ofNat_of_zero_le h2.1
  have L := (slabBlocks_law x y z (by omega) (by omega) (by omega)).calls ⟨fun _ => 0, fun _ => 0, fun _ => 0⟩ w (fun n b hb => by simp at hb) (by simp)
  simp only [List.map_toArray, List.map_cons, List.map_nil, ren_int] at L
  exact L.mono fun e w' h => ⟨h.1, h.2.below⟩
end Go.Proofs.Ytjdbknnacaacaaa
