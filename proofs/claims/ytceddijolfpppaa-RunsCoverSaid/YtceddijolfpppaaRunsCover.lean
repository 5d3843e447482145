/-
  Layer 10: RunsCover.
  No condition.
-/
import Derived.Test.YtceddijolfpppaaRunsH
namespace Go.Proofs.Ytceddijolfpppaa
open Go Go.RowKit
set_option linter.unusedSimpArgs false
set_option linter.unusedVariables false

structure Act10 where
  d : Nat
  k : Int
  a : Int
def a10C (x : Act10) : List Value := [.int .u8 x.d, .int .i16 x.k, .int .i16 x.a]
theorem a10C_len (x : Act10) : (a10C x).length = 3 := rfl
theorem a10C_plain (x : Act10) : ∀ v ∈ a10C x, plainB v = true := by simp [a10C, plainB]
def Bd10 (y : Act10) : Prop := y.d ≤ 255 ∧ -32768 ≤ y.k ∧ y.k ≤ 32767 ∧ -32768 ≤ y.a ∧ y.a ≤ 32767

def K145 (L : List Rn) : Prop := ∀ r ∈ L, r.1 = 1 ∨ r.1 = 4 ∨ r.1 = 5
theorem K145.append {A C : List Rn} : K145 (A ++ C) ↔ K145 A ∧ K145 C := by
  simp only [K145, List.mem_append]
  exact ⟨fun h => ⟨fun r hr => h r (.inl hr), fun r hr => h r (.inr hr)⟩, fun ⟨h1, h2⟩ r hr => hr.elim (h1 r) (h2 r)⟩
theorem K145.cons {r : Rn} {L : List Rn} : K145 (r :: L) ↔ (r.1 = 1 ∨ r.1 = 4 ∨ r.1 = 5) ∧ K145 L := by simp [K145]
theorem K145.fr (n : Nat) : K145 (fr n) := by
  intro r hr
  cases n with
  | zero => cases hr
  | succ n => simp only [Go.Proofs.Ytceddijolfpppaa.fr, List.mem_singleton] at hr; subst hr; exact .inl rfl
/-- The runs of n pages. -/
structure Ru (n : Nat) (L : List Rn) : Prop where
  pos : Pos L
  na : nadj L
  tot : tot L = n
  kd : K145 L
theorem Ru.alloc {N T n : Nat} {k a : Int} {ws0 ws ws' : List UInt64} {L L' : List Rn} {v : Value} (h : Ru n L) (s : AllocSaid k a N T ws0 ws L v ws' L') : Ru n L' := by
  rcases s with ⟨_, rfl, _, _⟩ | ⟨h1, h2, A, C, f, r, rfl, _, rfl, _⟩
  · exact h
  · obtain ⟨p1, p2⟩ := Pos.append.1 h.pos
    obtain ⟨q1, q2⟩ := K145.append.1 h.kd
    obtain ⟨n1, n2, n3⟩ := nadj_append.1 h.na
    have ht := h.tot
    have hC : lastF A = false := by
      cases e : lastF A with
      | false => rfl
      | true => exact absurd ⟨e, rfl⟩ n3
    have hD : headF C = false := by
      cases e : headF C with
      | false => rfl
      | true => exact absurd ⟨rfl, e⟩ n2.1
    refine ⟨Pos.append.2 ⟨p1, Pos.append.2 ⟨pos_fr f, Pos.cons.2 ⟨⟨by simp only; omega, .inr (by simp)⟩, Pos.append.2 ⟨pos_fr r, (Pos.cons.1 p2).2⟩⟩⟩⟩, ?_, ?_, K145.append.2 ⟨q1, K145.append.2 ⟨K145.fr f, K145.cons.2 ⟨.inr (.inl rfl), K145.append.2 ⟨K145.fr r, (K145.cons.1 q2).2⟩⟩⟩⟩⟩
    · refine nadj_append.2 ⟨n1, nadj_append.2 ⟨nadj_fr f, ⟨fun h => by simp at h, nadj_append.2 ⟨nadj_fr r, n2.2, fun h => by rw [hD] at h; simp at h⟩⟩, fun h => by simp [headF] at h⟩, fun h => by rw [hC] at h; simp at h⟩
    · simp only [tot_append, tot_fr, Go.Proofs.Ytceddijolfpppaa.tot] at ht ⊢; omega
theorem Ru.free {n : Nat} {page k : Int} {L L' : List Rn} {v : Bool} (h : Ru n L) (s : FreeSaid page k L v L') : Ru n L' := by
  rcases s with ⟨_, rfl, _⟩ | ⟨_, A, b, q, m, c, C, rfl, h1, h2, _, _, h3, _, _, rfl⟩
  · exact h
  · have ht := h.tot
    have p2 := (Pos.append.1 (Pos.cons.1 (Pos.append.1 (Pos.append.1 h.pos).2).2).2).2
    have q2 := (K145.append.1 (K145.cons.1 (K145.append.1 (K145.append.1 h.kd).2).2).2).2
    refine ⟨Pos.append.2 ⟨(Pos.append.1 h.pos).1, Pos.cons.2 ⟨⟨by simp only; omega, .inl rfl⟩, p2⟩⟩, nadj_freed h.na h1 h2, ?_, K145.append.2 ⟨(K145.append.1 h.kd).1, K145.cons.2 ⟨.inl rfl, q2⟩⟩⟩
    simp only [tot_append, tot_fr, Go.Proofs.Ytceddijolfpppaa.tot] at ht ⊢; omega
theorem headF_kind {C : List Rn} {q q' n : Nat} (h1 : q ≠ 1) (h2 : q' ≠ 1) : headF ((q, n) :: C) = headF ((q', n) :: C) := by simp [headF, h1, h2]
theorem nadj_kind {A C : List Rn} {q q' n : Nat} (h1 : q ≠ 1) (h2 : q' ≠ 1) (h : nadj (A ++ (q, n) :: C)) : nadj (A ++ (q', n) :: C) := by
  obtain ⟨n1, n2, n3⟩ := nadj_append.1 h
  exact nadj_append.2 ⟨n1, ⟨fun h => h2 h.1, n2.2⟩, by rw [headF_kind h2 h1]; exact n3⟩
theorem Ru.mark {n : Nat} {page k : Int} {L L' : List Rn} {v : Bool} (h : Ru n L) (s : MarkSaid page k L v L') : Ru n L' := by
  rcases s with ⟨_, rfl, _⟩ | ⟨_, A, m, C, rfl, _, _, h3, rfl⟩
  · exact h
  · have ht := h.tot
    refine ⟨Pos.append.2 ⟨(Pos.append.1 h.pos).1, Pos.cons.2 ⟨⟨h3, .inr (by simp)⟩, (Pos.cons.1 (Pos.append.1 h.pos).2).2⟩⟩, nadj_kind (by decide) (by decide) h.na, ?_, K145.append.2 ⟨(K145.append.1 h.kd).1, K145.cons.2 ⟨.inr (.inr rfl), (K145.cons.1 (K145.append.1 h.kd).2).2⟩⟩⟩
    simp only [tot_append, Go.Proofs.Ytceddijolfpppaa.tot] at ht ⊢; omega
theorem Ru.fre {n k : Nat} {L L' : List Rn} (h : Ru n L) (s : FreN k L L') : Ru n L' := by
  induction s with
  | refl => exact h
  | step _ s ih =>
    have h := ih h
    obtain ⟨A, b, m, c, C, rfl, h1, h2, h3, rfl⟩ := s
    exact h.free (v := true) (.inr ⟨rfl, A, b, 5, m, c, C, rfl, h1, h2, by decide, by decide, h3, rfl, rfl, rfl⟩)

theorem share {α : Type} {P : α → Prop} {Q : Prop} {T : α} (h2 : P T → Q) (h1 : P T) : Q := h2 h1

set_option maxHeartbeats 20000000 in
set_option maxRecDepth 10000 in
theorem runsCover_law (pg : Nat) (sl : Option Addr) (c : Nat) (l : List Act10) (ob : Option Blk) (hcl : SlAt 0 sl) (hrow : RowIs a10C 0 sl l ob) (hlen : l.length ≤ 9223372036854775807) (hpg : pg ≤ 255) (hbd : ∀ y ∈ l, Bd10 y) :
    Law 9 #[.int .u8 pg, .slice sl l.length c] [ob] := by
  refine Law.mk Try.func9 rfl rfl (clo2 iclo (hcl.clo (by simp))) ?_
  rw [Try.ntmps9]; simp only [List.size_toArray, List.length_cons, List.length_nil, List.replicate, List.cons_append, List.nil_append]
  by_cases h40 : l.length > 40
  · repeat (first | refine Goes.reg ?_ | refine Goes.ctl2 rfl ?_ | ((first | refine qv1 rfl rfl rfl fun K hK => ?_ | refine qv3 rfl rfl rfl fun K hK => ?_ | refine qv2 rfl rfl rfl rfl rfl rfl fun K hK => ?_ | refine qv4 rfl rfl rfl rfl rfl rfl fun K hK => ?_ | refine qn1 rfl rfl rfl fun K hK => ?_ | refine qn3 rfl rfl rfl fun K hK => ?_ | refine qt1 rfl rfl rfl fun K hK => ?_ | refine qt3 rfl rfl rfl fun K hK => ?_); simp (disch := (first | omega | (simp only [sz] <;> omega) | fail)) only [go_sem]; with_reducible refine hK _ _ ?_; clear hK K) | refine At.nil rfl ?_ | refine RG.nil rfl ?_ | ((first | refine AtL.skipg rfl rfl rfl rfl rfl ?_ | refine RGL.skipg rfl rfl rfl rfl rfl ?_ | refine AtL.skipu rfl rfl rfl rfl ?_ | refine RGL.skipu rfl rfl rfl rfl ?_); simp only [putL, List.set_cons_zero, List.set_cons_succ]) | refine Goes.yes rfl ?_ | refine Goes.no rfl ?_ | refine Goes.drawR [] (by kernel_rfl) ?_)
    ((first | refine qp1 rfl rfl fun K hK => ?_ | refine qp3 rfl rfl fun K hK => ?_); simp (disch := (first | omega | (simp only [sz] <;> omega) | fail)) only [go_sem]; refine ⟨_, _, qpu fun w => awake10_any w, ?_⟩; (try simp only [go_sem]); with_reducible refine hK _ _ ?_; clear hK K)
    repeat (first | refine Goes.reg ?_ | refine Goes.ctl2 rfl ?_ | ((first | refine qv1 rfl rfl rfl fun K hK => ?_ | refine qv3 rfl rfl rfl fun K hK => ?_ | refine qv2 rfl rfl rfl rfl rfl rfl fun K hK => ?_ | refine qv4 rfl rfl rfl rfl rfl rfl fun K hK => ?_ | refine qn1 rfl rfl rfl fun K hK => ?_ | refine qn3 rfl rfl rfl fun K hK => ?_ | refine qt1 rfl rfl rfl fun K hK => ?_ | refine qt3 rfl rfl rfl fun K hK => ?_); simp (disch := (first | omega | (simp only [sz] <;> omega) | fail)) only [go_sem]; with_reducible refine hK _ _ ?_; clear hK K) | refine At.nil rfl ?_ | refine RG.nil rfl ?_ | ((first | refine AtL.skipg rfl rfl rfl rfl rfl ?_ | refine RGL.skipg rfl rfl rfl rfl rfl ?_ | refine AtL.skipu rfl rfl rfl rfl ?_ | refine RGL.skipu rfl rfl rfl rfl ?_); simp only [putL, List.set_cons_zero, List.set_cons_succ]) | refine Goes.yes rfl ?_ | refine Goes.no rfl ?_ | refine Goes.drawR [] (by kernel_rfl) ?_)
    exact Goes.law rfl rfl
  have hm64 : (pg : Int).tmod 64 = ((pg % 64 : Nat) : Int) := tmod_n pg 64
  have h64 := Nat.mod_lt pg (show 0 < 64 by decide)
  repeat (first | refine Goes.reg ?_ | refine Goes.ctl2 rfl ?_ | ((first | refine qv1 rfl rfl rfl fun K hK => ?_ | refine qv3 rfl rfl rfl fun K hK => ?_ | refine qv2 rfl rfl rfl rfl rfl rfl fun K hK => ?_ | refine qv4 rfl rfl rfl rfl rfl rfl fun K hK => ?_ | refine qn1 rfl rfl rfl fun K hK => ?_ | refine qn3 rfl rfl rfl fun K hK => ?_ | refine qt1 rfl rfl rfl fun K hK => ?_ | refine qt3 rfl rfl rfl fun K hK => ?_); simp (disch := (first | omega | (simp only [sz] <;> omega) | fail)) only [go_sem, hm64]; with_reducible refine hK _ _ ?_; clear hK K) | refine At.nil rfl ?_ | refine RG.nil rfl ?_ | ((first | refine AtL.skipg rfl rfl rfl rfl rfl ?_ | refine RGL.skipg rfl rfl rfl rfl rfl ?_ | refine AtL.skipu rfl rfl rfl rfl ?_ | refine RGL.skipu rfl rfl rfl rfl ?_); simp only [putL, List.set_cons_zero, List.set_cons_succ]) | refine Goes.yes rfl ?_ | refine Goes.no rfl ?_ | refine Goes.drawR [] (by kernel_rfl) ?_)
  obtain ⟨n, hn⟩ : ∃ n, n = pg % 64 + 1 := ⟨_, rfl⟩
  rw [show ((pg % 64 : Nat) : Int) + 1 = ((n : Nat) : Int) by omega]
  have hn1 : 1 ≤ n := by omega
  have hn2 : n ≤ 64 := by omega
  obtain ⟨ws0, st0, hst0, hP0, hd0⟩ := begun10_does [] n 2 hn1 (by omega) (by decide) (by decide)
  simp only [List.length_nil, List.nil_append, Nat.zero_add] at hd0
  clear hm64 h64
  ((first | refine qc1 rfl rfl fun K hK => ?_ | refine qc3 rfl rfl fun K hK => ?_); simp (disch := (first | omega | (simp only [sz] <;> omega) | fail)) only [go_sem]; refine ⟨_, _, hd0, ?_⟩; (try simp only [go_sem]); with_reducible refine hK _ _ ?_; clear hK K)
  repeat (first | refine Goes.reg ?_ | refine Goes.ctl2 rfl ?_ | ((first | refine qv1 rfl rfl rfl fun K hK => ?_ | refine qv3 rfl rfl rfl fun K hK => ?_ | refine qv2 rfl rfl rfl rfl rfl rfl fun K hK => ?_ | refine qv4 rfl rfl rfl rfl rfl rfl fun K hK => ?_ | refine qn1 rfl rfl rfl fun K hK => ?_ | refine qn3 rfl rfl rfl fun K hK => ?_ | refine qt1 rfl rfl rfl fun K hK => ?_ | refine qt3 rfl rfl rfl fun K hK => ?_); simp (disch := (first | omega | (simp only [sz] <;> omega) | fail)) only [go_sem]; with_reducible refine hK _ _ ?_; clear hK K) | refine At.nil rfl ?_ | refine RG.nil rfl ?_ | ((first | refine AtL.skipg rfl rfl rfl rfl rfl ?_ | refine RGL.skipg rfl rfl rfl rfl rfl ?_ | refine AtL.skipu rfl rfl rfl rfl ?_ | refine RGL.skipu rfl rfl rfl rfl ?_); simp only [putL, List.set_cons_zero, List.set_cons_succ]) | refine Goes.yes rfl ?_ | refine Goes.no rfl ?_ | refine Goes.drawR [] (by kernel_rfl) ?_)
  refine Goes.wh (fun z tmps h S => ∃ (i q st : Nat) (ws : List UInt64) (L : List Rn), z = l.length - i ∧ i ≤ l.length ∧ 2 ≤ q ∧ q ≤ 2 + 200 * i ∧ st ≤ 10 + 2000 * i ∧ Pg n 2 (List.replicate (gb n 2 19) 0) ws (pw L) (bw L) ∧ Ru n L ∧ S = [.mem ws (List.replicate (64 * n) 0), .port 0 0 st] ∧
    h = heapJ [ob, some { cells := (geoC n 2).toList, elem := 26 }] q [] ∧ tmps.length = 208 ∧ tmps.getD 1 undef = .slice sl l.length c ∧ tmps.getD 5 undef = .int .i64 n ∧ tmps.getD 6 undef = .pointer (some ⟨1, 0, none⟩) ∧ tmps.getD 7 undef = hndV 0 ∧ tmps.getD 8 undef = hndV 1 ∧ tmps.getD 9 undef = .int .i64 i) (m := l.length)
    ⟨0, 2, st0, ws0, [(1, n)], rfl, by omega, by omega, by omega, by omega, hP0, ⟨fun r hr => by rw [List.mem_singleton.1 hr]; exact ⟨hn1, .inl rfl⟩, ⟨fun h => by simp [headF] at h, trivial⟩, by simp [tot], fun r hr => by rw [List.mem_singleton.1 hr]; exact .inl rfl⟩, rfl, gap_of _, rfl, rfl, rfl, rfl, rfl, rfl, rfl⟩ ?_
  clear hP0 hd0 hst0
  rintro z tmps h S ih ⟨i, q, st, ws, L, rfl, hi, hq1, hq2, hst, hP, hR, rfl, rfl, hl, f1, f5, f6, f7, f8, f9⟩
  obtain ⟨V, hV, hT⟩ := frame_lit hl; replace hT : _ = ([V 0, V 1, V 2, V 3, V 4, V 5, V 6, V 7, V 8, V 9, V 10, V 11, V 12, V 13, V 14, V 15, V 16, V 17, V 18, V 19, V 20, V 21, V 22, V 23, V 24, V 25, V 26, V 27, V 28, V 29, V 30, V 31, V 32, V 33, V 34, V 35, V 36, V 37, V 38, V 39, V 40, V 41, V 42, V 43, V 44, V 45, V 46, V 47, V 48, V 49, V 50, V 51, V 52, V 53, V 54, V 55, V 56, V 57, V 58, V 59, V 60, V 61, V 62, V 63, V 64, V 65, V 66, V 67, V 68, V 69, V 70, V 71, V 72, V 73, V 74, V 75, V 76, V 77, V 78, V 79, V 80, V 81, V 82, V 83, V 84, V 85, V 86, V 87, V 88, V 89, V 90, V 91, V 92, V 93, V 94, V 95, V 96, V 97, V 98, V 99, V 100, V 101, V 102, V 103, V 104, V 105, V 106, V 107, V 108, V 109, V 110, V 111, V 112, V 113, V 114, V 115, V 116, V 117, V 118, V 119, V 120, V 121, V 122, V 123, V 124, V 125, V 126, V 127, V 128, V 129, V 130, V 131, V 132, V 133, V 134, V 135, V 136, V 137, V 138, V 139, V 140, V 141, V 142, V 143, V 144, V 145, V 146, V 147, V 148, V 149, V 150, V 151, V 152, V 153, V 154, V 155, V 156, V 157, V 158, V 159, V 160, V 161, V 162, V 163, V 164, V 165, V 166, V 167, V 168, V 169, V 170, V 171, V 172, V 173, V 174, V 175, V 176, V 177, V 178, V 179, V 180, V 181, V 182, V 183, V 184, V 185, V 186, V 187, V 188, V 189, V 190, V 191, V 192, V 193, V 194, V 195, V 196, V 197, V 198, V 199, V 200, V 201, V 202, V 203, V 204, V 205, V 206, V 207] : List Value) := hT; rw [hV] at f1 f5 f6 f7 f8 f9; subst hT; simp only [f1, f5, f6, f7, f8, f9]; clear hV hl
  by_cases hlt : i < l.length
  case neg =>
    obtain rfl : i = l.length := by omega
    repeat (first | refine Goes.reg ?_ | refine Goes.ctl2 rfl ?_ | ((first | refine qv1 rfl rfl rfl fun K hK => ?_ | refine qv3 rfl rfl rfl fun K hK => ?_ | refine qv2 rfl rfl rfl rfl rfl rfl fun K hK => ?_ | refine qv4 rfl rfl rfl rfl rfl rfl fun K hK => ?_ | refine qn1 rfl rfl rfl fun K hK => ?_ | refine qn3 rfl rfl rfl fun K hK => ?_ | refine qt1 rfl rfl rfl fun K hK => ?_ | refine qt3 rfl rfl rfl fun K hK => ?_); simp (disch := (first | omega | (simp only [sz] <;> omega) | fail)) only [go_sem]; with_reducible refine hK _ _ ?_; clear hK K) | refine At.nil rfl ?_ | refine RG.nil rfl ?_ | ((first | refine AtL.skipg rfl rfl rfl rfl rfl ?_ | refine RGL.skipg rfl rfl rfl rfl rfl ?_ | refine AtL.skipu rfl rfl rfl rfl ?_ | refine RGL.skipu rfl rfl rfl rfl ?_); simp only [putL, List.set_cons_zero, List.set_cons_succ]) | refine Goes.yes rfl ?_ | refine Goes.no rfl ?_ | refine Goes.drawR [] (by kernel_rfl) ?_)
    ((first | refine qp1 rfl rfl fun K hK => ?_ | refine qp3 rfl rfl fun K hK => ?_); simp (disch := (first | omega | (simp only [sz] <;> omega) | fail)) only [go_sem]; refine ⟨_, _, qpu fun w => awake10_any w, ?_⟩; (try simp only [go_sem]); with_reducible refine hK _ _ ?_; clear hK K)
    repeat (first | refine Goes.reg ?_ | refine Goes.ctl2 rfl ?_ | ((first | refine qv1 rfl rfl rfl fun K hK => ?_ | refine qv3 rfl rfl rfl fun K hK => ?_ | refine qv2 rfl rfl rfl rfl rfl rfl fun K hK => ?_ | refine qv4 rfl rfl rfl rfl rfl rfl fun K hK => ?_ | refine qn1 rfl rfl rfl fun K hK => ?_ | refine qn3 rfl rfl rfl fun K hK => ?_ | refine qt1 rfl rfl rfl fun K hK => ?_ | refine qt3 rfl rfl rfl fun K hK => ?_); simp (disch := (first | omega | (simp only [sz] <;> omega) | fail)) only [go_sem]; with_reducible refine hK _ _ ?_; clear hK K) | refine At.nil rfl ?_ | refine RG.nil rfl ?_ | ((first | refine AtL.skipg rfl rfl rfl rfl rfl ?_ | refine RGL.skipg rfl rfl rfl rfl rfl ?_ | refine AtL.skipu rfl rfl rfl rfl ?_ | refine RGL.skipu rfl rfl rfl rfl ?_); simp only [putL, List.set_cons_zero, List.set_cons_succ]) | refine Goes.yes rfl ?_ | refine Goes.no rfl ?_ | refine Goes.drawR [] (by kernel_rfl) ?_)
    exact Goes.law rfl rfl
  obtain ⟨rfl, el, rfl⟩ := hrow (by omega)
  obtain ⟨x, hx⟩ : ∃ x, x = l[i] := ⟨_, rfl⟩
  have hlk : l[i]? = some x := by rw [hx]; exact List.getElem?_eq_getElem hlt
  obtain ⟨hb1, hb2, hb3, hb4, hb5⟩ := hbd x (by rw [hx]; exact List.getElem_mem hlt)
  have hcL := rowC_len a10C_len l
  have g0 : (rowC a10C l)[i * 3]? = some (.int .u8 x.d) := rowC_get (j := 0) a10C_len hlk (by decide)
  have g1 : (rowC a10C l)[i * 3 + 1]? = some (.int .i16 x.k) := rowC_get a10C_len hlk (by decide)
  have g2 : (rowC a10C l)[i * 3 + 2]? = some (.int .i16 x.a) := rowC_get a10C_len hlk (by decide)
  have hdm : (x.d : Int).tmod 4 = ((x.d % 4 : Nat) : Int) := tmod_n x.d 4
  have h4 := Nat.mod_lt x.d (show 0 < 4 by decide)
  have hp0 : ([Ob.mem ws (List.replicate (64 * n) 0), Ob.port 0 0 st] : St)[1]? = some (.port 0 0 st) := rfl
  have hm0 : ([Ob.mem ws (List.replicate (64 * n) 0), Ob.port 0 0 st] : St)[0]? = some (.mem ws (List.replicate (64 * n) 0)) := rfl
  have hacc : ∀ st' ws', accS [Ob.mem ws (List.replicate (64 * n) 0), Ob.port 0 0 st] 1 0 ((0 : Nat) : Int) st' ws' (List.replicate (64 * n) 0) = [Ob.mem ws' (List.replicate (64 * n) 0), Ob.port 0 0 st'] := fun _ _ => rfl
  obtain ⟨d4, hd4⟩ : ∃ d4, d4 = x.d % 4 := ⟨_, rfl⟩
  rw [← hd4] at hdm h4
  obtain ⟨kn, hkn⟩ := Int.eq_ofNat_of_zero_le (show 0 ≤ max 0 x.k by omega)
  have hmax : (if x.k > 0 then x.k else 0) = (kn : Int) := by rw [← hkn]; split <;> omega
  have hrem : (kn : Int).tmod (n : Int) = ((kn % n : Nat) : Int) := tmod_n kn n
  obtain ⟨y, hy⟩ : ∃ y, y = kn % n := ⟨_, rfl⟩
  have hyn : y < n := by rw [hy]; exact Nat.mod_lt _ (by omega)
  rw [← hy] at hrem
  have hu := hP.pg y hyn
  have hd4' : d4 = 0 ∨ d4 = 1 ∨ d4 = 2 ∨ d4 = 3 := by omega
  apply share (P := fun todo : List Item => ∀ (tmps : List Value) (q' st1 : Nat) (ws1 : List UInt64) (L1 : List Rn), q ≤ q' → q' ≤ q + 1 → st1 ≤ st + 2000 → Pg n 2 (List.replicate (gb n 2 19) 0) ws1 (pw L1) (bw L1) → Ru n L1 → tmps.length = 208 →
    tmps.getD 1 undef = .slice (some ⟨0, 0, none⟩) l.length c → tmps.getD 5 undef = .int .i64 n → tmps.getD 6 undef = .pointer (some ⟨1, 0, none⟩) → tmps.getD 7 undef = hndV 0 → tmps.getD 8 undef = hndV 1 → tmps.getD 9 undef = .int .i64 i → tmps.getD 14 undef = .bool false → tmps.getD 15 undef = .int .i64 0 →
    Goes OF Try.f9 (fun x => ∃ h1 S', x = .done (.bool true) h1 S') (.run todo tmps (heapJ [some ⟨rowC a10C l, el, true, none⟩, some { cells := (geoC n 2).toList, elem := 26 }] q' []) [.mem ws1 (List.replicate (64 * n) 0), .port 0 0 st1]))
  · intro inner
    rcases hd4' with rfl | rfl | rfl | rfl
    · obtain ⟨v1, S1, ⟨st1, ws1, L1, hst1, rfl, hP1, hs1⟩, hd1⟩ := alloc_does _ 1 0 0 st _ ws _ n 2 x.k x.a hp0 hm0 (by omega) hn1 (by omega) (by decide) hP hR.pos hR.tot
      have hR1 := hR.alloc hs1
      rw [hacc] at hd1
      repeat (first | refine Goes.reg ?_ | refine Goes.ctl2 rfl ?_ | ((first | refine qv1 rfl rfl rfl fun K hK => ?_ | refine qv3 rfl rfl rfl fun K hK => ?_ | refine qv2 rfl rfl rfl rfl rfl rfl fun K hK => ?_ | refine qv4 rfl rfl rfl rfl rfl rfl fun K hK => ?_ | refine qn1 rfl rfl rfl fun K hK => ?_ | refine qn3 rfl rfl rfl fun K hK => ?_ | refine qt1 rfl rfl rfl fun K hK => ?_ | refine qt3 rfl rfl rfl fun K hK => ?_); simp (disch := (first | omega | (simp only [sz] <;> omega) | fail)) only [go_sem, g0, g1, g2, hdm]; with_reducible refine hK _ _ ?_; clear hK K) | refine At.nil rfl ?_ | refine RG.nil rfl ?_ | ((first | refine AtL.skipg rfl rfl rfl rfl rfl ?_ | refine RGL.skipg rfl rfl rfl rfl rfl ?_ | refine AtL.skipu rfl rfl rfl rfl ?_ | refine RGL.skipu rfl rfl rfl rfl ?_); simp only [putL, List.set_cons_zero, List.set_cons_succ]) | refine Goes.yes rfl ?_ | refine Goes.no rfl ?_ | refine Goes.drawR [] (by kernel_rfl) ?_)
      ((first | refine qc1 rfl rfl fun K hK => ?_ | refine qc3 rfl rfl fun K hK => ?_); simp (disch := (first | omega | (simp only [sz] <;> omega) | fail)) only [go_sem]; refine ⟨_, _, hd1, ?_⟩; (try simp only [go_sem]); with_reducible refine hK _ _ ?_; clear hK K)
      clear hd1 hs1
      repeat (first | refine Goes.reg ?_ | refine Goes.ctl2 rfl ?_ | ((first | refine qv1 rfl rfl rfl fun K hK => ?_ | refine qv3 rfl rfl rfl fun K hK => ?_ | refine qv2 rfl rfl rfl rfl rfl rfl fun K hK => ?_ | refine qv4 rfl rfl rfl rfl rfl rfl fun K hK => ?_ | refine qn1 rfl rfl rfl fun K hK => ?_ | refine qn3 rfl rfl rfl fun K hK => ?_ | refine qt1 rfl rfl rfl fun K hK => ?_ | refine qt3 rfl rfl rfl fun K hK => ?_); simp (disch := (first | omega | (simp only [sz] <;> omega) | fail)) only [go_sem]; with_reducible refine hK _ _ ?_; clear hK K) | refine At.nil rfl ?_ | refine RG.nil rfl ?_ | ((first | refine AtL.skipg rfl rfl rfl rfl rfl ?_ | refine RGL.skipg rfl rfl rfl rfl rfl ?_ | refine AtL.skipu rfl rfl rfl rfl ?_ | refine RGL.skipu rfl rfl rfl rfl ?_); simp only [putL, List.set_cons_zero, List.set_cons_succ]) | refine Goes.yes rfl ?_ | refine Goes.no rfl ?_ | refine Goes.drawR [] (by kernel_rfl) ?_)
      exact inner _ _ st1 ws1 L1 (by omega) (by omega) (by omega) hP1 hR1 rfl rfl rfl rfl rfl rfl rfl rfl rfl
    · obtain ⟨v1, S1, ⟨st1, ws1, L1, t1, rfl, hst1, rfl, hP1, hs1⟩, hd1⟩ := free_does _ 1 0 0 st _ ws _ n 2 y (ln (pw L y) : Nat) hp0 hm0 (by omega) hn1 (by omega) (by decide) hP hR.pos hR.na hR.tot
      have hR1 := hR.free hs1
      rw [hacc] at hd1
      repeat (first | refine Goes.reg ?_ | refine Goes.ctl2 rfl ?_ | ((first | refine qv1 rfl rfl rfl fun K hK => ?_ | refine qv3 rfl rfl rfl fun K hK => ?_ | refine qv2 rfl rfl rfl rfl rfl rfl fun K hK => ?_ | refine qv4 rfl rfl rfl rfl rfl rfl fun K hK => ?_ | refine qn1 rfl rfl rfl fun K hK => ?_ | refine qn3 rfl rfl rfl fun K hK => ?_ | refine qt1 rfl rfl rfl fun K hK => ?_ | refine qt3 rfl rfl rfl fun K hK => ?_); simp (disch := (first | omega | (simp only [sz] <;> omega) | fail)) only [go_sem, g0, g1, g2, hdm, hmax, hrem]; with_reducible refine hK _ _ ?_; clear hK K) | refine At.nil rfl ?_ | refine RG.nil rfl ?_ | ((first | refine AtL.skipg rfl rfl rfl rfl rfl ?_ | refine RGL.skipg rfl rfl rfl rfl rfl ?_ | refine AtL.skipu rfl rfl rfl rfl ?_ | refine RGL.skipu rfl rfl rfl rfl ?_); simp only [putL, List.set_cons_zero, List.set_cons_succ]) | refine Goes.yes rfl ?_ | refine Goes.no rfl ?_ | refine Goes.drawR [] (by kernel_rfl) ?_)
      ((first | refine qp1 rfl rfl fun K hK => ?_ | refine qp3 rfl rfl fun K hK => ?_); simp (disch := (first | omega | (simp only [sz] <;> omega) | fail)) only [go_sem]; refine ⟨_, _, qpu fun w => gPage_any n 2 y w (by omega) (by decide), ?_⟩; (try simp only [go_sem]); with_reducible refine hK _ _ ?_; clear hK K)
      repeat (first | refine Goes.reg ?_ | refine Goes.ctl2 rfl ?_ | ((first | refine qv1 rfl rfl rfl fun K hK => ?_ | refine qv3 rfl rfl rfl fun K hK => ?_ | refine qv2 rfl rfl rfl rfl rfl rfl fun K hK => ?_ | refine qv4 rfl rfl rfl rfl rfl rfl fun K hK => ?_ | refine qn1 rfl rfl rfl fun K hK => ?_ | refine qn3 rfl rfl rfl fun K hK => ?_ | refine qt1 rfl rfl rfl fun K hK => ?_ | refine qt3 rfl rfl rfl fun K hK => ?_); simp (disch := (first | omega | (simp only [sz] <;> omega) | fail)) only [go_sem]; with_reducible refine hK _ _ ?_; clear hK K) | refine At.nil rfl ?_ | refine RG.nil rfl ?_ | ((first | refine AtL.skipg rfl rfl rfl rfl rfl ?_ | refine RGL.skipg rfl rfl rfl rfl rfl ?_ | refine AtL.skipu rfl rfl rfl rfl ?_ | refine RGL.skipu rfl rfl rfl rfl ?_); simp only [putL, List.set_cons_zero, List.set_cons_succ]) | refine Goes.yes rfl ?_ | refine Goes.no rfl ?_ | refine Goes.drawR [] (by kernel_rfl) ?_)
      ((first | refine qp1 rfl rfl fun K hK => ?_ | refine qp3 rfl rfl fun K hK => ?_); simp (disch := (first | omega | (simp only [sz] <;> omega) | fail)) only [go_sem]; refine ⟨_, _, .word _ hm0, ?_⟩; (try simp only [go_sem]); with_reducible refine hK _ _ ?_; clear hK K)
      rw [ld_w hu]
      repeat (first | refine Goes.reg ?_ | refine Goes.ctl2 rfl ?_ | ((first | refine qv1 rfl rfl rfl fun K hK => ?_ | refine qv3 rfl rfl rfl fun K hK => ?_ | refine qv2 rfl rfl rfl rfl rfl rfl fun K hK => ?_ | refine qv4 rfl rfl rfl rfl rfl rfl fun K hK => ?_ | refine qn1 rfl rfl rfl fun K hK => ?_ | refine qn3 rfl rfl rfl fun K hK => ?_ | refine qt1 rfl rfl rfl fun K hK => ?_ | refine qt3 rfl rfl rfl fun K hK => ?_); simp (disch := (first | omega | (simp only [sz] <;> omega) | fail)) only [go_sem]; with_reducible refine hK _ _ ?_; clear hK K) | refine At.nil rfl ?_ | refine RG.nil rfl ?_ | ((first | refine AtL.skipg rfl rfl rfl rfl rfl ?_ | refine RGL.skipg rfl rfl rfl rfl rfl ?_ | refine AtL.skipu rfl rfl rfl rfl ?_ | refine RGL.skipu rfl rfl rfl rfl ?_); simp only [putL, List.set_cons_zero, List.set_cons_succ]) | refine Goes.yes rfl ?_ | refine Goes.no rfl ?_ | refine Goes.drawR [] (by kernel_rfl) ?_)
      ((first | refine qc1 rfl rfl fun K hK => ?_ | refine qc3 rfl rfl fun K hK => ?_); simp (disch := (first | omega | (simp only [sz] <;> omega) | fail)) only [go_sem]; refine ⟨_, _, pageOf_does _ (pw L y), ?_⟩; (try simp only [go_sem]); with_reducible refine hK _ _ ?_; clear hK K)
      unfold pgV
      repeat (first | refine Goes.reg ?_ | refine Goes.ctl2 rfl ?_ | ((first | refine qv1 rfl rfl rfl fun K hK => ?_ | refine qv3 rfl rfl rfl fun K hK => ?_ | refine qv2 rfl rfl rfl rfl rfl rfl fun K hK => ?_ | refine qv4 rfl rfl rfl rfl rfl rfl fun K hK => ?_ | refine qn1 rfl rfl rfl fun K hK => ?_ | refine qn3 rfl rfl rfl fun K hK => ?_ | refine qt1 rfl rfl rfl fun K hK => ?_ | refine qt3 rfl rfl rfl fun K hK => ?_); simp (disch := (first | omega | (simp only [sz] <;> omega) | fail)) only [go_sem, hmax, hrem]; with_reducible refine hK _ _ ?_; clear hK K) | refine At.nil rfl ?_ | refine RG.nil rfl ?_ | ((first | refine AtL.skipg rfl rfl rfl rfl rfl ?_ | refine RGL.skipg rfl rfl rfl rfl rfl ?_ | refine AtL.skipu rfl rfl rfl rfl ?_ | refine RGL.skipu rfl rfl rfl rfl ?_); simp only [putL, List.set_cons_zero, List.set_cons_succ]) | refine Goes.yes rfl ?_ | refine Goes.no rfl ?_ | refine Goes.drawR [] (by kernel_rfl) ?_)
      ((first | refine qc1 rfl rfl fun K hK => ?_ | refine qc3 rfl rfl fun K hK => ?_); simp (disch := (first | omega | (simp only [sz] <;> omega) | fail)) only [go_sem]; refine ⟨_, _, hd1, ?_⟩; (try simp only [go_sem]); with_reducible refine hK _ _ ?_; clear hK K)
      clear hd1 hs1
      repeat (first | refine Goes.reg ?_ | refine Goes.ctl2 rfl ?_ | ((first | refine qv1 rfl rfl rfl fun K hK => ?_ | refine qv3 rfl rfl rfl fun K hK => ?_ | refine qv2 rfl rfl rfl rfl rfl rfl fun K hK => ?_ | refine qv4 rfl rfl rfl rfl rfl rfl fun K hK => ?_ | refine qn1 rfl rfl rfl fun K hK => ?_ | refine qn3 rfl rfl rfl fun K hK => ?_ | refine qt1 rfl rfl rfl fun K hK => ?_ | refine qt3 rfl rfl rfl fun K hK => ?_); simp (disch := (first | omega | (simp only [sz] <;> omega) | fail)) only [go_sem]; with_reducible refine hK _ _ ?_; clear hK K) | refine At.nil rfl ?_ | refine RG.nil rfl ?_ | ((first | refine AtL.skipg rfl rfl rfl rfl rfl ?_ | refine RGL.skipg rfl rfl rfl rfl rfl ?_ | refine AtL.skipu rfl rfl rfl rfl ?_ | refine RGL.skipu rfl rfl rfl rfl ?_); simp only [putL, List.set_cons_zero, List.set_cons_succ]) | refine Goes.yes rfl ?_ | refine Goes.no rfl ?_ | refine Goes.drawR [] (by kernel_rfl) ?_)
      refine Goes.forget ?_ (by simp only [List.length_cons, List.length_nil]; omega)
      exact inner _ (q + 1) st1 ws1 L1 (by omega) (by omega) (by omega) hP1 hR1 rfl rfl rfl rfl rfl rfl rfl rfl rfl
    · obtain ⟨v1, S1, ⟨st1, ws1, L1, t1, rfl, hst1, rfl, hP1, hs1⟩, hd1⟩ := mark_does _ 1 0 0 st _ ws _ n 2 y (ln (pw L y) : Nat) hp0 hm0 (by omega) hn1 (by omega) (by decide) hP hR.pos hR.tot
      have hR1 := hR.mark hs1
      rw [hacc] at hd1
      repeat (first | refine Goes.reg ?_ | refine Goes.ctl2 rfl ?_ | ((first | refine qv1 rfl rfl rfl fun K hK => ?_ | refine qv3 rfl rfl rfl fun K hK => ?_ | refine qv2 rfl rfl rfl rfl rfl rfl fun K hK => ?_ | refine qv4 rfl rfl rfl rfl rfl rfl fun K hK => ?_ | refine qn1 rfl rfl rfl fun K hK => ?_ | refine qn3 rfl rfl rfl fun K hK => ?_ | refine qt1 rfl rfl rfl fun K hK => ?_ | refine qt3 rfl rfl rfl fun K hK => ?_); simp (disch := (first | omega | (simp only [sz] <;> omega) | fail)) only [go_sem, g0, g1, g2, hdm, hmax, hrem]; with_reducible refine hK _ _ ?_; clear hK K) | refine At.nil rfl ?_ | refine RG.nil rfl ?_ | ((first | refine AtL.skipg rfl rfl rfl rfl rfl ?_ | refine RGL.skipg rfl rfl rfl rfl rfl ?_ | refine AtL.skipu rfl rfl rfl rfl ?_ | refine RGL.skipu rfl rfl rfl rfl ?_); simp only [putL, List.set_cons_zero, List.set_cons_succ]) | refine Goes.yes rfl ?_ | refine Goes.no rfl ?_ | refine Goes.drawR [] (by kernel_rfl) ?_)
      ((first | refine qp1 rfl rfl fun K hK => ?_ | refine qp3 rfl rfl fun K hK => ?_); simp (disch := (first | omega | (simp only [sz] <;> omega) | fail)) only [go_sem]; refine ⟨_, _, qpu fun w => gPage_any n 2 y w (by omega) (by decide), ?_⟩; (try simp only [go_sem]); with_reducible refine hK _ _ ?_; clear hK K)
      repeat (first | refine Goes.reg ?_ | refine Goes.ctl2 rfl ?_ | ((first | refine qv1 rfl rfl rfl fun K hK => ?_ | refine qv3 rfl rfl rfl fun K hK => ?_ | refine qv2 rfl rfl rfl rfl rfl rfl fun K hK => ?_ | refine qv4 rfl rfl rfl rfl rfl rfl fun K hK => ?_ | refine qn1 rfl rfl rfl fun K hK => ?_ | refine qn3 rfl rfl rfl fun K hK => ?_ | refine qt1 rfl rfl rfl fun K hK => ?_ | refine qt3 rfl rfl rfl fun K hK => ?_); simp (disch := (first | omega | (simp only [sz] <;> omega) | fail)) only [go_sem]; with_reducible refine hK _ _ ?_; clear hK K) | refine At.nil rfl ?_ | refine RG.nil rfl ?_ | ((first | refine AtL.skipg rfl rfl rfl rfl rfl ?_ | refine RGL.skipg rfl rfl rfl rfl rfl ?_ | refine AtL.skipu rfl rfl rfl rfl ?_ | refine RGL.skipu rfl rfl rfl rfl ?_); simp only [putL, List.set_cons_zero, List.set_cons_succ]) | refine Goes.yes rfl ?_ | refine Goes.no rfl ?_ | refine Goes.drawR [] (by kernel_rfl) ?_)
      ((first | refine qp1 rfl rfl fun K hK => ?_ | refine qp3 rfl rfl fun K hK => ?_); simp (disch := (first | omega | (simp only [sz] <;> omega) | fail)) only [go_sem]; refine ⟨_, _, .word _ hm0, ?_⟩; (try simp only [go_sem]); with_reducible refine hK _ _ ?_; clear hK K)
      rw [ld_w hu]
      repeat (first | refine Goes.reg ?_ | refine Goes.ctl2 rfl ?_ | ((first | refine qv1 rfl rfl rfl fun K hK => ?_ | refine qv3 rfl rfl rfl fun K hK => ?_ | refine qv2 rfl rfl rfl rfl rfl rfl fun K hK => ?_ | refine qv4 rfl rfl rfl rfl rfl rfl fun K hK => ?_ | refine qn1 rfl rfl rfl fun K hK => ?_ | refine qn3 rfl rfl rfl fun K hK => ?_ | refine qt1 rfl rfl rfl fun K hK => ?_ | refine qt3 rfl rfl rfl fun K hK => ?_); simp (disch := (first | omega | (simp only [sz] <;> omega) | fail)) only [go_sem]; with_reducible refine hK _ _ ?_; clear hK K) | refine At.nil rfl ?_ | refine RG.nil rfl ?_ | ((first | refine AtL.skipg rfl rfl rfl rfl rfl ?_ | refine RGL.skipg rfl rfl rfl rfl rfl ?_ | refine AtL.skipu rfl rfl rfl rfl ?_ | refine RGL.skipu rfl rfl rfl rfl ?_); simp only [putL, List.set_cons_zero, List.set_cons_succ]) | refine Goes.yes rfl ?_ | refine Goes.no rfl ?_ | refine Goes.drawR [] (by kernel_rfl) ?_)
      ((first | refine qc1 rfl rfl fun K hK => ?_ | refine qc3 rfl rfl fun K hK => ?_); simp (disch := (first | omega | (simp only [sz] <;> omega) | fail)) only [go_sem]; refine ⟨_, _, pageOf_does _ (pw L y), ?_⟩; (try simp only [go_sem]); with_reducible refine hK _ _ ?_; clear hK K)
      unfold pgV
      repeat (first | refine Goes.reg ?_ | refine Goes.ctl2 rfl ?_ | ((first | refine qv1 rfl rfl rfl fun K hK => ?_ | refine qv3 rfl rfl rfl fun K hK => ?_ | refine qv2 rfl rfl rfl rfl rfl rfl fun K hK => ?_ | refine qv4 rfl rfl rfl rfl rfl rfl fun K hK => ?_ | refine qn1 rfl rfl rfl fun K hK => ?_ | refine qn3 rfl rfl rfl fun K hK => ?_ | refine qt1 rfl rfl rfl fun K hK => ?_ | refine qt3 rfl rfl rfl fun K hK => ?_); simp (disch := (first | omega | (simp only [sz] <;> omega) | fail)) only [go_sem, hmax, hrem]; with_reducible refine hK _ _ ?_; clear hK K) | refine At.nil rfl ?_ | refine RG.nil rfl ?_ | ((first | refine AtL.skipg rfl rfl rfl rfl rfl ?_ | refine RGL.skipg rfl rfl rfl rfl rfl ?_ | refine AtL.skipu rfl rfl rfl rfl ?_ | refine RGL.skipu rfl rfl rfl rfl ?_); simp only [putL, List.set_cons_zero, List.set_cons_succ]) | refine Goes.yes rfl ?_ | refine Goes.no rfl ?_ | refine Goes.drawR [] (by kernel_rfl) ?_)
      ((first | refine qc1 rfl rfl fun K hK => ?_ | refine qc3 rfl rfl fun K hK => ?_); simp (disch := (first | omega | (simp only [sz] <;> omega) | fail)) only [go_sem]; refine ⟨_, _, hd1, ?_⟩; (try simp only [go_sem]); with_reducible refine hK _ _ ?_; clear hK K)
      clear hd1 hs1
      repeat (first | refine Goes.reg ?_ | refine Goes.ctl2 rfl ?_ | ((first | refine qv1 rfl rfl rfl fun K hK => ?_ | refine qv3 rfl rfl rfl fun K hK => ?_ | refine qv2 rfl rfl rfl rfl rfl rfl fun K hK => ?_ | refine qv4 rfl rfl rfl rfl rfl rfl fun K hK => ?_ | refine qn1 rfl rfl rfl fun K hK => ?_ | refine qn3 rfl rfl rfl fun K hK => ?_ | refine qt1 rfl rfl rfl fun K hK => ?_ | refine qt3 rfl rfl rfl fun K hK => ?_); simp (disch := (first | omega | (simp only [sz] <;> omega) | fail)) only [go_sem]; with_reducible refine hK _ _ ?_; clear hK K) | refine At.nil rfl ?_ | refine RG.nil rfl ?_ | ((first | refine AtL.skipg rfl rfl rfl rfl rfl ?_ | refine RGL.skipg rfl rfl rfl rfl rfl ?_ | refine AtL.skipu rfl rfl rfl rfl ?_ | refine RGL.skipu rfl rfl rfl rfl ?_); simp only [putL, List.set_cons_zero, List.set_cons_succ]) | refine Goes.yes rfl ?_ | refine Goes.no rfl ?_ | refine Goes.drawR [] (by kernel_rfl) ?_)
      refine Goes.forget ?_ (by simp only [List.length_cons, List.length_nil]; omega)
      exact inner _ (q + 1) st1 ws1 L1 (by omega) (by omega) (by omega) hP1 hR1 rfl rfl rfl rfl rfl rfl rfl rfl rfl
    · obtain ⟨v1, S1, ⟨st1, ws1, L1, n1, rfl, hn1', hst1, rfl, hP1, hs1, _⟩, hd1⟩ := collect_does _ 1 0 0 st _ ws _ n 2 hp0 hm0 (by omega) hn1 (by omega) (by decide) hP hR.pos hR.na hR.tot
      have hR1 := hR.fre hs1
      rw [hacc] at hd1
      repeat (first | refine Goes.reg ?_ | refine Goes.ctl2 rfl ?_ | ((first | refine qv1 rfl rfl rfl fun K hK => ?_ | refine qv3 rfl rfl rfl fun K hK => ?_ | refine qv2 rfl rfl rfl rfl rfl rfl fun K hK => ?_ | refine qv4 rfl rfl rfl rfl rfl rfl fun K hK => ?_ | refine qn1 rfl rfl rfl fun K hK => ?_ | refine qn3 rfl rfl rfl fun K hK => ?_ | refine qt1 rfl rfl rfl fun K hK => ?_ | refine qt3 rfl rfl rfl fun K hK => ?_); simp (disch := (first | omega | (simp only [sz] <;> omega) | fail)) only [go_sem, g0, g1, g2, hdm]; with_reducible refine hK _ _ ?_; clear hK K) | refine At.nil rfl ?_ | refine RG.nil rfl ?_ | ((first | refine AtL.skipg rfl rfl rfl rfl rfl ?_ | refine RGL.skipg rfl rfl rfl rfl rfl ?_ | refine AtL.skipu rfl rfl rfl rfl ?_ | refine RGL.skipu rfl rfl rfl rfl ?_); simp only [putL, List.set_cons_zero, List.set_cons_succ]) | refine Goes.yes rfl ?_ | refine Goes.no rfl ?_ | refine Goes.drawR [] (by kernel_rfl) ?_)
      ((first | refine qc1 rfl rfl fun K hK => ?_ | refine qc3 rfl rfl fun K hK => ?_); simp (disch := (first | omega | (simp only [sz] <;> omega) | fail)) only [go_sem]; refine ⟨_, _, hd1, ?_⟩; (try simp only [go_sem]); with_reducible refine hK _ _ ?_; clear hK K)
      clear hd1 hs1
      repeat (first | refine Goes.reg ?_ | refine Goes.ctl2 rfl ?_ | ((first | refine qv1 rfl rfl rfl fun K hK => ?_ | refine qv3 rfl rfl rfl fun K hK => ?_ | refine qv2 rfl rfl rfl rfl rfl rfl fun K hK => ?_ | refine qv4 rfl rfl rfl rfl rfl rfl fun K hK => ?_ | refine qn1 rfl rfl rfl fun K hK => ?_ | refine qn3 rfl rfl rfl fun K hK => ?_ | refine qt1 rfl rfl rfl fun K hK => ?_ | refine qt3 rfl rfl rfl fun K hK => ?_); simp (disch := (first | omega | (simp only [sz] <;> omega) | fail)) only [go_sem]; with_reducible refine hK _ _ ?_; clear hK K) | refine At.nil rfl ?_ | refine RG.nil rfl ?_ | ((first | refine AtL.skipg rfl rfl rfl rfl rfl ?_ | refine RGL.skipg rfl rfl rfl rfl rfl ?_ | refine AtL.skipu rfl rfl rfl rfl ?_ | refine RGL.skipu rfl rfl rfl rfl ?_); simp only [putL, List.set_cons_zero, List.set_cons_succ]) | refine Goes.yes rfl ?_ | refine Goes.no rfl ?_ | refine Goes.drawR [] (by kernel_rfl) ?_)
      exact inner _ _ st1 ws1 L1 (by omega) (by omega) (by omega) hP1 hR1 rfl rfl rfl rfl rfl rfl rfl rfl rfl
  intro tmps q' st1 ws1 L1 hq3 hq4 hst1 hP1 hR1 hl f1 f5 f6 f7 f8 f9 f14 f15
  obtain ⟨V, hV, hT⟩ := frame_lit hl; replace hT : _ = ([V 0, V 1, V 2, V 3, V 4, V 5, V 6, V 7, V 8, V 9, V 10, V 11, V 12, V 13, V 14, V 15, V 16, V 17, V 18, V 19, V 20, V 21, V 22, V 23, V 24, V 25, V 26, V 27, V 28, V 29, V 30, V 31, V 32, V 33, V 34, V 35, V 36, V 37, V 38, V 39, V 40, V 41, V 42, V 43, V 44, V 45, V 46, V 47, V 48, V 49, V 50, V 51, V 52, V 53, V 54, V 55, V 56, V 57, V 58, V 59, V 60, V 61, V 62, V 63, V 64, V 65, V 66, V 67, V 68, V 69, V 70, V 71, V 72, V 73, V 74, V 75, V 76, V 77, V 78, V 79, V 80, V 81, V 82, V 83, V 84, V 85, V 86, V 87, V 88, V 89, V 90, V 91, V 92, V 93, V 94, V 95, V 96, V 97, V 98, V 99, V 100, V 101, V 102, V 103, V 104, V 105, V 106, V 107, V 108, V 109, V 110, V 111, V 112, V 113, V 114, V 115, V 116, V 117, V 118, V 119, V 120, V 121, V 122, V 123, V 124, V 125, V 126, V 127, V 128, V 129, V 130, V 131, V 132, V 133, V 134, V 135, V 136, V 137, V 138, V 139, V 140, V 141, V 142, V 143, V 144, V 145, V 146, V 147, V 148, V 149, V 150, V 151, V 152, V 153, V 154, V 155, V 156, V 157, V 158, V 159, V 160, V 161, V 162, V 163, V 164, V 165, V 166, V 167, V 168, V 169, V 170, V 171, V 172, V 173, V 174, V 175, V 176, V 177, V 178, V 179, V 180, V 181, V 182, V 183, V 184, V 185, V 186, V 187, V 188, V 189, V 190, V 191, V 192, V 193, V 194, V 195, V 196, V 197, V 198, V 199, V 200, V 201, V 202, V 203, V 204, V 205, V 206, V 207] : List Value) := hT; rw [hV] at f1 f5 f6 f7 f8 f9 f14 f15; subst hT; simp only [f1, f5, f6, f7, f8, f9, f14, f15]; clear hV hl
  refine Goes.wh (fun z tmps h S => ∃ (A C : List Rn) (q2 : Nat), z = n - tot A ∧ L1 = A ++ C ∧ q' ≤ q2 ∧ q2 ≤ q' + 2 * tot A ∧ S = [.mem ws1 (List.replicate (64 * n) 0), .port 0 0 st1] ∧
    h = heapJ [some ⟨rowC a10C l, el, true, none⟩, some { cells := (geoC n 2).toList, elem := 26 }] q2 [] ∧ tmps.length = 208 ∧ tmps.getD 1 undef = .slice (some ⟨0, 0, none⟩) l.length c ∧ tmps.getD 5 undef = .int .i64 n ∧ tmps.getD 6 undef = .pointer (some ⟨1, 0, none⟩) ∧ tmps.getD 7 undef = hndV 0 ∧ tmps.getD 8 undef = hndV 1 ∧ tmps.getD 9 undef = .int .i64 i ∧
    tmps.getD 14 undef = .bool (lastF A) ∧ tmps.getD 15 undef = .int .i64 (tot A : Nat)) (m := n - 0)
    ⟨[], L1, q', rfl, rfl, by omega, by omega, rfl, rfl, rfl, rfl, rfl, rfl, rfl, rfl, rfl, rfl, rfl⟩ ?_
  rintro z tmps h S ih2 ⟨A, C, q2, rfl, hL1, hq5, hq6, rfl, rfl, hl, f1, f5, f6, f7, f8, f9, f14, f15⟩
  obtain ⟨V, hV, hT⟩ := frame_lit hl; replace hT : _ = ([V 0, V 1, V 2, V 3, V 4, V 5, V 6, V 7, V 8, V 9, V 10, V 11, V 12, V 13, V 14, V 15, V 16, V 17, V 18, V 19, V 20, V 21, V 22, V 23, V 24, V 25, V 26, V 27, V 28, V 29, V 30, V 31, V 32, V 33, V 34, V 35, V 36, V 37, V 38, V 39, V 40, V 41, V 42, V 43, V 44, V 45, V 46, V 47, V 48, V 49, V 50, V 51, V 52, V 53, V 54, V 55, V 56, V 57, V 58, V 59, V 60, V 61, V 62, V 63, V 64, V 65, V 66, V 67, V 68, V 69, V 70, V 71, V 72, V 73, V 74, V 75, V 76, V 77, V 78, V 79, V 80, V 81, V 82, V 83, V 84, V 85, V 86, V 87, V 88, V 89, V 90, V 91, V 92, V 93, V 94, V 95, V 96, V 97, V 98, V 99, V 100, V 101, V 102, V 103, V 104, V 105, V 106, V 107, V 108, V 109, V 110, V 111, V 112, V 113, V 114, V 115, V 116, V 117, V 118, V 119, V 120, V 121, V 122, V 123, V 124, V 125, V 126, V 127, V 128, V 129, V 130, V 131, V 132, V 133, V 134, V 135, V 136, V 137, V 138, V 139, V 140, V 141, V 142, V 143, V 144, V 145, V 146, V 147, V 148, V 149, V 150, V 151, V 152, V 153, V 154, V 155, V 156, V 157, V 158, V 159, V 160, V 161, V 162, V 163, V 164, V 165, V 166, V 167, V 168, V 169, V 170, V 171, V 172, V 173, V 174, V 175, V 176, V 177, V 178, V 179, V 180, V 181, V 182, V 183, V 184, V 185, V 186, V 187, V 188, V 189, V 190, V 191, V 192, V 193, V 194, V 195, V 196, V 197, V 198, V 199, V 200, V 201, V 202, V 203, V 204, V 205, V 206, V 207] : List Value) := hT; rw [hV] at f1 f5 f6 f7 f8 f9 f14 f15; subst hT; simp only [f1, f5, f6, f7, f8, f9, f14, f15]; clear hV hl
  have htot := hR1.tot
  rw [hL1, tot_append] at htot
  have hR1' := hR1
  rw [hL1] at hR1'
  cases C with
  | nil =>
    simp only [tot] at htot
    have e1 : l.length - (i + 1) < l.length - i := by omega
    have e2 : 2 ≤ q2 := by omega
    have e3 : q2 ≤ 2 + 200 * (i + 1) := by clear ih; omega
    have e4 : st1 ≤ 10 + 2000 * (i + 1) := by clear ih; omega
    repeat (first | refine Goes.reg ?_ | refine Goes.ctl2 rfl ?_ | ((first | refine qv1 rfl rfl rfl fun K hK => ?_ | refine qv3 rfl rfl rfl fun K hK => ?_ | refine qv2 rfl rfl rfl rfl rfl rfl fun K hK => ?_ | refine qv4 rfl rfl rfl rfl rfl rfl fun K hK => ?_ | refine qn1 rfl rfl rfl fun K hK => ?_ | refine qn3 rfl rfl rfl fun K hK => ?_ | refine qt1 rfl rfl rfl fun K hK => ?_ | refine qt3 rfl rfl rfl fun K hK => ?_); simp (disch := (first | omega | (simp only [sz] <;> omega) | fail)) only [go_sem]; with_reducible refine hK _ _ ?_; clear hK K) | refine At.nil rfl ?_ | refine RG.nil rfl ?_ | ((first | refine AtL.skipg rfl rfl rfl rfl rfl ?_ | refine RGL.skipg rfl rfl rfl rfl rfl ?_ | refine AtL.skipu rfl rfl rfl rfl ?_ | refine RGL.skipu rfl rfl rfl rfl ?_); simp only [putL, List.set_cons_zero, List.set_cons_succ]) | refine Goes.yes rfl ?_ | refine Goes.no rfl ?_ | refine Goes.drawR [] (by kernel_rfl) ?_)
    exact ih _ _ _ _ e1 ⟨i + 1, q2, st1, ws1, L1, rfl, hlt, e2, e3, e4, hP1, hR1, rfl, rfl, rfl, rfl, rfl, rfl, rfl, rfl, rfl⟩
  | cons r C =>
  simp only [tot] at htot
  obtain ⟨hr1, _⟩ := Pos.cons.1 (Pos.append.1 hR1'.pos).2
  have hpA := (Pos.append.1 hR1'.pos).1
  have hk := (K145.cons.1 (K145.append.1 hR1'.kd).2).1
  have hna := (nadj_append.1 hR1'.na).2.2
  have hu1 := hP1.pg (tot A) (by omega)
  rw [hL1, pw_head hpA] at hu1
  have hin : ∀ zz : Nat, 0 < zz → zz < r.2 → wAt ws1 (gat n 2 7 ((tot A + zz : Nat) : Int)) = some (if r.1 = 1 ∧ zz + 1 = r.2 then pgU 2 r.2 else 0) := fun zz h1 h2 => by
    rw [hP1.pg (tot A + zz) (by omega), hL1, pw_in hpA h1 h2]
  have hm1 : ([Ob.mem ws1 (List.replicate (64 * n) 0), Ob.port 0 0 st1] : St)[0]? = some (.mem ws1 (List.replicate (64 * n) 0)) := rfl
  obtain ⟨rk, rn⟩ := r
  simp only at hr1 hk hu1 hin htot
  repeat (first | refine Goes.reg ?_ | refine Goes.ctl2 rfl ?_ | ((first | refine qv1 rfl rfl rfl fun K hK => ?_ | refine qv3 rfl rfl rfl fun K hK => ?_ | refine qv2 rfl rfl rfl rfl rfl rfl fun K hK => ?_ | refine qv4 rfl rfl rfl rfl rfl rfl fun K hK => ?_ | refine qn1 rfl rfl rfl fun K hK => ?_ | refine qn3 rfl rfl rfl fun K hK => ?_ | refine qt1 rfl rfl rfl fun K hK => ?_ | refine qt3 rfl rfl rfl fun K hK => ?_); simp (disch := (first | omega | (simp only [sz] <;> omega) | fail)) only [go_sem]; with_reducible refine hK _ _ ?_; clear hK K) | refine At.nil rfl ?_ | refine RG.nil rfl ?_ | ((first | refine AtL.skipg rfl rfl rfl rfl rfl ?_ | refine RGL.skipg rfl rfl rfl rfl rfl ?_ | refine AtL.skipu rfl rfl rfl rfl ?_ | refine RGL.skipu rfl rfl rfl rfl ?_); simp only [putL, List.set_cons_zero, List.set_cons_succ]) | refine Goes.yes rfl ?_ | refine Goes.no rfl ?_ | refine Goes.drawR [] (by kernel_rfl) ?_)
  ((first | refine qp1 rfl rfl fun K hK => ?_ | refine qp3 rfl rfl fun K hK => ?_); simp (disch := (first | omega | (simp only [sz] <;> omega) | fail)) only [go_sem]; refine ⟨_, _, qpu fun w => gPage_any n 2 (tot A : Nat) w (by omega) (by decide), ?_⟩; (try simp only [go_sem]); with_reducible refine hK _ _ ?_; clear hK K)
  repeat (first | refine Goes.reg ?_ | refine Goes.ctl2 rfl ?_ | ((first | refine qv1 rfl rfl rfl fun K hK => ?_ | refine qv3 rfl rfl rfl fun K hK => ?_ | refine qv2 rfl rfl rfl rfl rfl rfl fun K hK => ?_ | refine qv4 rfl rfl rfl rfl rfl rfl fun K hK => ?_ | refine qn1 rfl rfl rfl fun K hK => ?_ | refine qn3 rfl rfl rfl fun K hK => ?_ | refine qt1 rfl rfl rfl fun K hK => ?_ | refine qt3 rfl rfl rfl fun K hK => ?_); simp (disch := (first | omega | (simp only [sz] <;> omega) | fail)) only [go_sem]; with_reducible refine hK _ _ ?_; clear hK K) | refine At.nil rfl ?_ | refine RG.nil rfl ?_ | ((first | refine AtL.skipg rfl rfl rfl rfl rfl ?_ | refine RGL.skipg rfl rfl rfl rfl rfl ?_ | refine AtL.skipu rfl rfl rfl rfl ?_ | refine RGL.skipu rfl rfl rfl rfl ?_); simp only [putL, List.set_cons_zero, List.set_cons_succ]) | refine Goes.yes rfl ?_ | refine Goes.no rfl ?_ | refine Goes.drawR [] (by kernel_rfl) ?_)
  ((first | refine qp1 rfl rfl fun K hK => ?_ | refine qp3 rfl rfl fun K hK => ?_); simp (disch := (first | omega | (simp only [sz] <;> omega) | fail)) only [go_sem]; refine ⟨_, _, .word _ hm1, ?_⟩; (try simp only [go_sem]); with_reducible refine hK _ _ ?_; clear hK K)
  rw [ld_w hu1]
  repeat (first | refine Goes.reg ?_ | refine Goes.ctl2 rfl ?_ | ((first | refine qv1 rfl rfl rfl fun K hK => ?_ | refine qv3 rfl rfl rfl fun K hK => ?_ | refine qv2 rfl rfl rfl rfl rfl rfl fun K hK => ?_ | refine qv4 rfl rfl rfl rfl rfl rfl fun K hK => ?_ | refine qn1 rfl rfl rfl fun K hK => ?_ | refine qn3 rfl rfl rfl fun K hK => ?_ | refine qt1 rfl rfl rfl fun K hK => ?_ | refine qt3 rfl rfl rfl fun K hK => ?_); simp (disch := (first | omega | (simp only [sz] <;> omega) | fail)) only [go_sem]; with_reducible refine hK _ _ ?_; clear hK K) | refine At.nil rfl ?_ | refine RG.nil rfl ?_ | ((first | refine AtL.skipg rfl rfl rfl rfl rfl ?_ | refine RGL.skipg rfl rfl rfl rfl rfl ?_ | refine AtL.skipu rfl rfl rfl rfl ?_ | refine RGL.skipu rfl rfl rfl rfl ?_); simp only [putL, List.set_cons_zero, List.set_cons_succ]) | refine Goes.yes rfl ?_ | refine Goes.no rfl ?_ | refine Goes.drawR [] (by kernel_rfl) ?_)
  ((first | refine qc1 rfl rfl fun K hK => ?_ | refine qc3 rfl rfl fun K hK => ?_); simp (disch := (first | omega | (simp only [sz] <;> omega) | fail)) only [go_sem]; refine ⟨_, _, pageOf_does _ (pgU rk rn), ?_⟩; (try simp only [go_sem]); with_reducible refine hK _ _ ?_; clear hK K)
  rw [show (pgU rk rn).toNat / 2 ^ 0 % 2 ^ 3 = rk from kd_pgU (by omega) (by omega), show (pgU rk rn).toNat / 2 ^ 3 % 2 ^ 10 = rn from ln_pgU (by omega) (by omega), show (pgU rk rn).toNat / 2 ^ 13 % 2 ^ 2 = 0 by rw [pgU_nat (by omega) (by omega)]; omega, show (pgU rk rn).toNat / 2 ^ 16 % 2 ^ 7 = 0 by rw [pgU_nat (by omega) (by omega)]; omega]
  unfold pgV
  by_cases hlast : lastF A = true ∧ rk = 1
  · exact absurd ⟨hlast.1, by simp [headF, hlast.2]⟩ hna
  have hz : n - tot (A ++ [(rk, rn)]) < n - tot A := by rw [tot_append]; simp only [tot]; omega
  apply share (P := fun todo : List Item => ∀ (tmps : List Value), tmps.length = 208 → tmps.getD 1 undef = .slice (some ⟨0, 0, none⟩) l.length c → tmps.getD 5 undef = .int .i64 n → tmps.getD 6 undef = .pointer (some ⟨1, 0, none⟩) → tmps.getD 7 undef = hndV 0 → tmps.getD 8 undef = hndV 1 → tmps.getD 9 undef = .int .i64 i →
    tmps.getD 14 undef = .bool (decide (rk = 1)) → tmps.getD 15 undef = .int .i64 (tot A : Nat) → tmps.getD 16 undef = .pointer (some ⟨q2, 0, none⟩) → tmps.getD 17 undef = .int .i64 ((tot A + 1 : Nat) : Int) →
    Goes OF Try.f9 (fun x => ∃ h1 S', x = .done (.bool true) h1 S') (.run todo tmps (heapJ [some ⟨rowC a10C l, el, true, none⟩, some { cells := (geoC n 2).toList, elem := 26 }] q2 [some { cells := [.int .i64 rk, .int .i64 rn, .int .i64 0, .int .i64 0], elem := 94 }]) [.mem ws1 (List.replicate (64 * n) 0), .port 0 0 st1]))
  · intro inner
    cases hfa : lastF A with
    | false =>
      rcases hk with rfl | rfl | rfl
      · repeat (first | refine Goes.reg ?_ | refine Goes.ctl2 rfl ?_ | ((first | refine qv1 rfl rfl rfl fun K hK => ?_ | refine qv3 rfl rfl rfl fun K hK => ?_ | refine qv2 rfl rfl rfl rfl rfl rfl fun K hK => ?_ | refine qv4 rfl rfl rfl rfl rfl rfl fun K hK => ?_ | refine qn1 rfl rfl rfl fun K hK => ?_ | refine qn3 rfl rfl rfl fun K hK => ?_ | refine qt1 rfl rfl rfl fun K hK => ?_ | refine qt3 rfl rfl rfl fun K hK => ?_); simp (disch := (first | omega | (simp only [sz] <;> omega) | fail)) only [go_sem]; with_reducible refine hK _ _ ?_; clear hK K) | refine At.nil rfl ?_ | refine RG.nil rfl ?_ | ((first | refine AtL.skipg rfl rfl rfl rfl rfl ?_ | refine RGL.skipg rfl rfl rfl rfl rfl ?_ | refine AtL.skipu rfl rfl rfl rfl ?_ | refine RGL.skipu rfl rfl rfl rfl ?_); simp only [putL, List.set_cons_zero, List.set_cons_succ]) | refine Goes.yes rfl ?_ | refine Goes.no rfl ?_ | refine Goes.drawR [] (by kernel_rfl) ?_)
        exact inner _ rfl rfl rfl rfl rfl rfl rfl rfl rfl rfl rfl
      · repeat (first | refine Goes.reg ?_ | refine Goes.ctl2 rfl ?_ | ((first | refine qv1 rfl rfl rfl fun K hK => ?_ | refine qv3 rfl rfl rfl fun K hK => ?_ | refine qv2 rfl rfl rfl rfl rfl rfl fun K hK => ?_ | refine qv4 rfl rfl rfl rfl rfl rfl fun K hK => ?_ | refine qn1 rfl rfl rfl fun K hK => ?_ | refine qn3 rfl rfl rfl fun K hK => ?_ | refine qt1 rfl rfl rfl fun K hK => ?_ | refine qt3 rfl rfl rfl fun K hK => ?_); simp (disch := (first | omega | (simp only [sz] <;> omega) | fail)) only [go_sem]; with_reducible refine hK _ _ ?_; clear hK K) | refine At.nil rfl ?_ | refine RG.nil rfl ?_ | ((first | refine AtL.skipg rfl rfl rfl rfl rfl ?_ | refine RGL.skipg rfl rfl rfl rfl rfl ?_ | refine AtL.skipu rfl rfl rfl rfl ?_ | refine RGL.skipu rfl rfl rfl rfl ?_); simp only [putL, List.set_cons_zero, List.set_cons_succ]) | refine Goes.yes rfl ?_ | refine Goes.no rfl ?_ | refine Goes.drawR [] (by kernel_rfl) ?_)
        exact inner _ rfl rfl rfl rfl rfl rfl rfl rfl rfl rfl rfl
      · repeat (first | refine Goes.reg ?_ | refine Goes.ctl2 rfl ?_ | ((first | refine qv1 rfl rfl rfl fun K hK => ?_ | refine qv3 rfl rfl rfl fun K hK => ?_ | refine qv2 rfl rfl rfl rfl rfl rfl fun K hK => ?_ | refine qv4 rfl rfl rfl rfl rfl rfl fun K hK => ?_ | refine qn1 rfl rfl rfl fun K hK => ?_ | refine qn3 rfl rfl rfl fun K hK => ?_ | refine qt1 rfl rfl rfl fun K hK => ?_ | refine qt3 rfl rfl rfl fun K hK => ?_); simp (disch := (first | omega | (simp only [sz] <;> omega) | fail)) only [go_sem]; with_reducible refine hK _ _ ?_; clear hK K) | refine At.nil rfl ?_ | refine RG.nil rfl ?_ | ((first | refine AtL.skipg rfl rfl rfl rfl rfl ?_ | refine RGL.skipg rfl rfl rfl rfl rfl ?_ | refine AtL.skipu rfl rfl rfl rfl ?_ | refine RGL.skipu rfl rfl rfl rfl ?_); simp only [putL, List.set_cons_zero, List.set_cons_succ]) | refine Goes.yes rfl ?_ | refine Goes.no rfl ?_ | refine Goes.drawR [] (by kernel_rfl) ?_)
        exact inner _ rfl rfl rfl rfl rfl rfl rfl rfl rfl rfl rfl
    | true =>
      rcases hk with rfl | rfl | rfl
      · exact absurd ⟨hfa, rfl⟩ hlast
      · repeat (first | refine Goes.reg ?_ | refine Goes.ctl2 rfl ?_ | ((first | refine qv1 rfl rfl rfl fun K hK => ?_ | refine qv3 rfl rfl rfl fun K hK => ?_ | refine qv2 rfl rfl rfl rfl rfl rfl fun K hK => ?_ | refine qv4 rfl rfl rfl rfl rfl rfl fun K hK => ?_ | refine qn1 rfl rfl rfl fun K hK => ?_ | refine qn3 rfl rfl rfl fun K hK => ?_ | refine qt1 rfl rfl rfl fun K hK => ?_ | refine qt3 rfl rfl rfl fun K hK => ?_); simp (disch := (first | omega | (simp only [sz] <;> omega) | fail)) only [go_sem]; with_reducible refine hK _ _ ?_; clear hK K) | refine At.nil rfl ?_ | refine RG.nil rfl ?_ | ((first | refine AtL.skipg rfl rfl rfl rfl rfl ?_ | refine RGL.skipg rfl rfl rfl rfl rfl ?_ | refine AtL.skipu rfl rfl rfl rfl ?_ | refine RGL.skipu rfl rfl rfl rfl ?_); simp only [putL, List.set_cons_zero, List.set_cons_succ]) | refine Goes.yes rfl ?_ | refine Goes.no rfl ?_ | refine Goes.drawR [] (by kernel_rfl) ?_)
        exact inner _ rfl rfl rfl rfl rfl rfl rfl rfl rfl rfl rfl
      · repeat (first | refine Goes.reg ?_ | refine Goes.ctl2 rfl ?_ | ((first | refine qv1 rfl rfl rfl fun K hK => ?_ | refine qv3 rfl rfl rfl fun K hK => ?_ | refine qv2 rfl rfl rfl rfl rfl rfl fun K hK => ?_ | refine qv4 rfl rfl rfl rfl rfl rfl fun K hK => ?_ | refine qn1 rfl rfl rfl fun K hK => ?_ | refine qn3 rfl rfl rfl fun K hK => ?_ | refine qt1 rfl rfl rfl fun K hK => ?_ | refine qt3 rfl rfl rfl fun K hK => ?_); simp (disch := (first | omega | (simp only [sz] <;> omega) | fail)) only [go_sem]; with_reducible refine hK _ _ ?_; clear hK K) | refine At.nil rfl ?_ | refine RG.nil rfl ?_ | ((first | refine AtL.skipg rfl rfl rfl rfl rfl ?_ | refine RGL.skipg rfl rfl rfl rfl rfl ?_ | refine AtL.skipu rfl rfl rfl rfl ?_ | refine RGL.skipu rfl rfl rfl rfl ?_); simp only [putL, List.set_cons_zero, List.set_cons_succ]) | refine Goes.yes rfl ?_ | refine Goes.no rfl ?_ | refine Goes.drawR [] (by kernel_rfl) ?_)
        exact inner _ rfl rfl rfl rfl rfl rfl rfl rfl rfl rfl rfl
  intro tmps hl f1 f5 f6 f7 f8 f9 f14 f15 f16 f17
  obtain ⟨V, hV, hT⟩ := frame_lit hl; replace hT : _ = ([V 0, V 1, V 2, V 3, V 4, V 5, V 6, V 7, V 8, V 9, V 10, V 11, V 12, V 13, V 14, V 15, V 16, V 17, V 18, V 19, V 20, V 21, V 22, V 23, V 24, V 25, V 26, V 27, V 28, V 29, V 30, V 31, V 32, V 33, V 34, V 35, V 36, V 37, V 38, V 39, V 40, V 41, V 42, V 43, V 44, V 45, V 46, V 47, V 48, V 49, V 50, V 51, V 52, V 53, V 54, V 55, V 56, V 57, V 58, V 59, V 60, V 61, V 62, V 63, V 64, V 65, V 66, V 67, V 68, V 69, V 70, V 71, V 72, V 73, V 74, V 75, V 76, V 77, V 78, V 79, V 80, V 81, V 82, V 83, V 84, V 85, V 86, V 87, V 88, V 89, V 90, V 91, V 92, V 93, V 94, V 95, V 96, V 97, V 98, V 99, V 100, V 101, V 102, V 103, V 104, V 105, V 106, V 107, V 108, V 109, V 110, V 111, V 112, V 113, V 114, V 115, V 116, V 117, V 118, V 119, V 120, V 121, V 122, V 123, V 124, V 125, V 126, V 127, V 128, V 129, V 130, V 131, V 132, V 133, V 134, V 135, V 136, V 137, V 138, V 139, V 140, V 141, V 142, V 143, V 144, V 145, V 146, V 147, V 148, V 149, V 150, V 151, V 152, V 153, V 154, V 155, V 156, V 157, V 158, V 159, V 160, V 161, V 162, V 163, V 164, V 165, V 166, V 167, V 168, V 169, V 170, V 171, V 172, V 173, V 174, V 175, V 176, V 177, V 178, V 179, V 180, V 181, V 182, V 183, V 184, V 185, V 186, V 187, V 188, V 189, V 190, V 191, V 192, V 193, V 194, V 195, V 196, V 197, V 198, V 199, V 200, V 201, V 202, V 203, V 204, V 205, V 206, V 207] : List Value) := hT; rw [hV] at f1 f5 f6 f7 f8 f9 f14 f15 f16 f17; subst hT; simp only [f1, f5, f6, f7, f8, f9, f14, f15, f16, f17]; clear hV hl
  obtain ⟨fb, hfb⟩ : ∃ fb, fb = decide (rk = 1) := ⟨_, rfl⟩
  rw [← hfb]
  refine Goes.wh (fun z tmps h S => ∃ (zz : Nat) (ys : List (Option Blk)), z = rn - zz ∧ 1 ≤ zz ∧ zz ≤ rn ∧ ys.length ≤ zz - 1 ∧ S = [.mem ws1 (List.replicate (64 * n) 0), .port 0 0 st1] ∧
    h = heapJ [some ⟨rowC a10C l, el, true, none⟩, some { cells := (geoC n 2).toList, elem := 26 }] q2 (some { cells := [.int .i64 rk, .int .i64 rn, .int .i64 0, .int .i64 0], elem := 94 } :: ys) ∧
    tmps.length = 208 ∧ tmps.getD 1 undef = .slice (some ⟨0, 0, none⟩) l.length c ∧ tmps.getD 5 undef = .int .i64 n ∧ tmps.getD 6 undef = .pointer (some ⟨1, 0, none⟩) ∧ tmps.getD 7 undef = hndV 0 ∧ tmps.getD 8 undef = hndV 1 ∧ tmps.getD 9 undef = .int .i64 i ∧
    tmps.getD 14 undef = .bool fb ∧ tmps.getD 15 undef = .int .i64 (tot A : Nat) ∧ tmps.getD 16 undef = .pointer (some ⟨q2, 0, none⟩) ∧ tmps.getD 17 undef = .int .i64 ((tot A + zz : Nat) : Int)) (m := rn - 1)
    ⟨1, [], rfl, by omega, by omega, by simp, rfl, rfl, rfl, rfl, rfl, rfl, rfl, rfl, rfl, rfl, rfl, rfl, rfl⟩ ?_
  rintro z tmps h S ih3 ⟨zz, ys, rfl, hz1, hz2, hys, rfl, rfl, hl, f1, f5, f6, f7, f8, f9, f14, f15, f16, f17⟩
  obtain ⟨V, hV, hT⟩ := frame_lit hl; replace hT : _ = ([V 0, V 1, V 2, V 3, V 4, V 5, V 6, V 7, V 8, V 9, V 10, V 11, V 12, V 13, V 14, V 15, V 16, V 17, V 18, V 19, V 20, V 21, V 22, V 23, V 24, V 25, V 26, V 27, V 28, V 29, V 30, V 31, V 32, V 33, V 34, V 35, V 36, V 37, V 38, V 39, V 40, V 41, V 42, V 43, V 44, V 45, V 46, V 47, V 48, V 49, V 50, V 51, V 52, V 53, V 54, V 55, V 56, V 57, V 58, V 59, V 60, V 61, V 62, V 63, V 64, V 65, V 66, V 67, V 68, V 69, V 70, V 71, V 72, V 73, V 74, V 75, V 76, V 77, V 78, V 79, V 80, V 81, V 82, V 83, V 84, V 85, V 86, V 87, V 88, V 89, V 90, V 91, V 92, V 93, V 94, V 95, V 96, V 97, V 98, V 99, V 100, V 101, V 102, V 103, V 104, V 105, V 106, V 107, V 108, V 109, V 110, V 111, V 112, V 113, V 114, V 115, V 116, V 117, V 118, V 119, V 120, V 121, V 122, V 123, V 124, V 125, V 126, V 127, V 128, V 129, V 130, V 131, V 132, V 133, V 134, V 135, V 136, V 137, V 138, V 139, V 140, V 141, V 142, V 143, V 144, V 145, V 146, V 147, V 148, V 149, V 150, V 151, V 152, V 153, V 154, V 155, V 156, V 157, V 158, V 159, V 160, V 161, V 162, V 163, V 164, V 165, V 166, V 167, V 168, V 169, V 170, V 171, V 172, V 173, V 174, V 175, V 176, V 177, V 178, V 179, V 180, V 181, V 182, V 183, V 184, V 185, V 186, V 187, V 188, V 189, V 190, V 191, V 192, V 193, V 194, V 195, V 196, V 197, V 198, V 199, V 200, V 201, V 202, V 203, V 204, V 205, V 206, V 207] : List Value) := hT; rw [hV] at f1 f5 f6 f7 f8 f9 f14 f15 f16 f17; subst hT; simp only [f1, f5, f6, f7, f8, f9, f14, f15, f16, f17]; clear hV hl
  by_cases hzr : zz < rn
  case neg =>
    obtain rfl : zz = rn := by omega
    repeat (first | refine Goes.reg ?_ | refine Goes.ctl2 rfl ?_ | ((first | refine qv1 rfl rfl rfl fun K hK => ?_ | refine qv3 rfl rfl rfl fun K hK => ?_ | refine qv2 rfl rfl rfl rfl rfl rfl fun K hK => ?_ | refine qv4 rfl rfl rfl rfl rfl rfl fun K hK => ?_ | refine qn1 rfl rfl rfl fun K hK => ?_ | refine qn3 rfl rfl rfl fun K hK => ?_ | refine qt1 rfl rfl rfl fun K hK => ?_ | refine qt3 rfl rfl rfl fun K hK => ?_); simp (disch := (first | omega | (simp only [sz] <;> omega) | fail)) only [go_sem]; with_reducible refine hK _ _ ?_; clear hK K) | refine At.nil rfl ?_ | refine RG.nil rfl ?_ | ((first | refine AtL.skipg rfl rfl rfl rfl rfl ?_ | refine RGL.skipg rfl rfl rfl rfl rfl ?_ | refine AtL.skipu rfl rfl rfl rfl ?_ | refine RGL.skipu rfl rfl rfl rfl ?_); simp only [putL, List.set_cons_zero, List.set_cons_succ]) | refine Goes.yes rfl ?_ | refine Goes.no rfl ?_ | refine Goes.drawR [] (by kernel_rfl) ?_)
    refine Goes.forget ?_ (by simp only [List.length_cons, List.length_nil]; omega)
    have e5 : tot (A ++ [(rk, zz)]) = tot A + zz := by rw [tot_append]; simp [tot]
    exact ih2 _ _ _ _ hz ⟨A ++ [(rk, zz)], C, _, rfl, by rw [hL1]; simp, by omega, by rw [e5]; simp only [List.length_cons]; omega, rfl, rfl, rfl, rfl, rfl, rfl, rfl, rfl, rfl, by rw [lastF_append, hfb]; rfl, by rw [e5]; push_cast; rfl⟩
  have hu2 := hin zz (by omega) hzr
  repeat (first | refine Goes.reg ?_ | refine Goes.ctl2 rfl ?_ | ((first | refine qv1 rfl rfl rfl fun K hK => ?_ | refine qv3 rfl rfl rfl fun K hK => ?_ | refine qv2 rfl rfl rfl rfl rfl rfl fun K hK => ?_ | refine qv4 rfl rfl rfl rfl rfl rfl fun K hK => ?_ | refine qn1 rfl rfl rfl fun K hK => ?_ | refine qn3 rfl rfl rfl fun K hK => ?_ | refine qt1 rfl rfl rfl fun K hK => ?_ | refine qt3 rfl rfl rfl fun K hK => ?_); simp (disch := (first | omega | (simp only [sz] <;> omega) | fail)) only [go_sem]; with_reducible refine hK _ _ ?_; clear hK K) | refine At.nil rfl ?_ | refine RG.nil rfl ?_ | ((first | refine AtL.skipg rfl rfl rfl rfl rfl ?_ | refine RGL.skipg rfl rfl rfl rfl rfl ?_ | refine AtL.skipu rfl rfl rfl rfl ?_ | refine RGL.skipu rfl rfl rfl rfl ?_); simp only [putL, List.set_cons_zero, List.set_cons_succ]) | refine Goes.yes rfl ?_ | refine Goes.no rfl ?_ | refine Goes.drawR [] (by kernel_rfl) ?_)
  ((first | refine qp1 rfl rfl fun K hK => ?_ | refine qp3 rfl rfl fun K hK => ?_); simp (disch := (first | omega | (simp only [sz] <;> omega) | fail)) only [go_sem]; refine ⟨_, _, qpu fun w => gPage_any n 2 ((tot A + zz : Nat) : Int) w (by omega) (by decide), ?_⟩; (try simp only [go_sem]); with_reducible refine hK _ _ ?_; clear hK K)
  repeat (first | refine Goes.reg ?_ | refine Goes.ctl2 rfl ?_ | ((first | refine qv1 rfl rfl rfl fun K hK => ?_ | refine qv3 rfl rfl rfl fun K hK => ?_ | refine qv2 rfl rfl rfl rfl rfl rfl fun K hK => ?_ | refine qv4 rfl rfl rfl rfl rfl rfl fun K hK => ?_ | refine qn1 rfl rfl rfl fun K hK => ?_ | refine qn3 rfl rfl rfl fun K hK => ?_ | refine qt1 rfl rfl rfl fun K hK => ?_ | refine qt3 rfl rfl rfl fun K hK => ?_); simp (disch := (first | omega | (simp only [sz] <;> omega) | fail)) only [go_sem]; with_reducible refine hK _ _ ?_; clear hK K) | refine At.nil rfl ?_ | refine RG.nil rfl ?_ | ((first | refine AtL.skipg rfl rfl rfl rfl rfl ?_ | refine RGL.skipg rfl rfl rfl rfl rfl ?_ | refine AtL.skipu rfl rfl rfl rfl ?_ | refine RGL.skipu rfl rfl rfl rfl ?_); simp only [putL, List.set_cons_zero, List.set_cons_succ]) | refine Goes.yes rfl ?_ | refine Goes.no rfl ?_ | refine Goes.drawR [] (by kernel_rfl) ?_)
  ((first | refine qp1 rfl rfl fun K hK => ?_ | refine qp3 rfl rfl fun K hK => ?_); simp (disch := (first | omega | (simp only [sz] <;> omega) | fail)) only [go_sem]; refine ⟨_, _, .word _ hm1, ?_⟩; (try simp only [go_sem]); with_reducible refine hK _ _ ?_; clear hK K)
  rw [ld_w hu2]
  repeat (first | refine Goes.reg ?_ | refine Goes.ctl2 rfl ?_ | ((first | refine qv1 rfl rfl rfl fun K hK => ?_ | refine qv3 rfl rfl rfl fun K hK => ?_ | refine qv2 rfl rfl rfl rfl rfl rfl fun K hK => ?_ | refine qv4 rfl rfl rfl rfl rfl rfl fun K hK => ?_ | refine qn1 rfl rfl rfl fun K hK => ?_ | refine qn3 rfl rfl rfl fun K hK => ?_ | refine qt1 rfl rfl rfl fun K hK => ?_ | refine qt3 rfl rfl rfl fun K hK => ?_); simp (disch := (first | omega | (simp only [sz] <;> omega) | fail)) only [go_sem]; with_reducible refine hK _ _ ?_; clear hK K) | refine At.nil rfl ?_ | refine RG.nil rfl ?_ | ((first | refine AtL.skipg rfl rfl rfl rfl rfl ?_ | refine RGL.skipg rfl rfl rfl rfl rfl ?_ | refine AtL.skipu rfl rfl rfl rfl ?_ | refine RGL.skipu rfl rfl rfl rfl ?_); simp only [putL, List.set_cons_zero, List.set_cons_succ]) | refine Goes.yes rfl ?_ | refine Goes.no rfl ?_ | refine Goes.drawR [] (by kernel_rfl) ?_)
  ((first | refine qc1 rfl rfl fun K hK => ?_ | refine qc3 rfl rfl fun K hK => ?_); simp (disch := (first | omega | (simp only [sz] <;> omega) | fail)) only [go_sem]; refine ⟨_, _, pageOf_does _ _, ?_⟩; (try simp only [go_sem]); with_reducible refine hK _ _ ?_; clear hK K)
  unfold pgV
  by_cases hc : rk = 1 ∧ zz + 1 = rn
  · rw [if_pos hc]
    obtain ⟨rfl, rfl⟩ := hc
    rw [show (pgU 2 (zz + 1)).toNat / 2 ^ 0 % 2 ^ 3 = 2 from kd_pgU (by omega) (by omega), show (pgU 2 (zz + 1)).toNat / 2 ^ 3 % 2 ^ 10 = zz + 1 from ln_pgU (by omega) (by omega), show (pgU 2 (zz + 1)).toNat / 2 ^ 13 % 2 ^ 2 = 0 by rw [pgU_nat (by omega) (by omega)]; omega, show (pgU 2 (zz + 1)).toNat / 2 ^ 16 % 2 ^ 7 = 0 by rw [pgU_nat (by omega) (by omega)]; omega]
    obtain rfl : fb = true := by rw [hfb]; rfl
    repeat (first | refine Goes.reg ?_ | refine Goes.ctl2 rfl ?_ | ((first | refine qv1 rfl rfl rfl fun K hK => ?_ | refine qv3 rfl rfl rfl fun K hK => ?_ | refine qv2 rfl rfl rfl rfl rfl rfl fun K hK => ?_ | refine qv4 rfl rfl rfl rfl rfl rfl fun K hK => ?_ | refine qn1 rfl rfl rfl fun K hK => ?_ | refine qn3 rfl rfl rfl fun K hK => ?_ | refine qt1 rfl rfl rfl fun K hK => ?_ | refine qt3 rfl rfl rfl fun K hK => ?_); simp (disch := (first | omega | (simp only [sz] <;> omega) | fail)) only [go_sem]; with_reducible refine hK _ _ ?_; clear hK K) | refine At.nil rfl ?_ | refine RG.nil rfl ?_ | ((first | refine AtL.skipg rfl rfl rfl rfl rfl ?_ | refine RGL.skipg rfl rfl rfl rfl rfl ?_ | refine AtL.skipu rfl rfl rfl rfl ?_ | refine RGL.skipu rfl rfl rfl rfl ?_); simp only [putL, List.set_cons_zero, List.set_cons_succ]) | refine Goes.yes rfl ?_ | refine Goes.no rfl ?_ | refine Goes.drawR [] (by kernel_rfl) ?_)
    exact ih3 _ _ _ _ (by omega) ⟨zz + 1, ys ++ [_], rfl, by omega, by omega, (by rw [List.length_append]; simp only [List.length_cons, List.length_nil]; omega), rfl, rfl, rfl, rfl, rfl, rfl, rfl, rfl, rfl, rfl, rfl, rfl, by push_cast; rfl⟩
  · rw [if_neg hc]
    rw [show (0 : UInt64).toNat / 2 ^ 0 % 2 ^ 3 = 0 from rfl, show (0 : UInt64).toNat / 2 ^ 3 % 2 ^ 10 = 0 from rfl, show (0 : UInt64).toNat / 2 ^ 13 % 2 ^ 2 = 0 from rfl, show (0 : UInt64).toNat / 2 ^ 16 % 2 ^ 7 = 0 from rfl]
    cases hfb' : fb with
    | false =>
      repeat (first | refine Goes.reg ?_ | refine Goes.ctl2 rfl ?_ | ((first | refine qv1 rfl rfl rfl fun K hK => ?_ | refine qv3 rfl rfl rfl fun K hK => ?_ | refine qv2 rfl rfl rfl rfl rfl rfl fun K hK => ?_ | refine qv4 rfl rfl rfl rfl rfl rfl fun K hK => ?_ | refine qn1 rfl rfl rfl fun K hK => ?_ | refine qn3 rfl rfl rfl fun K hK => ?_ | refine qt1 rfl rfl rfl fun K hK => ?_ | refine qt3 rfl rfl rfl fun K hK => ?_); simp (disch := (first | omega | (simp only [sz] <;> omega) | fail)) only [go_sem]; with_reducible refine hK _ _ ?_; clear hK K) | refine At.nil rfl ?_ | refine RG.nil rfl ?_ | ((first | refine AtL.skipg rfl rfl rfl rfl rfl ?_ | refine RGL.skipg rfl rfl rfl rfl rfl ?_ | refine AtL.skipu rfl rfl rfl rfl ?_ | refine RGL.skipu rfl rfl rfl rfl ?_); simp only [putL, List.set_cons_zero, List.set_cons_succ]) | refine Goes.yes rfl ?_ | refine Goes.no rfl ?_ | refine Goes.drawR [] (by kernel_rfl) ?_)
      exact ih3 _ _ _ _ (by omega) ⟨zz + 1, ys ++ [_], rfl, by omega, by omega, (by rw [List.length_append]; simp only [List.length_cons, List.length_nil]; omega), rfl, rfl, rfl, rfl, rfl, rfl, rfl, rfl, rfl, (by rw [hfb']; rfl), rfl, rfl, by push_cast; rfl⟩
    | true =>
      have hk1 : rk = 1 := by rw [hfb'] at hfb; simpa using hfb.symm
      have hne' : zz + 1 ≠ rn := fun h => hc ⟨hk1, h⟩
      repeat (first | refine Goes.reg ?_ | refine Goes.ctl2 rfl ?_ | ((first | refine qv1 rfl rfl rfl fun K hK => ?_ | refine qv3 rfl rfl rfl fun K hK => ?_ | refine qv2 rfl rfl rfl rfl rfl rfl fun K hK => ?_ | refine qv4 rfl rfl rfl rfl rfl rfl fun K hK => ?_ | refine qn1 rfl rfl rfl fun K hK => ?_ | refine qn3 rfl rfl rfl fun K hK => ?_ | refine qt1 rfl rfl rfl fun K hK => ?_ | refine qt3 rfl rfl rfl fun K hK => ?_); simp (disch := (first | omega | (simp only [sz] <;> omega) | fail)) only [go_sem]; with_reducible refine hK _ _ ?_; clear hK K) | refine At.nil rfl ?_ | refine RG.nil rfl ?_ | ((first | refine AtL.skipg rfl rfl rfl rfl rfl ?_ | refine RGL.skipg rfl rfl rfl rfl rfl ?_ | refine AtL.skipu rfl rfl rfl rfl ?_ | refine RGL.skipu rfl rfl rfl rfl ?_); simp only [putL, List.set_cons_zero, List.set_cons_succ]) | refine Goes.yes rfl ?_ | refine Goes.no rfl ?_ | refine Goes.drawR [] (by kernel_rfl) ?_)
      exact ih3 _ _ _ _ (by omega) ⟨zz + 1, ys ++ [_], rfl, by omega, by omega, (by rw [List.length_append]; simp only [List.length_cons, List.length_nil]; omega), rfl, rfl, rfl, rfl, rfl, rfl, rfl, rfl, rfl, (by rw [hfb']; rfl), rfl, rfl, by push_cast; rfl⟩

def acts10 (len : Nat) (z : Nat → Nat → Int) : List Act10 := (List.range len).map fun i => ⟨(z i 0).toNat, z i 1, z i 2⟩
theorem acts10_len {len : Nat} {z : Nat → Nat → Int} : (acts10 len z).length = len := by simp [acts10]
theorem u8_of10 {n : Int} (h : (Lit.int .u8 n).wf = true) : 0 ≤ n ∧ n ≤ 255 := by simpa [Lit.wf, IntKind.min, IntKind.max, IntKind.signed, IntKind.bits] using h
theorem i16_of10 {n : Int} (h : (Lit.int .i16 n).wf = true) : -32768 ≤ n ∧ n ≤ 32767 := by simpa [Lit.wf, IntKind.min, IntKind.max, IntKind.signed, IntKind.bits] using h
theorem acts10_slice {a : Option Addr} {len cap : Nat} {z : Nat → Nat → Int} {w : World} (h : RowS [.u8, .i16, .i16] w a len cap z) :
    len ≤ 9223372036854775807 ∧ (∀ y ∈ acts10 len z, Bd10 y) ∧ (0 < (acts10 len z).length → ∃ x, a = some x ∧ ∀ (i : Nat) (y : Act10), (acts10 len z)[i]? = some y → ∀ (j : Nat) (v : Value), (a10C y)[j]? = some v → w.cell? (x.add (i * 3 + j)) = some v) := by
  rcases h with ⟨rfl, rfl, rfl⟩ | ⟨x, rfl, hl, hm, hc⟩
  · exact ⟨by omega, fun y hy => by simp [acts10] at hy, fun h => by simp [acts10] at h⟩
  · refine ⟨by unfold maxLen at hm; omega, fun y hy => ?_, fun _ => ⟨x, rfl, fun i y hy j v hv => ?_⟩⟩
    · obtain ⟨i, hi, rfl⟩ := List.mem_map.1 hy
      have hi := List.mem_range.1 hi
      have h0 := u8_of10 (hc i hi 0 .u8 rfl).2
      have h1 := i16_of10 (hc i hi 1 .i16 rfl).2
      have h2 := i16_of10 (hc i hi 2 .i16 rfl).2
      simp only [Bd10]
      omega
    · have hi : i < len := by have := (List.getElem?_eq_some_iff.1 hy).1; rw [acts10_len] at this; exact this
      simp only [acts10, List.getElem?_map, List.getElem?_range hi, Option.map_some, Option.some.injEq] at hy
      subst hy
      have key : ∀ (j : Nat) (k : IntKind), [IntKind.u8, .i16, .i16][j]? = some k → w.cell? (x.add (i * 3 + j)) = some (.int k (z i j)) ∧ (Lit.int k (z i j)).wf = true := fun j k hk => hc i hi j k hk
      match j, hv with
      | 0, hv =>
        obtain ⟨h1, h2⟩ := key 0 .u8 rfl
        simp only [a10C, List.getElem?_cons_zero, Option.some.injEq] at hv
        rw [h1, ← hv, Int.toNat_of_nonneg (u8_of10 h2).1]
      | 1, hv =>
        obtain ⟨h1, h2⟩ := key 1 .i16 rfl
        simp only [a10C, List.getElem?_cons_zero, List.getElem?_cons_succ, Option.some.injEq] at hv
        rw [h1, ← hv]
      | 2, hv =>
        obtain ⟨h1, h2⟩ := key 2 .i16 rfl
        simp only [a10C, List.getElem?_cons_zero, List.getElem?_cons_succ, Option.some.injEq] at hv
        rw [h1, ← hv]
      | j + 3, hv => simp [a10C] at hv

theorem runsCover_walk (a0 : Int) (a1 : Option Addr) (len1 cap1 : Nat) (z1 : Nat → Nat → Int) (w : World) (w0 : (Lit.int .u8 a0).wf = true) (w1 : RowS [.u8, .i16, .i16] w a1 len1 cap1 z1) :
    Calls Try.prog 9 #[.int .u8 a0, .slice a1 len1 cap1] w fun e w' => e = .returned (.bool true) ∧ Below w.heap.size w w' := by
  have h0 := u8_of10 w0
  obtain ⟨pg, rfl⟩ := Int.eq_ofNat_of_zero_le h0.1
  obtain ⟨h1, h2, h3⟩ := acts10_slice w1
  obtain ⟨sl, ob, bk, bs, hren, hat, hrow, hlies⟩ := law_slice a10C a10C_len (by decide) a10C_plain (acts10 len1 z1) a1 cap1 w 0 h3
  have L := (runsCover_law pg sl cap1 (acts10 len1 z1) ob hat hrow (by rw [acts10_len]; exact h1) (by omega) h2).calls ⟨fun _ => bk, fun _ => bs, fun _ => 0⟩ w (fun n b hb => by
    match n, hb with
    | 0, hb => exact hlies b (by simpa using hb)
    | n + 1, hb => simp at hb) (by simp)
  simp only [List.map_toArray, List.map_cons, List.map_nil, ren_int] at L
  rw [hren _ rfl rfl rfl, acts10_len] at L
  exact L.mono fun e w' h => ⟨h.1, h.2.below⟩
end Go.Proofs.Ytceddijolfpppaa
