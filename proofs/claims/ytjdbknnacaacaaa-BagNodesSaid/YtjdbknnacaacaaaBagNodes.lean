/-
  Layer 9: BagNodes.
  No condition.
-/
import Derived.Test.YtjdbknnacaacaaaUBag4
namespace Go.Proofs.Ytjdbknnacaacaaa
open Go Go.RowKit
set_option linter.unusedSimpArgs false
set_option linter.unusedVariables false
set_option maxHeartbeats 20000000 in
set_option maxRecDepth 10000 in
theorem bagNodes_law (pg : Nat) (sl : Option Addr) (c : Nat) (l : List Act9) (ob : Option Blk) (hcl : SlAt 0 sl) (hrow : RowIs a9C 0 sl l ob) (hlen : l.length ≤ 9223372036854775807) (hpg : pg ≤ 255) (hbd : ∀ y ∈ l, Bd9 y) :
    Law 5 #[.int .u8 pg, .slice sl l.length c] [ob] := by
  refine Law.mk Try.func5 rfl rfl (clo2 iclo (hcl.clo (by simp))) ?_
  rw [Try.ntmps5]; simp only [List.size_toArray, List.length_cons, List.length_nil, List.replicate, List.cons_append, List.nil_append]
  by_cases h80 : l.length > 60
  · refine via ?_
    ((first | refine qp1 rfl rfl fun K hK => ?_ | refine qp3 rfl rfl fun K hK => ?_); simp (disch := (first | omega | (simp only [sz] <;> omega) | fail)) only [go_sem]; refine ⟨_, _, qpu fun w => awake9_any w, ?_⟩; (try simp only [go_sem]); with_reducible refine hK _ _ ?_; clear hK K)
    refine via ?_
    exact Goes.law rfl rfl
  refine via ?_
  ((first | refine qc1 rfl rfl fun K hK => ?_ | refine qc3 rfl rfl fun K hK => ?_); simp (disch := (first | omega | (simp only [sz] <;> omega) | fail)) only [go_sem]; refine ⟨_, _, of8_does _ pg 0 (by omega) (by omega), ?_⟩; (try simp only [go_sem]); with_reducible refine hK _ _ ?_; clear hK K)
  obtain ⟨N, hN⟩ : ∃ N, N = 1 + pg % 3 := ⟨_, rfl⟩
  rw [← hN]
  have hN1 : 1 ≤ N := by omega
  have hN3 : N ≤ 3 := by omega
  clear hN
  try simp only [Nat.zero_mod, Nat.add_zero]
  have hM := gM9 N
  have hg19 : gb N 1 19 ≤ 2097152 := by
    obtain rfl | rfl | rfl : N = 1 ∨ N = 2 ∨ N = 3 := by omega
    all_goals decide
  obtain ⟨v0, S0, ⟨rfl, st0, ws0, W0, bs, rfl, hW0, hP0, hr0⟩, hd0⟩ := memory8_does [] N 1 hN1 (by omega) (by omega) (by omega) hg19
  simp only [List.length_nil, List.nil_append] at hd0
  refine via ?_
  ((first | refine qc1 rfl rfl fun K hK => ?_ | refine qc3 rfl rfl fun K hK => ?_); simp (disch := (first | omega | (simp only [sz] <;> omega) | fail)) only [go_sem]; refine ⟨_, _, hd0, ?_⟩; (try simp only [go_sem]); with_reducible refine hK _ _ ?_; clear hK K)
  refine via ?_
  ((first | refine qp1 rfl rfl fun K hK => ?_ | refine qp3 rfl rfl fun K hK => ?_); simp (disch := (first | omega | (simp only [sz] <;> omega) | fail)) only [go_sem]; refine ⟨_, _, .pnew (m := 0) rfl, ?_⟩; (try simp only [go_sem]); with_reducible refine hK _ _ ?_; clear hK K)
  refine via ?_
  refine Goes.wh (fun z tmps h S => ∃ (i qq : Nat) (lf : List (Option Blk)) (most now st : Nat) (ws : List UInt64) (W : Nat → Nat → UInt64) (free : List Nat) (ver : Nat) (G L : Nat → List Nat) (I : Nat → Nat → UInt64), z = l.length - i ∧ i ≤ l.length ∧ lf.length ≤ qq ∧ 2 ≤ qq ∧ qq ≤ 2 + 90000 * i ∧ (∀ b, ob = some b → lf[0]? = some (some b)) ∧ lf[1]? = some (some { cells := (geoC N 1).toList, elem := 24 }) ∧ BS N 1 ws W free ver G L I ∧ (∀ j, j ≠ 0 → L j = []) ∧ totI I (L 0) = now ∧ now ≤ most ∧ most ≤ i ∧ (L 0).length ≤ (most + 7) / 8 ∧ ver ≤ 5000 * i ∧ st ≤ 80000 * i ∧ S = [.mem ws bs, .port 0 0 st0, .port 0 0 st] ∧ h = heapJ lf qq [] ∧ tmps.length = 89 ∧
      tmps.getD 1 undef = .slice sl l.length c ∧ tmps.getD 4 undef = .bool false ∧ tmps.getD 5 undef = .pointer (some ⟨1, 0, none⟩) ∧ tmps.getD 6 undef = hndV 0 ∧ tmps.getD 7 undef = hndV 2 ∧ tmps.getD 8 undef = .int .i64 most ∧ tmps.getD 9 undef = .int .i64 now ∧ tmps.getD 10 undef = .int .i64 i) (m := l.length)
      ⟨0, 2, [ob, some { cells := (geoC N 1).toList, elem := 24 }], 0, 0, 0, ws0, W0, upto 1 (gM N 1), 0, _, _, _, rfl, by omega, by simp, by omega, by omega, fun b hb => (by rw [hb]; rfl), rfl, BS.start hW0 hP0 hr0, fun _ _ => rfl, rfl, by omega, by omega, by simp, by omega, by omega, rfl, gap_of _, rfl, rfl, rfl, rfl, rfl, rfl, rfl, rfl, rfl⟩ ?_
  rintro z tmps h S ih ⟨i, qq, lf, most, now, st, ws, W, free, ver, G, L, I, rfl, hi, hlen', hq2, hq3, hrow0, hgeo, hS, hL0, htot, hnm, hmi, hlm, hver, hst, rfl, rfl, hl, f1, f4, f5, f6, f7, f8, f9, f10⟩
  obtain ⟨V, hV, hT⟩ := frame_lit hl; replace hT : _ = ([V 0, V 1, V 2, V 3, V 4, V 5, V 6, V 7, V 8, V 9, V 10, V 11, V 12, V 13, V 14, V 15, V 16, V 17, V 18, V 19, V 20, V 21, V 22, V 23, V 24, V 25, V 26, V 27, V 28, V 29, V 30, V 31, V 32, V 33, V 34, V 35, V 36, V 37, V 38, V 39, V 40, V 41, V 42, V 43, V 44, V 45, V 46, V 47, V 48, V 49, V 50, V 51, V 52, V 53, V 54, V 55, V 56, V 57, V 58, V 59, V 60, V 61, V 62, V 63, V 64, V 65, V 66, V 67, V 68, V 69, V 70, V 71, V 72, V 73, V 74, V 75, V 76, V 77, V 78, V 79, V 80, V 81, V 82, V 83, V 84, V 85, V 86, V 87, V 88] : List Value) := hT; rw [hV] at f1 f4 f5 f6 f7 f8 f9 f10; subst hT; simp only [f1, f4, f5, f6, f7, f8, f9, f10]; clear hV hl
  by_cases hlt : i < l.length
  case neg =>
    refine via ?_
    ((first | refine qp1 rfl rfl fun K hK => ?_ | refine qp3 rfl rfl fun K hK => ?_); simp (disch := (first | omega | (simp only [sz] <;> omega) | fail)) only [go_sem]; refine ⟨_, _, qpu fun w => awake9_any w, ?_⟩; (try simp only [go_sem]); with_reducible refine hK _ _ ?_; clear hK K)
    refine via ?_
    exact Goes.law rfl rfl
  obtain ⟨rfl, el, rfl⟩ := hrow (by omega)
  have hr0 := hrow0 _ rfl
  obtain ⟨x, hx⟩ : ∃ x, x = l[i] := ⟨_, rfl⟩
  have hlk : l[i]? = some x := by rw [hx]; exact List.getElem?_eq_getElem hlt
  obtain ⟨hb1, hb2, ⟨hb3, hb4⟩, hb5⟩ := hbd x (by rw [hx]; exact List.getElem_mem hlt)
  have hcL := rowC_len a9C_len l
  have g0 : (rowC a9C l)[i * 4]? = some (.int .u8 x.d) := rowC_get (j := 0) a9C_len hlk (by decide)
  have hgl := hS.glen 0 (by omega)
  have hcount := hS.count
  rw [flat_one, flat_four hL0] at hcount
  obtain ⟨y, fr, rfl⟩ : ∃ y fr, free = y :: fr := by
    cases free with
    | nil => simp only [List.length_nil] at hcount; omega
    | cons y fr => exact ⟨y, fr, rfl⟩
  have hl00 : 0 < lf.length := (List.getElem?_eq_some_iff.1 hr0).1
  have hl01 : 1 < lf.length := (List.getElem?_eq_some_iff.1 hgeo).1
  have hq0 : 0 < qq := by omega
  have hq1 : 1 < qq := by omega
  obtain ⟨d3, hd3⟩ : ∃ d3, d3 = x.d % 3 := ⟨_, rfl⟩
  have hdm : (x.d : Int).tmod (3 : Int) = (d3 : Int) := by rw [hd3]; exact tmod_n x.d 3
  have h3 : d3 < 3 := by omega
  refine viaF (And.intro hr0 (And.intro g0 hdm)) ?_
  apply share (P := fun todo : List Item => ∀ (tmps : List Value) (qq' : Nat) (lf' : List (Option Blk)) (most' now' st' : Nat) (ws' : List UInt64) (W' : Nat → Nat → UInt64) (free' : List Nat) (ver' : Nat) (G' L' : Nat → List Nat) (I' : Nat → Nat → UInt64), tmps.length = 89 → tmps.getD 1 undef = .slice (some ⟨0, 0, none⟩) l.length c → tmps.getD 4 undef = .bool false → tmps.getD 5 undef = .pointer (some ⟨1, 0, none⟩) → tmps.getD 6 undef = hndV 0 → tmps.getD 7 undef = hndV 2 → tmps.getD 8 undef = .int .i64 most' → tmps.getD 9 undef = .int .i64 now' → tmps.getD 10 undef = .int .i64 i → tmps.getD 80 undef = hndV 0 →
    Ge lf lf' → lf'.length ≤ qq' → qq' ≤ qq + 40000 → BS N 1 ws' W' free' ver' G' L' I' → (∀ j, j ≠ 0 → L' j = []) → totI I' (L' 0) = now' → now' ≤ most' → most' ≤ i + 1 → (L' 0).length ≤ (most' + 7) / 8 → ver' ≤ ver + 5000 → st' ≤ st + 80000 →
    Goes OF Try.f5 (fun x => ∃ h1 S', x = .done (.bool true) h1 S') (.run todo tmps (heapJ lf' qq' []) [.mem ws' bs, .port 0 0 st0, .port 0 0 st']))
  · intro inner
    have hd3' : d3 = 0 ∨ d3 = 1 ∨ d3 = 2 := by omega
    have acc2 : ∀ (ws' : List UInt64) (st' : Nat), accS [Ob.mem ws bs, Ob.port 0 0 st0, Ob.port 0 0 st] 2 0 ((0 : Nat) : Int) st' ws' bs = [.mem ws' bs, .port 0 0 st0, .port 0 0 st'] := fun ws' st' => rfl
    rcases hd3' with rfl | rfl | rfl
    · have e2 : IntKind.u64.wrap ((i : Int) + 1) = ((UInt64.ofNat (i + 1)).toNat : Int) := u64_i (i := i + 1) (by omega)
      have hne0 : UInt64.ofNat (i + 1) ≠ 0 := fun e => by
        have h9 := congrArg UInt64.toNat e
        simp at h9; omega
      obtain ⟨v1, S1, ⟨rfl, st1, ws1, W1, fr1, ver1, L1, I1, hst1, rfl, hver1, hS1, hsaid, _⟩, hd⟩ := badd_does [Ob.mem ws bs, Ob.port 0 0 st0, Ob.port 0 0 st] 2 0 0 st ws bs N 1 0 y (UInt64.ofNat (i + 1)) rfl rfl (by omega) hN1 (by omega) (by omega) (by omega) (by omega) (by omega) hS hne0
      rw [acc2] at hd
      have hsaid' : AddSaid I L 0 (UInt64.ofNat (i + 1)) (y :: fr) fr1 L1 I1 := hsaid
      obtain ⟨ht1, hlen1, hj1⟩ := hsaid'.tot (hS.lnd (by omega)) (fun z hz hm => hS.out (i := 0) (by omega) hm (List.mem_append.2 (.inl hz))) hne0
      refine viaF (And.intro hgeo e2) ?_
      ((first | refine qc1 rfl rfl fun K hK => ?_ | refine qc3 rfl rfl fun K hK => ?_); simp (disch := (first | omega | (simp only [sz] <;> omega) | fail)) only [go_sem]; refine ⟨_, _, hd, ?_⟩; (try simp only [go_sem]); with_reducible refine hK _ _ ?_; clear hK K)
      by_cases hmn : most < now + 1
      · refine via ?_
        exact inner _ qq lf (now + 1) (now + 1) st1 ws1 W1 fr1 ver1 G L1 I1 rfl rfl rfl rfl rfl rfl rfl rfl rfl rfl (Ge.refl _) hlen' (by omega) hS1 (fun j hj => (hj1 j hj).trans (hL0 j hj)) (by omega) (by omega) (by omega) (by omega) (by omega) (by omega)
      · have e3 : (if (now : Int) + 1 > (most : Int) then (now : Int) + 1 else (most : Int)) = (most : Int) := if_neg (by omega)
        refine viaF e3 ?_
        exact inner _ qq lf most (now + 1) st1 ws1 W1 fr1 ver1 G L1 I1 rfl rfl rfl rfl rfl rfl rfl rfl rfl rfl (Ge.refl _) hlen' (by omega) hS1 (fun j hj => (hj1 j hj).trans (hL0 j hj)) (by omega) (by omega) (by omega) (by omega) (by omega) (by omega)
    · obtain ⟨v1, S1, ⟨u, ok, rfl, st1, ws1, W1, I1, hst1, rfl, hS1, _, hsaid⟩, hd⟩ := btake_does [Ob.mem ws bs, Ob.port 0 0 st0, Ob.port 0 0 st] 2 0 0 st ws bs N 1 0 rfl rfl (by omega) hN1 (by omega) (by omega) (by omega) (by omega) (by omega) hS
      rw [acc2] at hd
      have hft : (ok = true ∧ totI I1 (L 0) + 1 = totI I (L 0)) ∨ (ok = false ∧ totI I (L 0) = 0 ∧ I1 = I) := by
        rcases hsaid with ⟨j, hj, _, hf, rfl⟩ | ⟨hb, rfl, rfl, rfl⟩
        · obtain rfl : j = 0 := by omega
          rcases FromSaid.tot hf (hS.lnd (i := 0) (by omega)) with ⟨_, h⟩ | ⟨h, _⟩
          · exact .inl ⟨rfl, h⟩
          · cases h
        · exact .inr ⟨rfl, totI_bare (hb 0 (by omega)), rfl⟩
      refine viaF hgeo ?_
      ((first | refine qc1 rfl rfl fun K hK => ?_ | refine qc3 rfl rfl fun K hK => ?_); simp (disch := (first | omega | (simp only [sz] <;> omega) | fail)) only [go_sem]; refine ⟨_, _, hd, ?_⟩; (try simp only [go_sem]); with_reducible refine hK _ _ ?_; clear hK K)
      rcases hft with ⟨rfl, ht⟩ | ⟨rfl, ht, rfl⟩
      · have e3 : (now : Int) - 1 = ((now - 1 : Nat) : Int) := by omega
        refine viaF e3 ?_
        exact inner _ qq lf most (now - 1) st1 ws1 W1 (y :: fr) ver G L I1 rfl rfl rfl rfl rfl rfl rfl rfl rfl rfl (Ge.refl _) hlen' (by omega) hS1 hL0 (by omega) (by omega) (by omega) hlm (by omega) (by omega)
      · refine via ?_
        exact inner _ qq lf most now st1 ws1 W1 (y :: fr) ver G L I1 rfl rfl rfl rfl rfl rfl rfl rfl rfl rfl (Ge.refl _) hlen' (by omega) hS1 hL0 (by omega) (by omega) (by omega) hlm (by omega) (by omega)
    · obtain ⟨v1, S1, ⟨rfl, st1, ws1, W1, fr1, ver1, G1, hst1, hver1, rfl, hS1, _⟩, hd⟩ := bprune_does [Ob.mem ws bs, Ob.port 0 0 st0, Ob.port 0 0 st] 2 0 0 st ws bs N 1 0 rfl rfl (by omega) hN1 (by omega) (by omega) (by omega) (by omega) (by omega) (by omega) hS
      rw [acc2] at hd
      obtain ⟨L1, hL1⟩ : ∃ L1, L1 = upG L 0 ((L 0).filter fun x => !bareB I x) := ⟨_, rfl⟩
      have hS1' : BS N 1 ws1 W1 fr1 ver1 G1 L1 I := by rw [hL1]; exact hS1
      have hL10 : L1 0 = (L 0).filter fun x => !bareB I x := by rw [hL1, upG_eq]
      have ht1 : totI I (L1 0) = now := by rw [hL10, totI_prune]; exact htot
      have hl1 : (L1 0).length ≤ now := by rw [hL10, ← htot]; exact len_prune
      have hl2 : (L1 0).length ≤ (L 0).length := by rw [hL10]; exact List.length_filter_le _ _
      obtain ⟨ll, q1, a1, hll, hq1', ha1, hd1⟩ := list0 [Ob.mem ws1 bs, Ob.port 0 0 st0, Ob.port 0 0 st1] 0 ws1 bs N rfl hN1 hN3 hS1'
      refine viaF hgeo ?_
      ((first | refine qc1 rfl rfl fun K hK => ?_ | refine qc3 rfl rfl fun K hK => ?_); simp (disch := (first | omega | (simp only [sz] <;> omega) | fail)) only [go_sem]; refine ⟨_, _, hd, ?_⟩; (try simp only [go_sem]); with_reducible refine hK _ _ ?_; clear hK K)
      refine viaF hgeo ?_
      ((first | refine qr1 (by first | assumption | omega | simp) rfl rfl fun K hK => ?_ | refine qr3 (by first | assumption | omega | simp) rfl rfl fun K hK => ?_); simp (disch := (first | omega | (simp only [sz] <;> omega) | fail)) only [go_sem]; refine ⟨_, _, _, _, hd1, by (try simp only [sz, List.length_cons, List.length_nil]); omega, fun lf hF => ?_⟩; (try simp only [go_sem]); with_reducible refine hK _ _ _ _ ?_; clear hK K)
      rw [ren_shU ha1]
      obtain ⟨hF1, hF2, _⟩ := hF
      simp only [List.length_nil, Nat.add_zero] at hF1
      refine via ?_
      exact inner _ _ lf most now st1 ws1 W1 fr1 ver1 G1 L1 I rfl rfl rfl rfl rfl rfl rfl rfl rfl rfl hF2 (by omega) (by omega) hS1' (fun j hj => by rw [hL1, upG_ne hj]; exact hL0 j hj) ht1 hnm (by omega) (by omega) (by omega) (by omega)
  rintro tmps qq' lf' most' now' st' ws' W' free' ver' G' L' I' hl f1 f4 f5 f6 f7 f8 f9 f10 f80 hge' hlen2 hqq' hS' hL0' htot' hnm' hmi' hlm' hver' hst'
  obtain ⟨V, hV, hT⟩ := frame_lit hl; replace hT : _ = ([V 0, V 1, V 2, V 3, V 4, V 5, V 6, V 7, V 8, V 9, V 10, V 11, V 12, V 13, V 14, V 15, V 16, V 17, V 18, V 19, V 20, V 21, V 22, V 23, V 24, V 25, V 26, V 27, V 28, V 29, V 30, V 31, V 32, V 33, V 34, V 35, V 36, V 37, V 38, V 39, V 40, V 41, V 42, V 43, V 44, V 45, V 46, V 47, V 48, V 49, V 50, V 51, V 52, V 53, V 54, V 55, V 56, V 57, V 58, V 59, V 60, V 61, V 62, V 63, V 64, V 65, V 66, V 67, V 68, V 69, V 70, V 71, V 72, V 73, V 74, V 75, V 76, V 77, V 78, V 79, V 80, V 81, V 82, V 83, V 84, V 85, V 86, V 87, V 88] : List Value) := hT; rw [hV] at f1 f4 f5 f6 f7 f8 f9 f10 f80; subst hT; simp only [f1, f4, f5, f6, f7, f8, f9, f10, f80]; clear hV hl
  have hgeo' := hge' _ _ hgeo
  have hr0' := hge' _ _ hr0
  have hl0' : 1 < lf'.length := (List.getElem?_eq_some_iff.1 hgeo').1
  have hq0' : 1 < qq' := by omega
  obtain ⟨ll, q1, a1, hll, hq1', ha1, hd1⟩ := list0 [Ob.mem ws' bs, Ob.port 0 0 st0, Ob.port 0 0 st'] 0 ws' bs N rfl hN1 hN3 hS'
  have e7 : ((most' : Int) + 7).tdiv 8 = (((most' + 7) / 8 : Nat) : Int) := by
    rw [show ((most' : Int) + 7) = ((most' + 7 : Nat) : Int) by push_cast; rfl]; rfl
  refine Goes.at ?_
  repeat (first | refine Goes.reg ?_ | refine Goes.ctl2 rfl ?_ | ((first | refine qv1 rfl rfl rfl fun K hK => ?_ | refine qv3 rfl rfl rfl fun K hK => ?_ | refine qv2 rfl rfl rfl rfl rfl rfl fun K hK => ?_ | refine qv4 rfl rfl rfl rfl rfl rfl fun K hK => ?_ | refine qn1 rfl rfl rfl fun K hK => ?_ | refine qn3 rfl rfl rfl fun K hK => ?_ | refine qt1 rfl rfl rfl fun K hK => ?_ | refine qt3 rfl rfl rfl fun K hK => ?_); simp (disch := (first | omega | (simp only [sz] <;> omega) | fail)) only [go_sem, hgeo']; with_reducible refine hK _ _ ?_; clear hK K) | refine At.nil rfl ?_ | refine RG.nil rfl ?_ | ((first | refine AtL.skipg rfl rfl rfl rfl rfl ?_ | refine RGL.skipg rfl rfl rfl rfl rfl ?_ | refine AtL.skipu rfl rfl rfl rfl ?_ | refine RGL.skipu rfl rfl rfl rfl ?_); simp only [putL, List.set_cons_zero, List.set_cons_succ]) | refine Goes.yes rfl ?_ | refine Goes.no rfl ?_ | refine Goes.drawR [] (by kernel_rfl) ?_)
  ((first | refine qr1 (by first | assumption | omega | simp) rfl rfl fun K hK => ?_ | refine qr3 (by first | assumption | omega | simp) rfl rfl fun K hK => ?_); simp (disch := (first | omega | (simp only [sz] <;> omega) | fail)) only [go_sem]; refine ⟨_, _, _, _, hd1, by (try simp only [sz, List.length_cons, List.length_nil]); omega, fun lf hF => ?_⟩; (try simp only [go_sem]); with_reducible refine hK _ _ _ _ ?_; clear hK K)
  rw [ren_shU ha1]
  obtain ⟨hF1, hF2, _⟩ := hF
  simp only [List.length_nil, Nat.add_zero] at hF1
  refine viaF e7 ?_
  exact ih _ _ _ _ (by omega) ⟨i + 1, _, lf, most', now', st', ws', W', free', ver', G', L', I', rfl, by omega, by omega, by omega, by omega, fun b hb => (by cases hb; exact hF2 _ _ hr0'), hF2 _ _ hgeo', hS', hL0', htot', hnm', by omega, hlm', by omega, by omega, rfl, rfl, rfl, rfl, rfl, rfl, rfl, rfl, rfl, rfl, by push_cast; rfl⟩
theorem bagNodes_walk (a0 : Int) (a1 : Option Addr) (len1 cap1 : Nat) (z1 : Nat → Nat → Int) (w : World) (w0 : (Lit.int .u8 a0).wf = true) (w1 : RowS [.u8, .u8, .i64, .u64] w a1 len1 cap1 z1) :
    Calls Try.prog 5 #[.int .u8 a0, .slice a1 len1 cap1] w fun e w' => e = .returned (.bool true) ∧ Below w.heap.size w w' := by
  have h0 := u8_of9 w0
  obtain ⟨pg, rfl⟩ := Int.eq_ofNat_of_zero_le h0.1
  obtain ⟨h1, h2, h3⟩ := acts9_slice w1
  obtain ⟨sl, ob, bk, bs, hren, hat, hrow, hlies⟩ := law_slice a9C a9C_len (by decide) a9C_plain (acts9 len1 z1) a1 cap1 w 0 h3
  have L := (bagNodes_law pg sl cap1 (acts9 len1 z1) ob hat hrow (by rw [acts9_len]; exact h1) (by omega) h2).calls ⟨fun _ => bk, fun _ => bs, fun _ => 0⟩ w (fun n b hb => by
    match n, hb with
    | 0, hb => exact hlies b (by simpa using hb)
    | n + 1, hb => simp at hb) (by simp)
  simp only [List.map_toArray, List.map_cons, List.map_nil, ren_int] at L
  rw [hren _ rfl rfl rfl, acts9_len] at L
  exact L.mono fun e w' h => ⟨h.1, h.2.below⟩
end Go.Proofs.Ytjdbknnacaacaaa
