/-
  Layer 9: BagPlay.
  No condition.
-/
import Derived.Test.YtjdbknnacaacaaaUBag9
namespace Go.Proofs.Ytjdbknnacaacaaa
open Go Go.RowKit
set_option linter.unusedSimpArgs false
set_option linter.unusedVariables false
def bgC (T : Nat) (p : Option Addr × Nat) : List Value := [.slice p.1 T T, .int .i64 (p.2 : Int)]
theorem bgC_len (T : Nat) : ∀ p, (bgC T p).length = 2 := fun _ => rfl
theorem rowC_set {α : Type} {fl : α → List Value} {s : Nat} (hs : ∀ x, (fl x).length = s) : ∀ (l : List α) (i : Nat) (x : α), i < l.length → spliceA (rowC fl l) (i * s) (fl x) = rowC fl (l.set i x)
  | [], i, x, h => by simp at h
  | y :: l, 0, x, h => by
    simp only [spliceA, rowC, List.flatMap_cons, Nat.zero_mul, List.take_zero, List.nil_append, Nat.zero_add, List.set_cons_zero, hs x]
    rw [← hs y, List.drop_append_of_le_length (Nat.le_refl _), List.drop_length, List.nil_append]
  | y :: l, i + 1, x, h => by
    have := rowC_set hs l i x (by simpa using h)
    simp only [spliceA, rowC, List.flatMap_cons, List.set_cons_succ] at this ⊢
    rw [← this]
    have e : (i + 1) * s = s + i * s := by rw [Nat.add_mul]; omega
    rw [e]
    have hy := hs y
    rw [List.take_append, List.drop_append, hy]
    have e1 : s + i * s - s = i * s := by omega
    have e2 : s + i * s + (fl x).length - s = i * s + (fl x).length := by omega
    rw [e1, e2, List.take_of_length_le (by omega), List.drop_eq_nil_of_le (by omega)]
    simp
theorem ren_bgV {d T n : Nat} {adds : Int} (h : n < VB) : ren (upE [] d) (bgV (some ⟨n, 0, none⟩) T adds) = bgV (some ⟨d + n, 0, none⟩) T adds := by
  obtain ⟨h1, h2, h3⟩ := up_lo (nx := d) h
  simp [bgV, adr, h1, h2, h3]
theorem IsW.fresh {l0 ys l lf : List (Option Blk)} {q0 q n0 : Nat} {zs : List (List (List UInt64))} (h : IsW l (some ⟨n0, 0, none⟩) zs) (hF : FreshAt l0 ys l q0 q lf) (hl : l.length ≤ q) (hq : q ≤ VB) : IsW lf (some ⟨q0 + ys.length + n0, 0, none⟩) zs := by
  obtain ⟨n, g, ps, hn, hb, hp, hall⟩ := h
  cases hn
  refine ⟨q0 + ys.length + n0, g, ps.map fun p => (shU (q0 + ys.length) p.1, p.2), rfl, ?_, by rw [List.length_map]; exact hp, fun j p xs h1 h2 => ?_⟩
  · rw [hF.2.2.2 n0 _ hb]
    unfold renB rowQ
    rw [List.map_map, List.map_map]
    have e : ∀ p ∈ ps, (ren (upE [] (q0 + ys.length)) ∘ fun p : Option Addr × Nat => Value.slice p.1 p.2 p.2) p = ((fun p : Option Addr × Nat => Value.slice p.1 p.2 p.2) ∘ fun p : Option Addr × Nat => (shU (q0 + ys.length) p.1, p.2)) p := fun p hpm => by
      obtain ⟨j, hj⟩ := List.getElem?_of_mem hpm
      have hjl := (List.getElem?_eq_some_iff.1 hj).1
      obtain ⟨_, hu⟩ := hall j p _ hj (List.getElem?_eq_getElem (by omega))
      exact ren_shU (hu.at hl hq)
    rw [List.map_congr_left e]
  · rw [List.getElem?_map] at h1
    cases hj : ps[j]? with
    | none => rw [hj] at h1; cases h1
    | some p0 =>
      rw [hj] at h1; cases h1
      obtain ⟨h3, h4⟩ := hall j p0 xs hj h2
      exact ⟨h3, h4.fresh hF hl hq⟩
def XI (T : Nat) (l : List (Option Blk)) (ps : List (Option Addr × Nat)) (I : Nat → Nat → UInt64) (L : Nat → List Nat) (W : Nat → Nat → UInt64) (i : Nat) : Prop :=
  ps.length = 4 ∧ ∀ (c : Nat) (p : Option Addr × Nat), ps[c]? = some p → IsW l p.1 (wasOf I L c T) ∧ W 5 c = UInt64.ofNat p.2 ∧ p.2 ≤ i
theorem XI.ge {T : Nat} {l l' : List (Option Blk)} {ps : List (Option Addr × Nat)} {I : Nat → Nat → UInt64} {L : Nat → List Nat} {W : Nat → Nat → UInt64} {i i' : Nat} (h : XI T l ps I L W i) (hg : Ge l l') (hi : i ≤ i') : XI T l' ps I L W i' :=
  ⟨h.1, fun c p hp => ⟨(h.2 c p hp).1.ge hg, (h.2 c p hp).2.1, by have := (h.2 c p hp).2.2; omega⟩⟩
theorem XI.set {T : Nat} {l : List (Option Blk)} {ps : List (Option Addr × Nat)} {I : Nat → Nat → UInt64} {L : Nat → List Nat} {W : Nat → Nat → UInt64} {i q : Nat} {b : Option Blk} {b0 : Blk} (h : XI T l ps I L W i) (hq : l[q]? = some (some b0)) (he : b0.elem = 40) : XI T (l.set q b) ps I L W i :=
  ⟨h.1, fun c p hp => ⟨(h.2 c p hp).1.set hq (by rw [he]; decide) (by rw [he]; decide) (by rw [he]; decide), (h.2 c p hp).2.1, (h.2 c p hp).2.2⟩⟩
theorem XI.up {T : Nat} {l : List (Option Blk)} {ps : List (Option Addr × Nat)} {I I' : Nat → Nat → UInt64} {L L' : Nat → List Nat} {W W' : Nat → Nat → UInt64} {i c : Nat} {p : Option Addr × Nat} (h : XI T l ps I L W i) (ho : ∀ d, d < 4 → d ≠ c → wasOf I' L' d T = wasOf I L d T) (hw : ∀ d, d < 4 → d ≠ c → W' 5 d = W 5 d) (hp : IsW l p.1 (wasOf I' L' c T) ∧ W' 5 c = UInt64.ofNat p.2 ∧ p.2 ≤ i) : XI T l (ps.set c p) I' L' W' i := by
  refine ⟨by rw [List.length_set]; exact h.1, fun d u hu => ?_⟩
  have hd := (List.getElem?_eq_some_iff.1 hu).1
  rw [List.length_set, h.1] at hd
  by_cases e : c = d
  · subst e
    rw [List.getElem?_set_self (by rw [h.1]; exact hd)] at hu
    cases hu; exact hp
  · rw [List.getElem?_set_ne e] at hu
    obtain ⟨h1, h2, h3⟩ := h.2 d u hu
    exact ⟨by rw [ho d hd (fun e2 => e e2.symm)]; exact h1, by rw [hw d hd (fun e2 => e e2.symm)]; exact h2, h3⟩
theorem u64_succ (n : Nat) : UInt64.ofNat n + 1 = UInt64.ofNat (n + 1) := by
  apply UInt64.toNat_inj.1
  simp
theorem was_start (c T : Nat) : wasOf (fun _ _ => 0) (fun _ => []) c T = List.replicate T [] := by
  unfold wasOf
  refine List.ext_getElem (by simp) fun n h1 h2 => by simp
set_option maxHeartbeats 20000000 in
set_option maxRecDepth 10000 in
theorem bagPlay_law (pg th : Nat) (sl : Option Addr) (c : Nat) (l : List Act9) (ob : Option Blk) (hcl : SlAt 0 sl) (hrow : RowIs a9C 0 sl l ob) (hlen : l.length ≤ 9223372036854775807) (hpg : pg ≤ 255) (hth : th ≤ 255) (hbd : ∀ y ∈ l, Bd9 y) :
    Law 4 #[.int .u8 pg, .int .u8 th, .slice sl l.length c] [ob] := by
  refine Law.mk Try.func4 rfl rfl (clo3 iclo iclo (hcl.clo (by simp))) ?_
  rw [Try.ntmps4]; simp only [List.size_toArray, List.length_cons, List.length_nil, List.replicate, List.cons_append, List.nil_append]
  by_cases h80 : l.length > 50
  · refine via ?_
    ((first | refine qp1 rfl rfl fun K hK => ?_ | refine qp3 rfl rfl fun K hK => ?_); simp (disch := (first | omega | (simp only [sz] <;> omega) | fail)) only [go_sem]; refine ⟨_, _, qpu fun w => awake9_any w, ?_⟩; (try simp only [go_sem]); with_reducible refine hK _ _ ?_; clear hK K)
    refine via ?_
    exact Goes.law rfl rfl
  refine via ?_
  ((first | refine qc1 rfl rfl fun K hK => ?_ | refine qc3 rfl rfl fun K hK => ?_); simp (disch := (first | omega | (simp only [sz] <;> omega) | fail)) only [go_sem]; refine ⟨_, _, of8_does _ pg th (by omega) (by omega), ?_⟩; (try simp only [go_sem]); with_reducible refine hK _ _ ?_; clear hK K)
  obtain ⟨N, hN⟩ : ∃ N, N = 1 + pg % 3 := ⟨_, rfl⟩
  obtain ⟨T, hT⟩ : ∃ T, T = 1 + th % 4 := ⟨_, rfl⟩
  rw [← hN, ← hT]
  have hN1 : 1 ≤ N := by omega
  have hN3 : N ≤ 3 := by omega
  have hT1 : 1 ≤ T := by omega
  have hT4 : T ≤ 4 := by omega
  clear hN hT
  have hM := gMs hN3 hT4
  obtain ⟨v0, S0, ⟨rfl, st0, ws0, W0, bs, rfl, hW0, hP0, hr0⟩, hd0⟩ := memory8_does [] N T hN1 (by omega) (by omega) hT1 (gb19s hN1 hN3 hT1 hT4)
  simp only [List.length_nil, List.nil_append] at hd0
  refine via ?_
  ((first | refine qc1 rfl rfl fun K hK => ?_ | refine qc3 rfl rfl fun K hK => ?_); simp (disch := (first | omega | (simp only [sz] <;> omega) | fail)) only [go_sem]; refine ⟨_, _, hd0, ?_⟩; (try simp only [go_sem]); with_reducible refine hK _ _ ?_; clear hK K)
  refine via ?_
  ((first | refine qp1 rfl rfl fun K hK => ?_ | refine qp3 rfl rfl fun K hK => ?_); simp (disch := (first | omega | (simp only [sz] <;> omega) | fail)) only [go_sem]; refine ⟨_, _, qpu fun w => gThreads_any N T w, ?_⟩; (try simp only [go_sem]); with_reducible refine hK _ _ ?_; clear hK K)
  refine viaD ?_
  rw [gap_of]
  simp only [List.length_cons, List.length_nil, Nat.zero_add, Nat.reduceAdd]
  refine Goes.drawR [] (by kernel_rfl) ?_
  obtain ⟨ln, hln, hWn, hdn⟩ := rnew9_fresh [Ob.mem ws0 bs, Ob.port 0 0 st0] (T := T) hT1 (by omega)
  refine via ?_
  ((first | refine qp1 rfl rfl fun K hK => ?_ | refine qp3 rfl rfl fun K hK => ?_); simp (disch := (first | omega | (simp only [sz] <;> omega) | fail)) only [go_sem]; refine ⟨_, _, qpu fun w => gThreads_any N T w, ?_⟩; (try simp only [go_sem]); with_reducible refine hK _ _ ?_; clear hK K)
  refine via ?_
  ((first | refine qr1 (by first | assumption | omega | simp) rfl rfl fun K hK => ?_ | refine qr3 (by first | assumption | omega | simp) rfl rfl fun K hK => ?_); simp (disch := (first | omega | (simp only [sz] <;> omega) | fail)) only [go_sem]; refine ⟨_, _, _, _, hdn, by (try simp only [sz, List.length_cons, List.length_nil]); omega, fun lf hF => ?_⟩; (try simp only [go_sem]); with_reducible refine hK _ _ _ _ ?_; clear hK K)
  rw [ren_bgV (by unfold VB; omega)]
  have hx0 := hWn.fresh hF (by omega) (by unfold VB; omega)
  obtain ⟨hlf1, hge1, _⟩ := hF
  simp only [List.length_cons, List.length_nil, Nat.zero_add, Nat.add_zero, Nat.reduceAdd] at hlf1 hx0 ⊢
  rename List (Option Blk) => lf1
  have hgeo : lf1[1]? = some (some { cells := (geoC N T).toList, elem := 24 }) := hge1 1 _ rfl
  refine viaF hgeo ?_
  ((first | refine qp1 rfl rfl fun K hK => ?_ | refine qp3 rfl rfl fun K hK => ?_); simp (disch := (first | omega | (simp only [sz] <;> omega) | fail)) only [go_sem]; refine ⟨_, _, qpu fun w => gThreads_any N T w, ?_⟩; (try simp only [go_sem]); with_reducible refine hK _ _ ?_; clear hK K)
  refine via ?_
  ((first | refine qr1 (by first | assumption | omega | simp) rfl rfl fun K hK => ?_ | refine qr3 (by first | assumption | omega | simp) rfl rfl fun K hK => ?_); simp (disch := (first | omega | (simp only [sz] <;> omega) | fail)) only [go_sem]; refine ⟨_, _, _, _, hdn, by (try simp only [sz, List.length_cons, List.length_nil]); omega, fun lf hF => ?_⟩; (try simp only [go_sem]); with_reducible refine hK _ _ _ _ ?_; clear hK K)
  rw [ren_bgV (by unfold VB; omega)]
  have hx1 := hWn.fresh hF (by omega) (by unfold VB; omega)
  obtain ⟨hlf2, hge2, _⟩ := hF
  simp only [List.length_cons, List.length_nil, Nat.zero_add, Nat.add_zero, Nat.reduceAdd] at hlf2 hx1 ⊢
  rename List (Option Blk) => lf2
  replace hgeo := hge2 _ _ hgeo
  replace hx0 := hx0.ge hge2
  refine viaF hgeo ?_
  ((first | refine qp1 rfl rfl fun K hK => ?_ | refine qp3 rfl rfl fun K hK => ?_); simp (disch := (first | omega | (simp only [sz] <;> omega) | fail)) only [go_sem]; refine ⟨_, _, qpu fun w => gThreads_any N T w, ?_⟩; (try simp only [go_sem]); with_reducible refine hK _ _ ?_; clear hK K)
  refine via ?_
  ((first | refine qr1 (by first | assumption | omega | simp) rfl rfl fun K hK => ?_ | refine qr3 (by first | assumption | omega | simp) rfl rfl fun K hK => ?_); simp (disch := (first | omega | (simp only [sz] <;> omega) | fail)) only [go_sem]; refine ⟨_, _, _, _, hdn, by (try simp only [sz, List.length_cons, List.length_nil]); omega, fun lf hF => ?_⟩; (try simp only [go_sem]); with_reducible refine hK _ _ _ _ ?_; clear hK K)
  rw [ren_bgV (by unfold VB; omega)]
  have hx2 := hWn.fresh hF (by omega) (by unfold VB; omega)
  obtain ⟨hlf3, hge3, _⟩ := hF
  simp only [List.length_cons, List.length_nil, Nat.zero_add, Nat.add_zero, Nat.reduceAdd] at hlf3 hx2 ⊢
  rename List (Option Blk) => lf3
  replace hgeo := hge3 _ _ hgeo
  replace hx0 := hx0.ge hge3
  replace hx1 := hx1.ge hge3
  refine viaF hgeo ?_
  ((first | refine qp1 rfl rfl fun K hK => ?_ | refine qp3 rfl rfl fun K hK => ?_); simp (disch := (first | omega | (simp only [sz] <;> omega) | fail)) only [go_sem]; refine ⟨_, _, qpu fun w => gThreads_any N T w, ?_⟩; (try simp only [go_sem]); with_reducible refine hK _ _ ?_; clear hK K)
  refine via ?_
  ((first | refine qr1 (by first | assumption | omega | simp) rfl rfl fun K hK => ?_ | refine qr3 (by first | assumption | omega | simp) rfl rfl fun K hK => ?_); simp (disch := (first | omega | (simp only [sz] <;> omega) | fail)) only [go_sem]; refine ⟨_, _, _, _, hdn, by (try simp only [sz, List.length_cons, List.length_nil]); omega, fun lf hF => ?_⟩; (try simp only [go_sem]); with_reducible refine hK _ _ _ _ ?_; clear hK K)
  rw [ren_bgV (by unfold VB; omega)]
  have hx3 := hWn.fresh hF (by omega) (by unfold VB; omega)
  obtain ⟨hlf4, hge4, _⟩ := hF
  simp only [List.length_cons, List.length_nil, Nat.zero_add, Nat.add_zero, Nat.reduceAdd] at hlf4 hx3 ⊢
  rename List (Option Blk) => lf4
  replace hgeo := hge4 _ _ hgeo
  replace hx0 := hx0.ge hge4
  replace hx1 := hx1.ge hge4
  replace hx2 := hx2.ge hge4
  have hgx := hge1.trans (hge2.trans (hge3.trans hge4))
  unfold bgV
  refine via ?_
  refine Goes.folds (by omega) fun lf hlf hgf hrow2 => ?_
  simp only [List.length_cons, List.length_nil, Nat.zero_add, Nat.reduceAdd] at hlf ⊢
  have hbox : lf[10]? = _ := hrow2 0
  simp only [List.getElem?_cons_zero] at hbox
  replace hgeo := hgf _ _ hgeo
  have hX : XI T lf [(some ⟨3, 0, none⟩, 0), (some ⟨5, 0, none⟩, 0), (some ⟨7, 0, none⟩, 0), (some ⟨9, 0, none⟩, 0)] (fun _ _ => 0) (fun _ => []) W0 0 := by
    refine ⟨rfl, fun c p hp => ?_⟩
    rw [was_start]
    have h5 : W0 5 c = UInt64.ofNat 0 := hr0 5 c (by decide) (by decide)
    match c, hp with
    | 0, hp => cases hp; exact ⟨hx0.ge hgf, h5, Nat.le_refl _⟩
    | 1, hp => cases hp; exact ⟨hx1.ge hgf, h5, Nat.le_refl _⟩
    | 2, hp => cases hp; exact ⟨hx2.ge hgf, h5, Nat.le_refl _⟩
    | 3, hp => cases hp; exact ⟨hx3.ge hgf, h5, Nat.le_refl _⟩
    | c + 4, hp => simp at hp
  have hob : ∀ b, ob = some b → lf[0]? = some (some b) := fun b hb => hgf _ _ (hgx 0 _ (by rw [hb]; rfl))
  clear hx0 hx1 hx2 hx3 hge1 hge2 hge3 hge4 hgx hgf hrow2 hlf1 hlf2 hlf3 hlf4 hdn hWn hln
  refine Goes.wh (fun z tmps h S => ∃ (i qq : Nat) (lf : List (Option Blk)) (ps : List (Option Addr × Nat)) (ws : List UInt64) (W : Nat → Nat → UInt64) (free : List Nat) (ver : Nat) (G L : Nat → List Nat) (I : Nat → Nat → UInt64) (R : St), z = l.length - i ∧ i ≤ l.length ∧ lf.length ≤ qq ∧ 11 ≤ qq ∧ qq ≤ 11 + 800000 * i ∧ (∀ b, ob = some b → lf[0]? = some (some b)) ∧ lf[1]? = some (some { cells := (geoC N T).toList, elem := 24 }) ∧ lf[10]? = some (some { cells := rowC (bgC T) ps, elem := 40 }) ∧ XI T lf ps I L W i ∧ BS N T ws W free ver G L I ∧ BN T L I i ∧ ver ≤ 30000 * i ∧ S = .mem ws bs :: R ∧ h = heapJ lf qq [] ∧ tmps.length = 225 ∧
      tmps.getD 2 undef = .slice sl l.length c ∧ tmps.getD 6 undef = .bool false ∧ tmps.getD 7 undef = .pointer (some ⟨1, 0, none⟩) ∧ tmps.getD 8 undef = hndV 0 ∧ tmps.getD 9 undef = .slice (some ⟨10, 0, none⟩) 4 4 ∧ tmps.getD 10 undef = .int .i64 i) (m := l.length)
      ⟨0, 11, lf, _, ws0, W0, upto 1 (gM N T), 0, _, _, _, [.port 0 0 st0], rfl, by omega, by omega, by omega, by omega, hob, hgeo, hbox, hX, BS.start hW0 hP0 hr0, BN.start _ _, by omega, rfl, rfl, rfl, rfl, rfl, rfl, rfl, rfl, rfl⟩ ?_
  clear hX hob hbox hgeo hlf
  rintro z tmps h S ih ⟨i, qq, lf, ps, ws, W, free, ver, G, L, I, R, rfl, hi, hlen', hq2, hq3, hrow0, hgeo, hbox, hX, hS, hBN, hver, rfl, rfl, hl, f2, f6, f7, f8, f9, f10⟩
  obtain ⟨V, hV, hT⟩ := frame_lit hl; replace hT : _ = ([V 0, V 1, V 2, V 3, V 4, V 5, V 6, V 7, V 8, V 9, V 10, V 11, V 12, V 13, V 14, V 15, V 16, V 17, V 18, V 19, V 20, V 21, V 22, V 23, V 24, V 25, V 26, V 27, V 28, V 29, V 30, V 31, V 32, V 33, V 34, V 35, V 36, V 37, V 38, V 39, V 40, V 41, V 42, V 43, V 44, V 45, V 46, V 47, V 48, V 49, V 50, V 51, V 52, V 53, V 54, V 55, V 56, V 57, V 58, V 59, V 60, V 61, V 62, V 63, V 64, V 65, V 66, V 67, V 68, V 69, V 70, V 71, V 72, V 73, V 74, V 75, V 76, V 77, V 78, V 79, V 80, V 81, V 82, V 83, V 84, V 85, V 86, V 87, V 88, V 89, V 90, V 91, V 92, V 93, V 94, V 95, V 96, V 97, V 98, V 99, V 100, V 101, V 102, V 103, V 104, V 105, V 106, V 107, V 108, V 109, V 110, V 111, V 112, V 113, V 114, V 115, V 116, V 117, V 118, V 119, V 120, V 121, V 122, V 123, V 124, V 125, V 126, V 127, V 128, V 129, V 130, V 131, V 132, V 133, V 134, V 135, V 136, V 137, V 138, V 139, V 140, V 141, V 142, V 143, V 144, V 145, V 146, V 147, V 148, V 149, V 150, V 151, V 152, V 153, V 154, V 155, V 156, V 157, V 158, V 159, V 160, V 161, V 162, V 163, V 164, V 165, V 166, V 167, V 168, V 169, V 170, V 171, V 172, V 173, V 174, V 175, V 176, V 177, V 178, V 179, V 180, V 181, V 182, V 183, V 184, V 185, V 186, V 187, V 188, V 189, V 190, V 191, V 192, V 193, V 194, V 195, V 196, V 197, V 198, V 199, V 200, V 201, V 202, V 203, V 204, V 205, V 206, V 207, V 208, V 209, V 210, V 211, V 212, V 213, V 214, V 215, V 216, V 217, V 218, V 219, V 220, V 221, V 222, V 223, V 224] : List Value) := hT; rw [hV] at f2 f6 f7 f8 f9 f10; subst hT; simp only [f2, f6, f7, f8, f9, f10]; clear hV hl
  by_cases hlt : i < l.length
  case neg =>
    refine via ?_
    ((first | refine qp1 rfl rfl fun K hK => ?_ | refine qp3 rfl rfl fun K hK => ?_); simp (disch := (first | omega | (simp only [sz] <;> omega) | fail)) only [go_sem]; refine ⟨_, _, qpu fun w => awake9_any w, ?_⟩; (try simp only [go_sem]); with_reducible refine hK _ _ ?_; clear hK K)
    refine via ?_
    exact Goes.law rfl rfl
  obtain ⟨rfl, el, rfl⟩ := hrow (by omega)
  have hr0 := hrow0 _ rfl
  obtain ⟨x, hx⟩ : ∃ x, x = l[i] := ⟨_, rfl⟩
  have hlk : l[i]? = some x := by rw [hx]; exact List.getElem?_eq_getElem hlt
  have hbd' := hbd x (by rw [hx]; exact List.getElem_mem hlt)
  obtain ⟨hb1, hb2, ⟨hb3, hb4⟩, hb5⟩ := hbd'
  have hcL := rowC_len a9C_len l
  have g0 : (rowC a9C l)[i * 4]? = some (.int .u8 x.d) := rowC_get (j := 0) a9C_len hlk (by decide)
  have g1 : (rowC a9C l)[i * 4 + 1]? = some (.int .u8 x.t) := rowC_get a9C_len hlk (by decide)
  have g2 : (rowC a9C l)[i * 4 + 2]? = some (.int .i64 x.c) := rowC_get a9C_len hlk (by decide)
  have g3 : (rowC a9C l)[i * 4 + 3]? = some (.int .u64 x.x) := rowC_get a9C_len hlk (by decide)
  obtain ⟨t, ht⟩ : ∃ t, t = x.t % T := ⟨_, rfl⟩
  have htT : t < T := by rw [ht]; exact Nat.mod_lt _ (by omega)
  have htm : (x.t : Int).tmod (T : Int) = (t : Int) := by rw [ht]; exact tmod_n x.t T
  obtain ⟨y, fr, rfl⟩ := hS.free_ne hBN (by omega) hN1 hT1 hT4
  have hl00 : 0 < lf.length := (List.getElem?_eq_some_iff.1 hr0).1
  have hl01 : 1 < lf.length := (List.getElem?_eq_some_iff.1 hgeo).1
  have hlb : 10 < lf.length := (List.getElem?_eq_some_iff.1 hbox).1
  have hq0 : 0 < qq := by omega
  have hq1 : 1 < qq := by omega
  refine viaF (And.intro hr0 (And.intro g1 hgeo)) ?_
  ((first | refine qp1 rfl rfl fun K hK => ?_ | refine qp3 rfl rfl fun K hK => ?_); simp (disch := (first | omega | (simp only [sz] <;> omega) | fail)) only [go_sem]; refine ⟨_, _, qpu fun w => gThreads_any N T w, ?_⟩; (try simp only [go_sem]); with_reducible refine hK _ _ ?_; clear hK K)
  obtain ⟨d3, hd3⟩ : ∃ d3, d3 = x.d % 3 := ⟨_, rfl⟩
  have hdm : (x.d : Int).tmod (3 : Int) = (d3 : Int) := by rw [hd3]; exact tmod_n x.d 3
  have h3 : d3 < 3 := by omega
  have hp0 : ∀ (ws : List UInt64) (st : Nat), (Ob.mem ws bs :: (R ++ [Ob.port 0 t st]))[R.length + 1]? = some (.port 0 t st) := fun ws st => by simp
  have hm0 : ∀ (ws : List UInt64) (st : Nat), (Ob.mem ws bs :: (R ++ [Ob.port 0 t st]))[0]? = some (.mem ws bs) := fun ws st => rfl
  have hacc : ∀ (ws ws' : List UInt64) (st st' : Nat), accS (Ob.mem ws bs :: (R ++ [Ob.port 0 t st])) (R.length + 1) 0 t st' ws' bs = Ob.mem ws' bs :: (R ++ [Ob.port 0 t st']) := fun ws ws' st st' => by simp [accS]
  by_cases hth : 0 ≤ x.c ∧ x.c < 4
  case neg =>
    have hout : x.c < 0 ∨ 4 ≤ x.c := by omega
    have hd3' : d3 = 0 ∨ d3 = 1 ∨ d3 = 2 := by omega
    have hend : ∀ P : Prop, (((i + 1 : Nat) : Int) = (i : Int) + 1 → P) → P := fun P h => h (by push_cast; rfl)
    rcases hout with hout | hout
    · rcases hd3' with rfl | rfl | rfl
      · refine viaF (And.intro htm (And.intro hr0 g2)) ?_
        ((first | refine qp1 rfl rfl fun K hK => ?_ | refine qp3 rfl rfl fun K hK => ?_); simp (disch := (first | omega | (simp only [sz] <;> omega) | fail)) only [go_sem]; refine ⟨_, _, .pnew (m := 0) rfl, ?_⟩; (try simp only [go_sem]); with_reducible refine hK _ _ ?_; clear hK K)
        refine viaF (And.intro hr0 (And.intro g0 (And.intro hdm (And.intro g3 hgeo)))) ?_
        ((first | refine qc1 rfl rfl fun K hK => ?_ | refine qc3 rfl rfl fun K hK => ?_); simp (disch := (first | omega | (simp only [sz] <;> omega) | fail)) only [go_sem]; refine ⟨_, _, badd_out _ _ 0 t 0 N T x.c x.x (hp0 _ _) (by omega) (by omega) (by omega) hb4, ?_⟩; (try simp only [go_sem]); with_reducible refine hK _ _ ?_; clear hK K)
        refine viaF (And.intro hr0 (And.intro g0 (And.intro hdm (And.intro g3 hgeo)))) ?_
        refine Goes.loop ?_
        refine viaF hgeo ?_
        ((first | refine qp1 rfl rfl fun K hK => ?_ | refine qp3 rfl rfl fun K hK => ?_); simp (disch := (first | omega | (simp only [sz] <;> omega) | fail)) only [go_sem]; refine ⟨_, _, qpu fun w => gThreads_any N T w, ?_⟩; (try simp only [go_sem]); with_reducible refine hK _ _ ?_; clear hK K)
        refine via ?_
        exact ih _ _ _ _ (by omega) ⟨i + 1, qq, lf, ps, ws, W, y :: fr, ver, G, L, I, R ++ [.port 0 t 0], rfl, by omega, hlen', by omega, by omega, fun b hb => (by cases hb; exact hr0), hgeo, hbox, hX.ge (Ge.refl _) (by omega), hS, hBN.le (by omega), by omega, rfl, rfl, rfl, rfl, rfl, rfl, rfl, rfl, by push_cast; rfl⟩
      · refine viaF (And.intro htm (And.intro hr0 g2)) ?_
        ((first | refine qp1 rfl rfl fun K hK => ?_ | refine qp3 rfl rfl fun K hK => ?_); simp (disch := (first | omega | (simp only [sz] <;> omega) | fail)) only [go_sem]; refine ⟨_, _, .pnew (m := 0) rfl, ?_⟩; (try simp only [go_sem]); with_reducible refine hK _ _ ?_; clear hK K)
        refine viaF (And.intro hr0 (And.intro g0 (And.intro hdm (And.intro g3 hgeo)))) ?_
        ((first | refine qc1 rfl rfl fun K hK => ?_ | refine qc3 rfl rfl fun K hK => ?_); simp (disch := (first | omega | (simp only [sz] <;> omega) | fail)) only [go_sem]; refine ⟨_, _, btake_out _ _ 0 t 0 N T x.c (hp0 _ _) (by omega) (by omega) (by omega) hb4, ?_⟩; (try simp only [go_sem]); with_reducible refine hK _ _ ?_; clear hK K)
        refine viaF (And.intro hr0 (And.intro g0 (And.intro hdm (And.intro g3 hgeo)))) ?_
        refine Goes.loop ?_
        refine viaF hgeo ?_
        ((first | refine qp1 rfl rfl fun K hK => ?_ | refine qp3 rfl rfl fun K hK => ?_); simp (disch := (first | omega | (simp only [sz] <;> omega) | fail)) only [go_sem]; refine ⟨_, _, qpu fun w => gThreads_any N T w, ?_⟩; (try simp only [go_sem]); with_reducible refine hK _ _ ?_; clear hK K)
        refine via ?_
        exact ih _ _ _ _ (by omega) ⟨i + 1, qq, lf, ps, ws, W, y :: fr, ver, G, L, I, R ++ [.port 0 t 0], rfl, by omega, hlen', by omega, by omega, fun b hb => (by cases hb; exact hr0), hgeo, hbox, hX.ge (Ge.refl _) (by omega), hS, hBN.le (by omega), by omega, rfl, rfl, rfl, rfl, rfl, rfl, rfl, rfl, by push_cast; rfl⟩
      · refine viaF (And.intro htm (And.intro hr0 g2)) ?_
        ((first | refine qp1 rfl rfl fun K hK => ?_ | refine qp3 rfl rfl fun K hK => ?_); simp (disch := (first | omega | (simp only [sz] <;> omega) | fail)) only [go_sem]; refine ⟨_, _, .pnew (m := 0) rfl, ?_⟩; (try simp only [go_sem]); with_reducible refine hK _ _ ?_; clear hK K)
        refine viaF (And.intro hr0 (And.intro g0 (And.intro hdm (And.intro g3 hgeo)))) ?_
        ((first | refine qc1 rfl rfl fun K hK => ?_ | refine qc3 rfl rfl fun K hK => ?_); simp (disch := (first | omega | (simp only [sz] <;> omega) | fail)) only [go_sem]; refine ⟨_, _, bprune_out _ _ 0 t 0 N T x.c (hp0 _ _) (by omega) (by omega) (by omega) hb4, ?_⟩; (try simp only [go_sem]); with_reducible refine hK _ _ ?_; clear hK K)
        refine viaF (And.intro hr0 (And.intro g0 (And.intro hdm (And.intro g3 hgeo)))) ?_
        refine Goes.loop ?_
        refine viaF hgeo ?_
        ((first | refine qp1 rfl rfl fun K hK => ?_ | refine qp3 rfl rfl fun K hK => ?_); simp (disch := (first | omega | (simp only [sz] <;> omega) | fail)) only [go_sem]; refine ⟨_, _, qpu fun w => gThreads_any N T w, ?_⟩; (try simp only [go_sem]); with_reducible refine hK _ _ ?_; clear hK K)
        refine via ?_
        exact ih _ _ _ _ (by omega) ⟨i + 1, qq, lf, ps, ws, W, y :: fr, ver, G, L, I, R ++ [.port 0 t 0], rfl, by omega, hlen', by omega, by omega, fun b hb => (by cases hb; exact hr0), hgeo, hbox, hX.ge (Ge.refl _) (by omega), hS, hBN.le (by omega), by omega, rfl, rfl, rfl, rfl, rfl, rfl, rfl, rfl, by push_cast; rfl⟩
    · rcases hd3' with rfl | rfl | rfl
      · refine viaF (And.intro htm (And.intro hr0 g2)) ?_
        ((first | refine qp1 rfl rfl fun K hK => ?_ | refine qp3 rfl rfl fun K hK => ?_); simp (disch := (first | omega | (simp only [sz] <;> omega) | fail)) only [go_sem]; refine ⟨_, _, .pnew (m := 0) rfl, ?_⟩; (try simp only [go_sem]); with_reducible refine hK _ _ ?_; clear hK K)
        refine viaF (And.intro hr0 (And.intro g0 (And.intro hdm (And.intro g3 hgeo)))) ?_
        ((first | refine qc1 rfl rfl fun K hK => ?_ | refine qc3 rfl rfl fun K hK => ?_); simp (disch := (first | omega | (simp only [sz] <;> omega) | fail)) only [go_sem]; refine ⟨_, _, badd_out _ _ 0 t 0 N T x.c x.x (hp0 _ _) (by omega) (by omega) (by omega) hb4, ?_⟩; (try simp only [go_sem]); with_reducible refine hK _ _ ?_; clear hK K)
        refine viaF (And.intro hr0 (And.intro g0 (And.intro hdm (And.intro g3 hgeo)))) ?_
        refine Goes.loop ?_
        refine viaF hgeo ?_
        ((first | refine qp1 rfl rfl fun K hK => ?_ | refine qp3 rfl rfl fun K hK => ?_); simp (disch := (first | omega | (simp only [sz] <;> omega) | fail)) only [go_sem]; refine ⟨_, _, qpu fun w => gThreads_any N T w, ?_⟩; (try simp only [go_sem]); with_reducible refine hK _ _ ?_; clear hK K)
        refine via ?_
        exact ih _ _ _ _ (by omega) ⟨i + 1, qq, lf, ps, ws, W, y :: fr, ver, G, L, I, R ++ [.port 0 t 0], rfl, by omega, hlen', by omega, by omega, fun b hb => (by cases hb; exact hr0), hgeo, hbox, hX.ge (Ge.refl _) (by omega), hS, hBN.le (by omega), by omega, rfl, rfl, rfl, rfl, rfl, rfl, rfl, rfl, by push_cast; rfl⟩
      · refine viaF (And.intro htm (And.intro hr0 g2)) ?_
        ((first | refine qp1 rfl rfl fun K hK => ?_ | refine qp3 rfl rfl fun K hK => ?_); simp (disch := (first | omega | (simp only [sz] <;> omega) | fail)) only [go_sem]; refine ⟨_, _, .pnew (m := 0) rfl, ?_⟩; (try simp only [go_sem]); with_reducible refine hK _ _ ?_; clear hK K)
        refine viaF (And.intro hr0 (And.intro g0 (And.intro hdm (And.intro g3 hgeo)))) ?_
        ((first | refine qc1 rfl rfl fun K hK => ?_ | refine qc3 rfl rfl fun K hK => ?_); simp (disch := (first | omega | (simp only [sz] <;> omega) | fail)) only [go_sem]; refine ⟨_, _, btake_out _ _ 0 t 0 N T x.c (hp0 _ _) (by omega) (by omega) (by omega) hb4, ?_⟩; (try simp only [go_sem]); with_reducible refine hK _ _ ?_; clear hK K)
        refine viaF (And.intro hr0 (And.intro g0 (And.intro hdm (And.intro g3 hgeo)))) ?_
        refine Goes.loop ?_
        refine viaF hgeo ?_
        ((first | refine qp1 rfl rfl fun K hK => ?_ | refine qp3 rfl rfl fun K hK => ?_); simp (disch := (first | omega | (simp only [sz] <;> omega) | fail)) only [go_sem]; refine ⟨_, _, qpu fun w => gThreads_any N T w, ?_⟩; (try simp only [go_sem]); with_reducible refine hK _ _ ?_; clear hK K)
        refine via ?_
        exact ih _ _ _ _ (by omega) ⟨i + 1, qq, lf, ps, ws, W, y :: fr, ver, G, L, I, R ++ [.port 0 t 0], rfl, by omega, hlen', by omega, by omega, fun b hb => (by cases hb; exact hr0), hgeo, hbox, hX.ge (Ge.refl _) (by omega), hS, hBN.le (by omega), by omega, rfl, rfl, rfl, rfl, rfl, rfl, rfl, rfl, by push_cast; rfl⟩
      · refine viaF (And.intro htm (And.intro hr0 g2)) ?_
        ((first | refine qp1 rfl rfl fun K hK => ?_ | refine qp3 rfl rfl fun K hK => ?_); simp (disch := (first | omega | (simp only [sz] <;> omega) | fail)) only [go_sem]; refine ⟨_, _, .pnew (m := 0) rfl, ?_⟩; (try simp only [go_sem]); with_reducible refine hK _ _ ?_; clear hK K)
        refine viaF (And.intro hr0 (And.intro g0 (And.intro hdm (And.intro g3 hgeo)))) ?_
        ((first | refine qc1 rfl rfl fun K hK => ?_ | refine qc3 rfl rfl fun K hK => ?_); simp (disch := (first | omega | (simp only [sz] <;> omega) | fail)) only [go_sem]; refine ⟨_, _, bprune_out _ _ 0 t 0 N T x.c (hp0 _ _) (by omega) (by omega) (by omega) hb4, ?_⟩; (try simp only [go_sem]); with_reducible refine hK _ _ ?_; clear hK K)
        refine viaF (And.intro hr0 (And.intro g0 (And.intro hdm (And.intro g3 hgeo)))) ?_
        refine Goes.loop ?_
        refine viaF hgeo ?_
        ((first | refine qp1 rfl rfl fun K hK => ?_ | refine qp3 rfl rfl fun K hK => ?_); simp (disch := (first | omega | (simp only [sz] <;> omega) | fail)) only [go_sem]; refine ⟨_, _, qpu fun w => gThreads_any N T w, ?_⟩; (try simp only [go_sem]); with_reducible refine hK _ _ ?_; clear hK K)
        refine via ?_
        exact ih _ _ _ _ (by omega) ⟨i + 1, qq, lf, ps, ws, W, y :: fr, ver, G, L, I, R ++ [.port 0 t 0], rfl, by omega, hlen', by omega, by omega, fun b hb => (by cases hb; exact hr0), hgeo, hbox, hX.ge (Ge.refl _) (by omega), hS, hBN.le (by omega), by omega, rfl, rfl, rfl, rfl, rfl, rfl, rfl, rfl, by push_cast; rfl⟩
  obtain ⟨cc, hcc⟩ := Int.eq_ofNat_of_zero_le hth.1
  have hc4 : cc < 4 := by omega
  rw [hcc] at g2
  refine viaF (And.intro htm (And.intro hr0 g2)) ?_
  ((first | refine qp1 rfl rfl fun K hK => ?_ | refine qp3 rfl rfl fun K hK => ?_); simp (disch := (first | omega | (simp only [sz] <;> omega) | fail)) only [go_sem]; refine ⟨_, _, .pnew (m := 0) rfl, ?_⟩; (try simp only [go_sem]); with_reducible refine hK _ _ ?_; clear hK K)
  refine viaF (And.intro hr0 (And.intro g0 hdm)) ?_
  have hit : t * 4 + cc < T * 4 := by omega
  obtain ⟨hpl, hps⟩ := id hX
  obtain ⟨⟨ax, ad⟩, hpc⟩ : ∃ p, ps[cc]? = some p := ⟨_, List.getElem?_eq_getElem (by omega)⟩
  obtain ⟨hWx, hw5, had⟩ := hps cc _ hpc
  simp only at hWx hw5 had
  have hzt := wasOf_get (I := I) (L := L) (c := cc) htT
  have hml : ((L (t * 4 + cc)).map (itemsOf I)).length = (L (t * 4 + cc)).length := List.length_map _
  have hLl := hS.len_le hit
  have h8t : ∀ ys ∈ (L (t * 4 + cc)).map (itemsOf I), ys.length = 8 := fun ys hy => by
    obtain ⟨z, _, rfl⟩ := List.mem_map.1 hy
    exact itemsOf_len
  have hbl := rowC_len (bgC_len T) ps
  have b0 : (rowC (bgC T) ps)[cc * 2]? = some (.slice ax T T) := rowC_get (j := 0) (bgC_len T) hpc (by decide)
  have b1 : (rowC (bgC T) ps)[cc * 2 + 1]? = some (.int .i64 ad) := rowC_get (bgC_len T) hpc (by decide)
  have hat : ((rowC (bgC T) ps).drop (cc * 2)).take 2 = [.slice ax T T, .int .i64 ad] := rowC_at (bgC_len T) hpc
  apply share (P := fun todo : List Item => ∀ (tmps : List Value) (q1 : Nat) (l1 : List (Option Blk)) (ps1 : List (Option Addr × Nat)) (ws1 : List UInt64) (W1 : Nat → Nat → UInt64) (free1 : List Nat) (ver1 : Nat) (G1 L1 : Nat → List Nat) (I1 : Nat → Nat → UInt64) (st1 : Nat), tmps.length = 225 → tmps.getD 2 undef = .slice (some ⟨0, 0, none⟩) l.length c → tmps.getD 6 undef = .bool false → tmps.getD 7 undef = .pointer (some ⟨1, 0, none⟩) → tmps.getD 8 undef = hndV 0 → tmps.getD 9 undef = .slice (some ⟨10, 0, none⟩) 4 4 → tmps.getD 10 undef = .int .i64 i → tmps.getD 12 undef = .int .i64 cc → tmps.getD 14 undef = .bool true → tmps.getD 19 undef = .int .i64 0 →
    l1.length ≤ q1 → qq ≤ q1 → q1 ≤ qq + 400000 → l1[0]? = some (some ⟨rowC a9C l, el, true, none⟩) → l1[1]? = some (some { cells := (geoC N T).toList, elem := 24 }) → l1[10]? = some (some { cells := rowC (bgC T) ps1, elem := 40 }) → XI T l1 ps1 I1 L1 W1 (i + 1) → BS N T ws1 W1 free1 ver1 G1 L1 I1 → BN T L1 I1 (i + 1) → ver1 ≤ ver + 30000 →
    Goes OF Try.f4 (fun x => ∃ h1 S', x = .done (.bool true) h1 S') (.run todo tmps (heapJ l1 q1 []) (.mem ws1 bs :: (R ++ [.port 0 t st1]))))
  case h2 =>
    intro inner
    have hd3' : d3 = 0 ∨ d3 = 1 ∨ d3 = 2 := by omega
    rcases hd3' with rfl | rfl | rfl
    · by_cases hz : x.x = 0
      · rw [hz] at g3
        refine viaF (And.intro hgeo (And.intro hr0 g3)) ?_
        ((first | refine qc1 rfl rfl fun K hK => ?_ | refine qc3 rfl rfl fun K hK => ?_); simp (disch := (first | omega | (simp only [sz] <;> omega) | fail)) only [go_sem]; refine ⟨_, _, badd_zero _ _ 0 t 0 N T cc (hp0 _ _) hN1 (by omega) (by omega) htT hc4, ?_⟩; (try simp only [go_sem]); with_reducible refine hK _ _ ?_; clear hK K)
        refine viaF (And.intro hr0 g3) ?_
        exact inner _ qq lf ps ws W (y :: fr) ver G L I 0 rfl rfl rfl rfl rfl rfl rfl rfl rfl rfl hlen' (Nat.le_refl _) (by omega) hr0 hgeo hbox (hX.ge (Ge.refl _) (by omega)) hS (hBN.le (by omega)) (by omega)
      · have e2 : ((UInt64.ofNat x.x).toNat : Int) = (x.x : Int) := by rw [UInt64.toNat_ofNat', Nat.mod_eq_of_lt (by omega)]
        have hne0 : UInt64.ofNat x.x ≠ 0 := fun e => by
          rw [e] at e2
          simp at e2; omega
        obtain ⟨v1, S1, ⟨rfl, st1, ws1, W1, fr1, ver1, L1, I1, hst1, rfl, hver1, hS1, hsaid, hw51⟩, hd⟩ := badd_does (Ob.mem ws bs :: (R ++ [Ob.port 0 t 0])) (R.length + 1) 0 t 0 ws bs N T cc y (UInt64.ofNat x.x) (hp0 _ _) (hm0 _ _) (by omega) hN1 (by omega) (by omega) htT hc4 (by omega) hS hne0
        rw [hacc, e2] at hd
        have e3 : ((x.x : Int) != 0) = true := by simp [hz]
        refine viaF (And.intro hgeo (And.intro hr0 g3)) ?_
        ((first | refine qc1 rfl rfl fun K hK => ?_ | refine qc3 rfl rfl fun K hK => ?_); simp (disch := (first | omega | (simp only [sz] <;> omega) | fail)) only [go_sem]; refine ⟨_, _, hd, ?_⟩; (try simp only [go_sem]); with_reducible refine hK _ _ ?_; clear hK K)
        refine viaDF (And.intro hr0 (And.intro g3 e3)) ?_
        have hdoc := addDoc hS hit hsaid
        obtain ⟨v2, hh2, S2, ⟨rfl, l2, q2, a2, rfl, rfl, hge2, hl2, hqa, hq2', hW2⟩, hd2⟩ := radd9 (Ob.mem ws1 bs :: (R ++ [Ob.port 0 t st1])) (l := lf) (q := qq) (a := ax) (zs := wasOf I L cc T) (adds := ad) (T := T) (t := t) (item := UInt64.ofNat x.x) (yss := (L1 (t * 4 + cc)).map (itemsOf I1)) hlen' (by omega) hWx wasOf_len (by omega) hzt h8t (by omega) (by omega) (by omega) hdoc
        rw [e2] at hd2
        rw [← addWas hS htT hc4 hsaid] at hW2
        have hbox2 := hge2 _ _ hbox
        have hgeo2 := hge2 _ _ hgeo
        have hr2 := hge2 _ _ hr0
        have hl20 := (List.getElem?_eq_some_iff.1 hbox2).1
        unfold bgV at hd2
        refine Goes.drawR [12] (by kernel_rfl) ?_
        refine viaF (And.intro hr0 (And.intro g3 (And.intro hbox hat))) ?_
        ((first | refine qd1 rfl rfl fun K hK => ?_ | refine qd3 rfl rfl fun K hK => ?_); simp (disch := (first | omega | (simp only [sz] <;> omega) | fail)) only [go_sem]; (first | refine ⟨_, _, _, hd2, ⟨by simp only [sz]; omega, by simp only [sz]; unfold VB; omega, by first | exact heapL_low _ | exact gap_low _ _ _⟩, ?_⟩ | refine ⟨_, _, _, hd2, ?_⟩); (try simp only [go_sem]); with_reducible refine hK _ _ _ ?_; clear hK K)
        refine viaF hbox2 ?_
        obtain ⟨ht1, hlen1, hj1⟩ := hsaid.tot (hS.lnd hit) (fun z hz hm => hS.out hit hm (List.mem_append.2 (.inl hz))) hne0
        have hsp : spliceA (rowC (bgC T) ps) (cc * 2) [.slice a2 T T, .int .i64 ((ad : Int) + 1)] = rowC (bgC T) (ps.set cc (a2, ad + 1)) := rowC_set (bgC_len T) ps cc (a2, ad + 1) (by omega)
        have hX1 := XI.set (b := some { cells := rowC (bgC T) (ps.set cc (a2, ad + 1)), elem := 40 }) ((hX.ge hge2 (Nat.le_succ i)).up (c := cc) (p := (a2, ad + 1)) (W' := W1) (addOthers hS htT hc4 hsaid) (fun d hd hne => by rw [hw51 d hd, if_neg hne]) ⟨hW2, by rw [hw51 cc hc4, if_pos rfl, hw5, u64_succ], by omega⟩) hbox2 rfl
        rw [hsp]
        exact inner _ q2 _ _ ws1 W1 fr1 ver1 G L1 I1 st1 rfl rfl rfl rfl rfl rfl rfl rfl rfl rfl (by rw [List.length_set]; exact hl2) hqa (by omega) (by rw [List.getElem?_set_ne (by decide)]; exact hr2) (by rw [List.getElem?_set_ne (by decide)]; exact hgeo2) (List.getElem?_set_self hl20) hX1 hS1 (hBN.add hit ht1 hlen1 (fun j hj hne => ⟨hj1 j hne, addO hS hit hj hne hsaid⟩)) (by omega)
    · obtain ⟨v1, S1, ⟨u, ok, rfl, st1, ws1, W1, I1, hst1, rfl, hS1, hw51, hsaid⟩, hd⟩ := btake_does (Ob.mem ws bs :: (R ++ [Ob.port 0 t 0])) (R.length + 1) 0 t 0 ws bs N T cc (hp0 _ _) (hm0 _ _) (by omega) hN1 (by omega) (by omega) (by omega) htT hc4 hS
      rw [hacc] at hd
      refine viaF hgeo ?_
      ((first | refine qc1 rfl rfl fun K hK => ?_ | refine qc3 rfl rfl fun K hK => ?_); simp (disch := (first | omega | (simp only [sz] <;> omega) | fail)) only [go_sem]; refine ⟨_, _, hd, ?_⟩; (try simp only [go_sem]); with_reducible refine hK _ _ ?_; clear hK K)
      obtain ⟨hdoc, hok, hoth⟩ := takeDoc hS htT hc4 hsaid
      have h8a : ∀ xss ∈ wasOf I L cc T, ∀ ys ∈ xss, ys.length = 8 := fun xss hx ys hy => by
        obtain ⟨j, _, rfl⟩ := List.mem_map.1 hx
        obtain ⟨z, _, rfl⟩ := List.mem_map.1 hy
        exact itemsOf_len
      have hna : ∀ xss ∈ wasOf I L cc T, xss.length ≤ 1000 := fun xss hx => by
        obtain ⟨j, hj, rfl⟩ := List.mem_map.1 hx
        have := hS.len_le (i := j * 4 + cc) (by have := List.mem_range.1 hj; omega)
        rw [List.length_map]; omega
      obtain ⟨v2, hh2, S2, ⟨rfl, l2, q2, a2, rfl, rfl, hge2, hl2, hqa, hq2', hW2⟩, hd2⟩ := rtake9 (Ob.mem ws1 bs :: (R ++ [Ob.port 0 t st1])) (l := lf) (q := qq) (a := ax) (zs := wasOf I L cc T) (adds := ad) (T := T) (t := t) hlen' (by omega) hWx wasOf_len (by omega) htT h8a hna hdoc
      have hbox2 := hge2 _ _ hbox
      have hgeo2 := hge2 _ _ hgeo
      have hr2 := hge2 _ _ hr0
      have hl20 := (List.getElem?_eq_some_iff.1 hbox2).1
      unfold bgV at hd2
      have hsp : spliceA (rowC (bgC T) ps) (cc * 2) [.slice a2 T T, .int .i64 (ad : Int)] = rowC (bgC T) (ps.set cc (a2, ad)) := rowC_set (bgC_len T) ps cc (a2, ad) (by omega)
      have hX1 := XI.set (b := some { cells := rowC (bgC T) (ps.set cc (a2, ad)), elem := 40 }) ((hX.ge hge2 (Nat.le_succ i)).up (c := cc) (p := (a2, ad)) (W' := W1) hoth (fun d hd hne => hw51 d) ⟨hW2, by rw [hw51, hw5], by omega⟩) hbox2 rfl
      refine viaF (And.intro hbox hat) ?_
      ((first | refine qd1 rfl rfl fun K hK => ?_ | refine qd3 rfl rfl fun K hK => ?_); simp (disch := (first | omega | (simp only [sz] <;> omega) | fail)) only [go_sem]; (first | refine ⟨_, _, _, hd2, ⟨by simp only [sz]; omega, by simp only [sz]; unfold VB; omega, by first | exact heapL_low _ | exact gap_low _ _ _⟩, ?_⟩ | refine ⟨_, _, _, hd2, ?_⟩); (try simp only [go_sem]); with_reducible refine hK _ _ _ ?_; clear hK K)
      by_cases hu0 : u = 0
      · have hokf : ok = false := by rw [hok, hu0]; rfl
        subst hokf
        have t0 := v0 hu0
        refine viaF (And.intro hbox2 t0) ?_
        rw [hsp]
        exact inner _ q2 _ _ ws1 W1 (y :: fr) ver G L I1 st1 rfl rfl rfl rfl rfl rfl rfl rfl rfl rfl (by rw [List.length_set]; exact hl2) hqa (by omega) (by rw [List.getElem?_set_ne (by decide)]; exact hr2) (by rw [List.getElem?_set_ne (by decide)]; exact hgeo2) (List.getElem?_set_self hl20) hX1 hS1 ((hBN.fewer (fun i _ => ⟨Nat.le_refl _, takeO hsaid _⟩)).le (by omega)) (by omega)
      · have hokf : ok = true := by rw [hok]; simpa using hu0
        subst hokf
        have t0 := v1 hu0
        refine viaF (And.intro hbox2 t0) ?_
        rw [hsp]
        exact inner _ q2 _ _ ws1 W1 (y :: fr) ver G L I1 st1 rfl rfl rfl rfl rfl rfl rfl rfl rfl rfl (by rw [List.length_set]; exact hl2) hqa (by omega) (by rw [List.getElem?_set_ne (by decide)]; exact hr2) (by rw [List.getElem?_set_ne (by decide)]; exact hgeo2) (List.getElem?_set_self hl20) hX1 hS1 ((hBN.fewer (fun i _ => ⟨Nat.le_refl _, takeO hsaid _⟩)).le (by omega)) (by omega)
    · obtain ⟨v1, S1, ⟨rfl, st1, ws1, W1, fr1, ver1, G1, hst1, hver1, rfl, hS1, hw51⟩, hd⟩ := bprune_does (Ob.mem ws bs :: (R ++ [Ob.port 0 t 0])) (R.length + 1) 0 t 0 ws bs N T cc (hp0 _ _) (hm0 _ _) (by omega) hN1 (by omega) (by omega) (by omega) htT hc4 (by omega) hS
      rw [hacc] at hd
      refine viaF hgeo ?_
      ((first | refine qc1 rfl rfl fun K hK => ?_ | refine qc3 rfl rfl fun K hK => ?_); simp (disch := (first | omega | (simp only [sz] <;> omega) | fail)) only [go_sem]; refine ⟨_, _, hd, ?_⟩; (try simp only [go_sem]); with_reducible refine hK _ _ ?_; clear hK K)
      obtain ⟨v2, hh2, S2, ⟨rfl, l2, q2, a2, rfl, rfl, hge2, hl2, hqa, hq2', hW2⟩, hd2⟩ := rprune9 (Ob.mem ws1 bs :: (R ++ [Ob.port 0 t st1])) (l := lf) (q := qq) (a := ax) (zs := wasOf I L cc T) (adds := ad) (T := T) (t := t) hlen' (by omega) hWx wasOf_len (by omega) hzt h8t (by omega)
      rw [← pruneWas] at hW2
      have hbox2 := hge2 _ _ hbox
      have hgeo2 := hge2 _ _ hgeo
      have hr2 := hge2 _ _ hr0
      have hl20 := (List.getElem?_eq_some_iff.1 hbox2).1
      unfold bgV at hd2
      have hsp : spliceA (rowC (bgC T) ps) (cc * 2) [.slice a2 T T, .int .i64 (ad : Int)] = rowC (bgC T) (ps.set cc (a2, ad)) := rowC_set (bgC_len T) ps cc (a2, ad) (by omega)
      have hX1 := XI.set (b := some { cells := rowC (bgC T) (ps.set cc (a2, ad)), elem := 40 }) ((hX.ge hge2 (Nat.le_succ i)).up (c := cc) (p := (a2, ad)) (W' := W1) (pruneOthers (t := t) hc4) (fun d hd hne => hw51 d) ⟨hW2, by rw [hw51, hw5], by omega⟩) hbox2 rfl
      refine viaF (And.intro hbox hat) ?_
      ((first | refine qd1 rfl rfl fun K hK => ?_ | refine qd3 rfl rfl fun K hK => ?_); simp (disch := (first | omega | (simp only [sz] <;> omega) | fail)) only [go_sem]; (first | refine ⟨_, _, _, hd2, ⟨by simp only [sz]; omega, by simp only [sz]; unfold VB; omega, by first | exact heapL_low _ | exact gap_low _ _ _⟩, ?_⟩ | refine ⟨_, _, _, hd2, ?_⟩); (try simp only [go_sem]); with_reducible refine hK _ _ _ ?_; clear hK K)
      refine viaF hbox2 ?_
      rw [hsp]
      refine inner _ q2 _ _ ws1 W1 fr1 ver1 G1 _ I st1 rfl rfl rfl rfl rfl rfl rfl rfl rfl rfl (by rw [List.length_set]; exact hl2) hqa (by omega) (by rw [List.getElem?_set_ne (by decide)]; exact hr2) (by rw [List.getElem?_set_ne (by decide)]; exact hgeo2) (List.getElem?_set_self hl20) hX1 hS1 ((hBN.fewer (fun i _ => ?_)).le (by omega)) (by omega)
      by_cases e : i = t * 4 + cc
      · rw [e, upG_eq]; exact ⟨List.length_filter_le _ _, Nat.le_of_eq totI_prune⟩
      · rw [upG_ne e]; exact ⟨Nat.le_refl _, Nat.le_refl _⟩
  rintro tmps q1 l1 ps1 ws1 W1 free1 ver1 G1 L1 I1 st1 hl f2 f6 f7 f8 f9 f10 f12 f14 f19 hlen1 hqq1 hqq1' hr1 hgeo1 hbox1 hX1 hS1 hBN1 hver1
  refine Goes.wh (fun z tmps h S => ∃ (k q3 : Nat) (l3 : List (Option Blk)), z = T - k ∧ k ≤ T ∧ l3.length ≤ q3 ∧ q1 ≤ q3 ∧ q3 ≤ q1 + 40010 * k ∧ Ge l1 l3 ∧ S = .mem ws1 bs :: (R ++ [.port 0 t st1]) ∧ h = heapJ l3 q3 [] ∧ tmps.length = 225 ∧
      tmps.getD 2 undef = .slice (some ⟨0, 0, none⟩) l.length c ∧ tmps.getD 6 undef = .bool false ∧ tmps.getD 7 undef = .pointer (some ⟨1, 0, none⟩) ∧ tmps.getD 8 undef = hndV 0 ∧ tmps.getD 9 undef = .slice (some ⟨10, 0, none⟩) 4 4 ∧ tmps.getD 10 undef = .int .i64 i ∧ tmps.getD 12 undef = .int .i64 cc ∧ tmps.getD 14 undef = .bool true ∧ tmps.getD 19 undef = .int .i64 k) (m := T)
      ⟨0, q1, l1, rfl, by omega, hlen1, Nat.le_refl _, by omega, Ge.refl _, rfl, rfl, hl, f2, f6, f7, f8, f9, f10, f12, f14, f19⟩ ?_
  rintro z tmps h S ih3 ⟨k, q3, l3, rfl, hk, hlen3, hqq3, hq3', hge3, rfl, rfl, hl, f2, f6, f7, f8, f9, f10, f12, f14, f19⟩
  obtain ⟨V, hV, hT⟩ := frame_lit hl; replace hT : _ = ([V 0, V 1, V 2, V 3, V 4, V 5, V 6, V 7, V 8, V 9, V 10, V 11, V 12, V 13, V 14, V 15, V 16, V 17, V 18, V 19, V 20, V 21, V 22, V 23, V 24, V 25, V 26, V 27, V 28, V 29, V 30, V 31, V 32, V 33, V 34, V 35, V 36, V 37, V 38, V 39, V 40, V 41, V 42, V 43, V 44, V 45, V 46, V 47, V 48, V 49, V 50, V 51, V 52, V 53, V 54, V 55, V 56, V 57, V 58, V 59, V 60, V 61, V 62, V 63, V 64, V 65, V 66, V 67, V 68, V 69, V 70, V 71, V 72, V 73, V 74, V 75, V 76, V 77, V 78, V 79, V 80, V 81, V 82, V 83, V 84, V 85, V 86, V 87, V 88, V 89, V 90, V 91, V 92, V 93, V 94, V 95, V 96, V 97, V 98, V 99, V 100, V 101, V 102, V 103, V 104, V 105, V 106, V 107, V 108, V 109, V 110, V 111, V 112, V 113, V 114, V 115, V 116, V 117, V 118, V 119, V 120, V 121, V 122, V 123, V 124, V 125, V 126, V 127, V 128, V 129, V 130, V 131, V 132, V 133, V 134, V 135, V 136, V 137, V 138, V 139, V 140, V 141, V 142, V 143, V 144, V 145, V 146, V 147, V 148, V 149, V 150, V 151, V 152, V 153, V 154, V 155, V 156, V 157, V 158, V 159, V 160, V 161, V 162, V 163, V 164, V 165, V 166, V 167, V 168, V 169, V 170, V 171, V 172, V 173, V 174, V 175, V 176, V 177, V 178, V 179, V 180, V 181, V 182, V 183, V 184, V 185, V 186, V 187, V 188, V 189, V 190, V 191, V 192, V 193, V 194, V 195, V 196, V 197, V 198, V 199, V 200, V 201, V 202, V 203, V 204, V 205, V 206, V 207, V 208, V 209, V 210, V 211, V 212, V 213, V 214, V 215, V 216, V 217, V 218, V 219, V 220, V 221, V 222, V 223, V 224] : List Value) := hT; rw [hV] at f2 f6 f7 f8 f9 f10 f12 f14 f19; subst hT; simp only [f2, f6, f7, f8, f9, f10, f12, f14, f19]; clear hV hl
  have hgeo3 := hge3 _ _ hgeo1
  have hr3 := hge3 _ _ hr1
  have hbox3 := hge3 _ _ hbox1
  have hX3 := hX1.ge hge3 (Nat.le_refl _)
  have hl30 : 0 < l3.length := (List.getElem?_eq_some_iff.1 hr3).1
  have hl31 : 10 < l3.length := (List.getElem?_eq_some_iff.1 hbox3).1
  have hq30 : 1 < q3 := by omega
  obtain ⟨⟨ay, ae⟩, hpc3⟩ : ∃ p, ps1[cc]? = some p := ⟨_, List.getElem?_eq_getElem (by rw [hX3.1]; omega)⟩
  obtain ⟨hWy, hwy5, hae⟩ := hX3.2 cc _ hpc3
  simp only at hWy hwy5 hae
  have hbl3 := rowC_len (bgC_len T) ps1
  have c0 : (rowC (bgC T) ps1)[cc * 2]? = some (.slice ay T T) := rowC_get (j := 0) (bgC_len T) hpc3 (by decide)
  have c1 : (rowC (bgC T) ps1)[cc * 2 + 1]? = some (.int .i64 ae) := rowC_get (bgC_len T) hpc3 (by decide)
  have hpl1 := hX3.1
  by_cases hkT : k < T
  · obtain ⟨ll, ql, al, hll, hql, hUl, hdl⟩ := list_fresh (Ob.mem ws1 bs :: (R ++ [Ob.port 0 t st1])) 0 ws1 bs N T cc k rfl hN1 (by omega) (by omega) (by omega) hkT hc4 hS1
    obtain ⟨ny, gy, psy, rfl, hby, hpsy, hally⟩ := id hWy
    rw [wasOf_len] at hpsy
    have hny3 := (List.getElem?_eq_some_iff.1 hby).1
    obtain ⟨⟨ap, np⟩, hpk⟩ : ∃ p, psy[k]? = some p := ⟨_, List.getElem?_eq_getElem (by omega)⟩
    obtain ⟨hnp, hUk⟩ := hally k _ _ hpk (wasOf_get hkT)
    simp only at hnp hUk
    subst hnp
    have e1 := Nat.mul_one k
    have e4 : (rowQ psy)[k]? = some (.slice ap ((L1 (k * 4 + cc)).map (itemsOf I1)).length ((L1 (k * 4 + cc)).map (itemsOf I1)).length) := by simp [rowQ, hpk]
    rw [List.length_map] at e4
    have hki : k * 4 + cc < T * 4 := by omega
    have hlk1 := hS1.len_le hki
    have hhz : ∀ s, s < 2 → wT 1 (gat N T 14 ((k * 2 + s : Nat) : Int)) 0 ws1 = 0 := fun s hs => by
      rw [hS1.wd.tells (r := 14) (by decide) (by show k * 2 + s < T * 2; omega)]
      exact hS1.pl.haz k s hkT hs
    refine viaF hgeo3 ?_
    ((first | refine qp1 rfl rfl fun K hK => ?_ | refine qp3 rfl rfl fun K hK => ?_); simp (disch := (first | omega | (simp only [sz] <;> omega) | fail)) only [go_sem]; refine ⟨_, _, qpu fun w => gThreads_any N T w, ?_⟩; (try simp only [go_sem]); with_reducible refine hK _ _ ?_; clear hK K)
    refine viaDF hgeo3 ?_
    refine Goes.drawR [13] (by kernel_rfl) ?_
    refine viaF hgeo3 ?_
    ((first | refine qr1 (by first | assumption | omega | simp) rfl rfl fun K hK => ?_ | refine qr3 (by first | assumption | omega | simp) rfl rfl fun K hK => ?_); simp (disch := (first | omega | (simp only [sz] <;> omega) | fail)) only [go_sem]; refine ⟨_, _, _, _, hdl, by (try simp only [sz, List.length_cons, List.length_nil]); omega, fun lf hF => ?_⟩; (try simp only [go_sem]); with_reducible refine hK _ _ _ _ ?_; clear hK K)
    rw [ren_shU (hUl.at hll (by unfold VB; omega))]
    have hnew := hUl.fresh hF hll (by unfold VB; omega)
    obtain ⟨hF1, hF2, _⟩ := hF
    simp only [List.length_nil, Nat.add_zero] at hF1 hnew
    have hge4 := hge3.trans hF2
    have hbox4 := hF2 _ _ hbox3
    have hgeo4 := hF2 _ _ hgeo3
    have hby4 := hF2 _ _ hby
    have hnyl := (List.getElem?_eq_some_iff.1 hby4).1
    have hl40 := (List.getElem?_eq_some_iff.1 hbox4).1
    obtain ⟨v5, h5, S5, ⟨rfl, rfl, rfl⟩, hd5⟩ := same9_does (Ob.mem ws1 bs :: (R ++ [Ob.port 0 t st1])) (l := lf) (q := q3 + ql) (a := shU q3 al) (b := ap) (xss := (L1 (k * 4 + cc)).map (itemsOf I1)) (by omega) (by omega) hnew (hUk.ge hF2) (fun xs hx => by obtain ⟨z, _, rfl⟩ := List.mem_map.1 hx; exact itemsOf_len) (by rw [List.length_map]; omega)
    rw [List.length_map] at hd5
    refine viaF (And.intro hbox4 (And.intro c0 (And.intro hby4 (And.intro e1 e4)))) ?_
    ((first | refine qd1 rfl rfl fun K hK => ?_ | refine qd3 rfl rfl fun K hK => ?_); simp (disch := (first | omega | (simp only [sz] <;> omega) | fail)) only [go_sem]; (first | refine ⟨_, _, _, hd5, ⟨by simp only [sz]; omega, by simp only [sz]; unfold VB; omega, by first | exact heapL_low _ | exact gap_low _ _ _⟩, ?_⟩ | refine ⟨_, _, _, hd5, ?_⟩); (try simp only [go_sem]); with_reducible refine hK _ _ _ ?_; clear hK K)
    refine viaF hgeo4 ?_
    ((first | refine qc1 rfl rfl fun K hK => ?_ | refine qc3 rfl rfl fun K hK => ?_); simp (disch := (first | omega | (simp only [sz] <;> omega) | fail)) only [go_sem]; refine ⟨_, _, gHazardN _ N T k 0 (by omega) (by omega) hkT (by decide), ?_⟩; (try simp only [go_sem]); with_reducible refine hK _ _ ?_; clear hK K)
    refine via ?_
    ((first | refine qp1 rfl rfl fun K hK => ?_ | refine qp3 rfl rfl fun K hK => ?_); simp (disch := (first | omega | (simp only [sz] <;> omega) | fail)) only [go_sem]; refine ⟨_, _, .word _ rfl, ?_⟩; (try simp only [go_sem]); with_reducible refine hK _ _ ?_; clear hK K)
    rw [show wT 1 (gat N T 14 ((k * 2 : Nat) : Int)) 0 ws1 = 0 from hhz 0 (by decide)]
    refine viaF hgeo4 ?_
    ((first | refine qc1 rfl rfl fun K hK => ?_ | refine qc3 rfl rfl fun K hK => ?_); simp (disch := (first | omega | (simp only [sz] <;> omega) | fail)) only [go_sem]; refine ⟨_, _, gHazardN _ N T k 1 (by omega) (by omega) hkT (by decide), ?_⟩; (try simp only [go_sem]); with_reducible refine hK _ _ ?_; clear hK K)
    refine via ?_
    ((first | refine qp1 rfl rfl fun K hK => ?_ | refine qp3 rfl rfl fun K hK => ?_); simp (disch := (first | omega | (simp only [sz] <;> omega) | fail)) only [go_sem]; refine ⟨_, _, .word _ rfl, ?_⟩; (try simp only [go_sem]); with_reducible refine hK _ _ ?_; clear hK K)
    rw [hhz 1 (by decide)]
    refine via ?_
    exact ih3 _ _ _ _ (by omega) ⟨k + 1, q3 + ql, lf, rfl, by omega, by omega, by omega, by omega, hge4, rfl, rfl, rfl, rfl, rfl, rfl, rfl, rfl, rfl, rfl, rfl, by push_cast; rfl⟩
  · obtain rfl : T = k := by omega
    clear ih3
    have h5w : wT 1 (gat N T 5 (cc : Int)) 0 ws1 = UInt64.ofNat ae := by
      rw [hS1.wd.tells (r := 5) (by decide) (show cc < gsz N T 5 from hc4)]
      exact hwy5
    have h5c : IntKind.u64.wrap (ae : Int) = ((UInt64.ofNat ae).toNat : Int) := u64_i (i := ae) (by omega)
    refine viaF hgeo3 ?_
    ((first | refine qp1 rfl rfl fun K hK => ?_ | refine qp3 rfl rfl fun K hK => ?_); simp (disch := (first | omega | (simp only [sz] <;> omega) | fail)) only [go_sem]; refine ⟨_, _, qpu fun w => gThreads_any N T w, ?_⟩; (try simp only [go_sem]); with_reducible refine hK _ _ ?_; clear hK K)
    refine viaF hgeo3 ?_
    ((first | refine qp1 rfl rfl fun K hK => ?_ | refine qp3 rfl rfl fun K hK => ?_); simp (disch := (first | omega | (simp only [sz] <;> omega) | fail)) only [go_sem]; refine ⟨_, _, qpu fun w => gAdds_any N T cc w (by omega) (by omega), ?_⟩; (try simp only [go_sem]); with_reducible refine hK _ _ ?_; clear hK K)
    refine via ?_
    ((first | refine qp1 rfl rfl fun K hK => ?_ | refine qp3 rfl rfl fun K hK => ?_); simp (disch := (first | omega | (simp only [sz] <;> omega) | fail)) only [go_sem]; refine ⟨_, _, .word _ rfl, ?_⟩; (try simp only [go_sem]); with_reducible refine hK _ _ ?_; clear hK K)
    rw [h5w]
    refine viaF (And.intro hbox3 (And.intro c1 h5c)) ?_
    exact ih _ _ _ _ (by omega) ⟨i + 1, q3, l3, ps1, ws1, W1, free1, ver1, G1, L1, I1, R ++ [.port 0 t st1], rfl, by omega, hlen3, by omega, by omega, fun b hb => (by cases hb; exact hr3), hgeo3, hbox3, hX3, hS1, hBN1, by omega, rfl, rfl, rfl, rfl, rfl, rfl, rfl, rfl, by push_cast; rfl⟩
theorem bagPlay_walk (a0 a1 : Int) (a2 : Option Addr) (len2 cap2 : Nat) (z2 : Nat → Nat → Int) (w : World) (w0 : (Lit.int .u8 a0).wf = true) (w1 : (Lit.int .u8 a1).wf = true) (w2 : RowS [.u8, .u8, .i64, .u64] w a2 len2 cap2 z2) :
    Calls Try.prog 4 #[.int .u8 a0, .int .u8 a1, .slice a2 len2 cap2] w fun e w' => e = .returned (.bool true) ∧ Below w.heap.size w w' := by
  have h0 := u8_of9 w0
  obtain ⟨pg, rfl⟩ := Int.eq_ofNat_of_zero_le h0.1
  have h00 := u8_of9 w1
  obtain ⟨th, rfl⟩ := Int.eq_ofNat_of_zero_le h00.1
  obtain ⟨h1, h2, h3⟩ := acts9_slice w2
  obtain ⟨sl, ob, bk, bs, hren, hat, hrow, hlies⟩ := law_slice a9C a9C_len (by decide) a9C_plain (acts9 len2 z2) a2 cap2 w 0 h3
  have L := (bagPlay_law pg th sl cap2 (acts9 len2 z2) ob hat hrow (by rw [acts9_len]; exact h1) (by omega) (by omega) h2).calls ⟨fun _ => bk, fun _ => bs, fun _ => 0⟩ w (fun n b hb => by
    match n, hb with
    | 0, hb => exact hlies b (by simpa using hb)
    | n + 1, hb => simp at hb) (by simp)
  simp only [List.map_toArray, List.map_cons, List.map_nil, ren_int] at L
  rw [hren _ rfl rfl rfl, acts9_len] at L
  exact L.mono fun e w' h => ⟨h.1, h.2.below⟩
end Go.Proofs.Ytjdbknnacaacaaa
