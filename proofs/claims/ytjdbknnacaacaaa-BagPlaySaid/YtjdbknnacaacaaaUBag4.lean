/-
  Layer 9: Prune, over the abstract machine.
  Conditions: those of each contract.
-/
import Derived.Test.YtjdbknnacaacaaaUBag
import Derived.Test.YtjdbknnacaacaaaULend
namespace Go.Proofs.Ytjdbknnacaacaaa
open Go Go.RowKit
set_option linter.unusedSimpArgs false
set_option linter.unusedVariables false
def bareB (I : Nat → Nat → UInt64) (x : Nat) : Bool := (List.range 8).all fun k => I x k == 0
theorem bareB_t {I : Nat → Nat → UInt64} {x : Nat} (h : ∀ k, k < 8 → I x k = 0) : bareB I x = true := List.all_eq_true.2 fun k hk => beq_iff_eq.2 (h k (List.mem_range.1 hk))
theorem bareB_f {I : Nat → Nat → UInt64} {x k : Nat} (hk : k < 8) (h : I x k ≠ 0) : bareB I x = false := by
  cases e : bareB I x
  · rfl
  · exact absurd (beq_iff_eq.1 (List.all_eq_true.1 e k (List.mem_range.2 hk))) h
theorem Chn.cut {V V' : Nat → UInt64} : ∀ {K0 : List Nat} {y x : Nat} {B : List Nat}, Chn V (K0 ++ y :: x :: B) → (∀ z ∈ K0 ++ B, V' (z - 1) = V (z - 1)) → V' (y - 1) = rU (B.headD 0) false 0 → Chn V' (K0 ++ y :: B)
  | [], y, x, B, ⟨_, _, h⟩, e, h2 => ⟨h2, h.congr fun z hz => e z hz⟩
  | z :: K0, y, x, B, ⟨h1, h⟩, e, h2 => by
    refine ⟨?_, Chn.cut (K0 := K0) h (fun u hu => e u (by simp only [List.cons_append, List.mem_cons]; exact .inr hu)) h2⟩
    rw [e z (by simp), h1]
    cases K0 <;> rfl
def AtW (K : List Nat) (i r n : Nat) : Prop := (K = [] ∧ r = 13 ∧ n = i) ∨ ∃ K0 y, K = K0 ++ [y] ∧ r = 17 ∧ n = y - 1
theorem bag_split {p : Nat → Bool} {L free rest : List Nat} : ((L.filter fun x => !p x).reverse ++ free ++ (L.filter p ++ rest)).Perm (free ++ (L ++ rest)) := by
  have h1 : (L.filter p ++ L.filter fun x => !p x).Perm L := List.filter_append_perm p L
  have h2 : ((L.filter fun x => !p x).reverse ++ (L.filter p)).Perm L := ((List.reverse_perm _).append_right _).trans (List.perm_append_comm.trans h1)
  have h3 : ((L.filter fun x => !p x).reverse ++ free ++ (L.filter p ++ rest)).Perm (free ++ ((L.filter fun x => !p x).reverse ++ L.filter p ++ rest)) := by
    rw [List.append_assoc, List.append_assoc]
    refine (List.perm_append_comm_assoc _ _ _).trans ?_
    exact List.Perm.refl _
  exact h3.trans ((h2.append_right rest).append_left free)
section
variable {N T x i me : Nat} {ws ws' : List UInt64} {W W' : Nat → Nat → UInt64} {free F : List Nat} {ver vr : Nat} {H : Nat → Nat → Nat} {G L : Nat → List Nat} {I : Nat → Nat → UInt64} {K B Kp : List Nat}
theorem AtW.tells {r n : Nat} (h : Bg N T W L I) (hi : i < T * 4) (hL : L i = K ++ B) (ha : AtW K i r n) : W r n = rU (B.headD 0) false 0 := by
  rcases ha with ⟨rfl, rfl, rfl⟩ | ⟨K0, y, rfl, rfl, rfl⟩
  · rw [h.hd _ hi, hL]; rfl
  · have hc := h.ch i hi
    rw [hL, List.append_assoc] at hc
    exact Chn.at hc
theorem AtW.lt {r n : Nat} (hr : ∀ z ∈ K, 1 ≤ z ∧ z ≤ gM N T) (hi : i < T * 4) (ha : AtW K i r n) : n < gsz N T r ∧ r < 19 := by
  rcases ha with ⟨rfl, rfl, rfl⟩ | ⟨K0, y, rfl, rfl, rfl⟩
  · exact ⟨hi, by decide⟩
  · have := hr y (by simp)
    exact ⟨by show y - 1 < gM N T; omega, by decide⟩
theorem BO.cut {r n : Nat} (h : BO N T ws W free ver H G L I) (hN : 1 ≤ N) (hi : i < T * 4) (hL : L i = K ++ x :: B) (ha : AtW K i r n) (hr : ∀ z ∈ K, 1 ≤ z ∧ z ≤ gM N T) (hnd : (L i).Nodup) (hf : ∀ z ∈ K, z ∉ free) (ho : ∀ j z y, j < T * 4 → j ≠ i → z ∈ L j → y ∈ K → 1 ≤ z ∧ z ≠ y) (hb : ∀ z ∈ B, 1 ≤ z) :
    BO N T (wS 2 (gat N T r (n : Int)) (rU (B.headD 0) false 0) 0 ws) (up2 W r n (rU (B.headD 0) false 0)) free ver H G (upG L i (K ++ B)) I := by
  have hlt := AtW.lt (i := i) hr hi ha
  have hwd := h.wd.store hN hlt.2 hlt.1 (rU (B.headD 0) false 0)
  have hci := h.bg.ch i hi
  rw [hL] at hci hnd
  rcases ha with ⟨rfl, rfl, rfl⟩ | ⟨K0, y, rfl, rfl, rfl⟩
  · refine ⟨hwd, h.pl.other fun r n hr => up2_r (by omega), ⟨fun j hj => ?_, fun j hj => ?_, fun z k h1 h2 hk => (up2_r (by decide)).trans (h.bg.it z k h1 h2 hk)⟩⟩
    · by_cases e : j = n
      · subst e; rw [up2_eq, upG_eq]; rfl
      · rw [up2_n e, upG_ne e]; exact h.bg.hd j hj
    · by_cases e : j = n
      · subst e; rw [upG_eq]; exact hci.2.congr fun _ _ => up2_r (by decide)
      · rw [upG_ne e]; exact (h.bg.ch j hj).congr fun _ _ => up2_r (by decide)
  · have hy := hr y (by simp)
    have hyf := hf y (by simp)
    rw [List.append_assoc] at hci hnd
    refine ⟨hwd, h.pl.other fun r n hr2 => ?_, ⟨fun j hj => ?_, fun j hj => ?_, fun z k h1 h2 hk => (up2_r (by decide)).trans (h.bg.it z k h1 h2 hk)⟩⟩
    · by_cases e : r = 17
      · subst e
        refine up2_n fun e2 => ?_
        rcases hr2 with hr2 | hr2 | hr2 | hr2 | ⟨_, hr2⟩
        · omega
        · omega
        · omega
        · omega
        · exact hyf (by rw [show y = n + 1 by omega]; exact hr2)
      · exact up2_r e
    · rw [up2_r (by decide)]
      by_cases e : j = i
      · subst e
        rw [upG_eq, h.bg.hd _ hj, hL, List.append_assoc, List.append_assoc]
        cases K0 <;> rfl
      · rw [upG_ne e]; exact h.bg.hd j hj
    · by_cases e : j = i
      · subst e
        rw [upG_eq, List.append_assoc]
        refine Chn.cut (x := x) hci (fun z hz => up2_n ?_) up2_eq
        have hzy : z ≠ y := by
          rintro rfl
          rcases List.mem_append.1 hz with hz | hz
          · exact (List.nodup_append.1 hnd).2.2 z hz z (by simp) rfl
          · have := (List.nodup_cons.1 (List.nodup_append.1 hnd).2.1).1
            exact this (List.mem_cons_of_mem _ hz)
        have hz1 : 1 ≤ z := by
          rcases List.mem_append.1 hz with hz | hz
          · exact (hr z (by simp [hz])).1
          · exact hb z hz
        omega
      · rw [upG_ne e]
        refine (h.bg.ch j hj).congr fun z hz => up2_n ?_
        have := ho j z y hj e hz (by simp)
        omega
theorem BS.pcut {r n : Nat} (h : BS N T ws W free ver G L I) (hN : 1 ≤ N) (hi : i < T * 4) (hL : L i = K ++ x :: B) (ha : AtW K i r n) :
    BO N T (wS 2 (gat N T 17 ((x - 1 : Nat) : Int)) (rU (B.headD 0) true 0) 0 (wS 2 (gat N T r (n : Int)) (rU (B.headD 0) false 0) 0 ws)) (up2 (up2 W r n (rU (B.headD 0) false 0)) 17 (x - 1) (rU (B.headD 0) true 0)) free ver (fun _ _ => 0) G (upG L i (K ++ B)) I := by
  have hx := h.rng hi (x := x) (by rw [hL]; simp)
  have hxo := h.out hi (x := x) (by rw [hL]; simp)
  have hnd := h.lnd hi
  have hKr : ∀ z ∈ K, 1 ≤ z ∧ z ≤ gM N T := fun z hz => h.rng hi (by rw [hL]; simp [hz])
  have hBr : ∀ z ∈ B, 1 ≤ z := fun z hz => (h.rng hi (x := z) (by rw [hL]; simp [hz])).1
  have hC := BO.cut (x := x) (B := B) (r := r) (n := n) ⟨h.wd, h.pl, h.bg⟩ hN hi hL ha hKr hnd (fun z hz hf => h.out hi (x := z) (by rw [hL]; simp [hz]) (List.mem_append.2 (.inl hf))) (fun j z y hj hne hz hy => ⟨(h.rng hj hz).1, fun e => hne (h.apart hj hi hz (by rw [e, hL]; simp [hy]))⟩) hBr
  refine hC.next hN _ hx.1 hx.2 (fun hf => hxo (List.mem_append.2 (.inl hf))) fun j z hj hz => ?_
  rw [hL] at hnd
  by_cases e : j = i
  · subst e
    rw [upG_eq] at hz
    rcases List.mem_append.1 hz with hz | hz
    · exact ⟨(hKr z hz).1, fun e => (List.nodup_append.1 hnd).2.2 z hz x (by simp) e⟩
    · exact ⟨hBr z hz, fun e => (List.nodup_cons.1 (List.nodup_append.1 hnd).2.1).1 (by rw [← e]; exact hz)⟩
  · rw [upG_ne e] at hz
    exact ⟨(h.rng hj hz).1, fun e2 => e (h.apart hj hi hz (by rw [e2, hL]; simp))⟩
theorem BS.pret (h : BS N T ws W free ver G L I) (hi : i < T * 4) (hme : me < T) (hT : T ≤ 64) (hL : L i = K ++ x :: B) {ws2 : List UInt64} {W2 : Nat → Nat → UInt64} (hM : BO N T ws2 W2 free ver (fun _ _ => 0) G (upG L i (K ++ B)) I) (hR : RetEnd N T W2 free ver (fun _ _ => 0) G me x ws' W' Kp F vr) :
    BS N T ws' W' F vr (upG G me Kp) (upG L i (K ++ B)) I ∧ vr ≤ ver + 200 ∧ (∀ n, W' 5 n = W2 5 n) ∧ (∀ n, W' 13 n = W2 13 n) ∧ ∀ z ∈ K, W' 17 (z - 1) = W2 17 (z - 1) := by
  have hxo := h.out hi (x := x) (by rw [hL]; simp)
  obtain ⟨hcase, hwd, hpl, hkeep⟩ := hR
  have hnd := h.lnd hi
  rw [hL] at hnd
  have p2 : ((G me ++ [x]) ++ flat T (upG G me [])).Perm (x :: flat T G) := by
    rw [List.append_assoc]
    exact List.perm_middle.trans ((flat_at hme).symm.cons x)
  have pA : (free ++ ((G me ++ [x]) ++ flat T (upG G me []))).Perm (x :: (free ++ flat T G)) := (p2.append_left free).trans List.perm_middle
  have hng : (G me ++ [x]).Nodup := (List.nodup_append.1 (List.nodup_append.1 (pA.nodup_iff.2 (List.nodup_cons.2 ⟨hxo, h.pl.nd⟩))).2.1).1
  have hgl := h.glen me hme
  have pX : (F ++ flat T (upG G me Kp)).Perm (x :: (free ++ flat T G)) ∧ Kp.length ≤ 2 * T ∧ vr ≤ ver + 200 := by
    rcases hcase with ⟨h1, rfl, rfl, rfl⟩ | ⟨h1, rfl, rfl, rfl⟩
    · exact ⟨((flat_up hme).append_left _).trans pA, by rw [List.length_append, List.length_singleton]; omega, by omega⟩
    · refine ⟨((flat_up hme).append_left _).trans (bag_split.trans pA), kept_le hng, ?_⟩
      have h2 := List.length_filter_le (fun x => !safeB (hzl (fun _ _ => 0) T) x) (G me ++ [x])
      rw [List.length_append, List.length_singleton] at h2
      omega
  have hout : ∀ j z, j < T * 4 → z ∈ upG L i (K ++ B) j → 1 ≤ z ∧ z ∉ G me ++ [x] := fun j z hj hz => by
    have hzx : z ∈ L j ∧ z ≠ x := by
      by_cases e : j = i
      · subst e
        rw [upG_eq] at hz
        rcases List.mem_append.1 hz with hz | hz
        · exact ⟨by rw [hL]; simp [hz], fun e => (List.nodup_append.1 hnd).2.2 z hz x (by simp) e⟩
        · exact ⟨by rw [hL]; simp [hz], fun e => (List.nodup_cons.1 (List.nodup_append.1 hnd).2.1).1 (by rw [← e]; exact hz)⟩
      · rw [upG_ne e] at hz
        exact ⟨hz, fun e2 => e (h.apart hj hi hz (by rw [e2, hL]; simp))⟩
    refine ⟨(h.rng hj hzx.1).1, fun hm => ?_⟩
    rcases List.mem_append.1 hm with hm | hm
    · exact h.out hj hzx.1 (List.mem_append.2 (.inr (mem_flat hme hm)))
    · exact hzx.2 (List.mem_singleton.1 hm)
  have h17 : ∀ j z, j < T * 4 → z ∈ upG L i (K ++ B) j → W' 17 (z - 1) = W2 17 (z - 1) := fun j z hj hz => by
    have h3 := hout j z hj hz
    exact hkeep 17 (z - 1) (by decide) (by decide) (by decide) fun _ => by rw [Nat.sub_add_cancel h3.1]; exact h3.2
  have h13 : ∀ n, W' 13 n = W2 13 n := fun n => hkeep 13 n (by decide) (by decide) (by decide) (fun e => by cases e)
  refine ⟨⟨hwd, hpl, hM.bg.congr h13 (fun n => hkeep 18 n (by decide) (by decide) (by decide) (fun e => by cases e)) h17, fun t ht => ?_, ?_⟩, pX.2.2, fun n => hkeep 5 n (by decide) (by decide) (by decide) (fun e => by cases e), h13, fun z hz => h17 i z hi (by rw [upG_eq]; simp [hz])⟩
  · by_cases e : t = me
    · subst e; rw [upG_eq]; exact pX.2.1
    · rw [upG_ne e]; exact h.glen t ht
  · have q1 : (flat (T * 4) L).Perm (x :: flat (T * 4) (upG L i (K ++ B))) := by
      refine (flat_at hi).trans ?_
      rw [hL]
      exact (List.perm_middle.append_right _).trans ((flat_up hi).symm.cons x)
    refine ((pX.1.append_right _).trans ?_).trans h.pm
    exact (List.perm_middle.symm).trans (q1.symm.append_left _)
end
set_option maxHeartbeats 2000000 in
theorem bprune_does (S : St) (p m me : Nat) (steps : Nat) (ws : List UInt64) (bs : List UInt8) (N T c : Nat) {W : Nat → Nat → UInt64} {free : List Nat} {ver : Nat} {G L : Nat → List Nat} {I : Nat → Nat → UInt64} (hp : S[p]? = some (.port m me steps)) (hm : S[m]? = some (.mem ws bs)) (hst : steps ≤ 50000000) (hN1 : 1 ≤ N) (hN : N ≤ 256) (hT : T ≤ 64) (hgM : gM N T ≤ 1000) (hme : me < T) (hc : c < 4) (hv : ver + 1000000 < 4294967296) (hS : BS N T ws W free ver G L I) :
    ∃ v S', (v = .tuple #[] ∧ ∃ st' ws' W' free' ver' G', st' ≤ steps + 10 + 3000 * gM N T ∧ ver' ≤ ver + 200 * gM N T ∧ S' = accS S p m me st' ws' bs ∧ BS N T ws' W' free' ver' G' (upG L (me * 4 + c) ((L (me * 4 + c)).filter fun x => !bareB I x)) I ∧ ∀ n, W' 5 n = W 5 n) ∧ Does OF 16 #[prtV p, .agg (geoC N T), .int .i64 c] [] S v S' := by
  have hne := hne_of hp hm
  have hi : me * 4 + c < T * 4 := by omega
  have h13 : me * 4 + c < gsz N T 13 := hi
  refine Does.ex Try.func16 rfl rfl ?clo ?hand ?_
  case clo => exact clo3 (pclo (hlt_of hp)) gclo iclo
  case hand => rintro v S' ⟨rfl, _⟩; exact Hand.plain (by simp [plainB])
  rw [Try.ntmps16]; simp only [List.size_toArray, List.length_cons, List.length_nil, List.replicate, List.cons_append, List.nil_append]
  refine via ?_
  ((first | refine qc1 rfl rfl fun K hK => ?_ | refine qc3 rfl rfl fun K hK => ?_); simp (disch := (first | omega | (simp only [sz] <;> omega) | fail)) only [go_sem]; refine ⟨_, _, bnone_does S p m me steps N T c hp hN1 hN hT hme hc, ?_⟩; (try simp only [go_sem]); with_reducible refine hK _ _ ?_; clear hK K)
  refine via ?_
  ((first | refine qp1 rfl rfl fun K hK => ?_ | refine qp3 rfl rfl fun K hK => ?_); simp (disch := (first | omega | (simp only [sz] <;> omega) | fail)) only [go_sem]; refine ⟨_, _, .self hp, ?_⟩; (try simp only [go_sem]); with_reducible refine hK _ _ ?_; clear hK K)
  refine via ?_
  ((first | refine qc1 rfl rfl fun K hK => ?_ | refine qc3 rfl rfl fun K hK => ?_); simp (disch := (first | omega | (simp only [sz] <;> omega) | fail)) only [go_sem]; refine ⟨_, _, gHeadN _ N T me c hN hT hme hc, ?_⟩; (try simp only [go_sem]); with_reducible refine hK _ _ ?_; clear hK K)
  refine via ?_
  ((first | refine qp1 rfl rfl fun K hK => ?_ | refine qp3 rfl rfl fun K hK => ?_); simp (disch := (first | omega | (simp only [sz] <;> omega) | fail)) only [go_sem]; refine ⟨_, _, .load _ hp hm (by omega), ?_⟩; (try simp only [go_sem]); with_reducible refine hK _ _ ?_; clear hK K)
  rw [load_same, hS.wd.tells (r := 13) (by decide) h13, hS.bg.hd _ hi]
  have hhd0 : (L (me * 4 + c)).headD 0 < 16777216 := by
    cases e : L (me * 4 + c) with
    | nil => simp
    | cons x l => have := (hS.rng hi (x := x) (by rw [e]; simp)).2; simp; omega
  refine via ?_
  ((first | refine qc1 rfl rfl fun K hK => ?_ | refine qc3 rfl rfl fun K hK => ?_); simp (disch := (first | omega | (simp only [sz] <;> omega) | fail)) only [go_sem]; refine ⟨_, _, refOf_rU _ hhd0 (by omega), ?_⟩; (try simp only [go_sem]); with_reducible refine hK _ _ ?_; clear hK K)
  unfold refV
  refine via ?_
  refine Goes.wh (fun z tmps h S' => ∃ (P B K : List Nat) (st r n : Nat) (ws1 : List UInt64) (W1 : Nat → Nat → UInt64) (fr1 : List Nat) (ver1 : Nat) (G1 : Nat → List Nat), z = B.length ∧ L (me * 4 + c) = P ++ B ∧ K = P.filter (fun x => !bareB I x) ∧ AtW K (me * 4 + c) r n ∧ st ≤ steps + 1 + 3000 * P.length ∧ ver1 ≤ ver + 200 * P.length ∧ BS N T ws1 W1 fr1 ver1 G1 (upG L (me * 4 + c) (K ++ B)) I ∧ (∀ n, W1 5 n = W 5 n) ∧ S' = accS S p m me st ws1 bs ∧ h = heapL [some { cells := (geoC N T).toList, elem := 24 }] ∧ tmps.length = 72 ∧
      tmps.getD 0 undef = prtV p ∧ tmps.getD 2 undef = .int .i64 c ∧ tmps.getD 4 undef = .pointer (some ⟨0, 0, none⟩) ∧ tmps.getD 6 undef = .int .i64 (gat N T r (n : Int)) ∧ tmps.getD 7 undef = .int .i64 (B.headD 0 : Nat)) (m := (L (me * 4 + c)).length)
      ⟨[], _, [], steps + 1, 13, me * 4 + c, ws, W, free, ver, G, rfl, rfl, rfl, .inl ⟨rfl, rfl, rfl⟩, by omega, by omega, by rw [List.nil_append, upG_same]; exact hS, fun _ => rfl, rfl, rfl, rfl, rfl, rfl, rfl, rfl, rfl⟩ ?_
  rintro z tmps h S' ih ⟨P, B, K, st, r, n, ws1, W1, fr1, ver1, G1, rfl, hPB, hK, ha, hst', hver', hS1, hw5, rfl, rfl, hlt, f0, f2, f4, f6, f7⟩
  have hll : (L (me * 4 + c)).length ≤ gM N T := by
    have := nodup_le (hS.lnd hi) (fun x hx => upto_mem.2 (hS.rng hi hx))
    rwa [upto_len0] at this
  have hPl : P.length + B.length = (L (me * 4 + c)).length := by
    have h9 := congrArg List.length hPB
    rw [List.length_append] at h9; omega
  cases B with
  | nil =>
    simp only [List.headD_nil] at f7
    obtain ⟨V, hV, hT⟩ := frame_lit hlt; replace hT : _ = ([V 0, V 1, V 2, V 3, V 4, V 5, V 6, V 7, V 8, V 9, V 10, V 11, V 12, V 13, V 14, V 15, V 16, V 17, V 18, V 19, V 20, V 21, V 22, V 23, V 24, V 25, V 26, V 27, V 28, V 29, V 30, V 31, V 32, V 33, V 34, V 35, V 36, V 37, V 38, V 39, V 40, V 41, V 42, V 43, V 44, V 45, V 46, V 47, V 48, V 49, V 50, V 51, V 52, V 53, V 54, V 55, V 56, V 57, V 58, V 59, V 60, V 61, V 62, V 63, V 64, V 65, V 66, V 67, V 68, V 69, V 70, V 71] : List Value) := hT; rw [hV] at f0 f2 f4 f6 f7; subst hT; simp only [f0, f2, f4, f6, f7]; clear hV hlt
    refine via ?_
    refine Goes.finE rfl (by simp (disch := (first | omega | (simp only [heapL_next, List.length_cons, List.length_nil, List.size_toArray, geo_len] <;> omega) | fail)) only [go_sem, resA, res1A, Try.results16] <;> rfl) ?_
    rw [List.append_nil] at hPB hS1
    rw [hK, ← hPB] at hS1
    exact ⟨rfl, _, _, _, _, _, _, by omega, by omega, rfl, hS1, hw5⟩
  | cons x B =>
    simp only [List.headD_cons] at f7
    obtain ⟨V, hV, hT⟩ := frame_lit hlt; replace hT : _ = ([V 0, V 1, V 2, V 3, V 4, V 5, V 6, V 7, V 8, V 9, V 10, V 11, V 12, V 13, V 14, V 15, V 16, V 17, V 18, V 19, V 20, V 21, V 22, V 23, V 24, V 25, V 26, V 27, V 28, V 29, V 30, V 31, V 32, V 33, V 34, V 35, V 36, V 37, V 38, V 39, V 40, V 41, V 42, V 43, V 44, V 45, V 46, V 47, V 48, V 49, V 50, V 51, V 52, V 53, V 54, V 55, V 56, V 57, V 58, V 59, V 60, V 61, V 62, V 63, V 64, V 65, V 66, V 67, V 68, V 69, V 70, V 71] : List Value) := hT; rw [hV] at f0 f2 f4 f6 f7; subst hT; simp only [f0, f2, f4, f6, f7]; clear hV hlt
    have hL1 : upG L (me * 4 + c) (K ++ x :: B) (me * 4 + c) = K ++ x :: B := upG_eq
    have hx := hS1.rng hi (x := x) (by rw [hL1]; simp)
    have hx17 : x - 1 < gsz N T 17 := by show x - 1 < gM N T; omega
    have hch := hS1.bg.ch _ hi
    rw [hL1] at hch
    have hhB : B.headD 0 < 16777216 := by
      cases B with
      | nil => simp
      | cons y l => have := (hS1.rng hi (x := y) (by rw [hL1]; simp)).2; simp; omega
    have hKr : ∀ z ∈ K, 1 ≤ z ∧ z ≤ gM N T := fun z hz => hS1.rng hi (by rw [hL1]; simp [hz])
    have hrn := AtW.lt hKr hi ha
    obtain ⟨v1, S1, hQ, hd⟩ := bare_does (accS S p m me st ws1 bs) p m me st ws1 bs N T x (J := I x) (acc_p hp hm) (acc_m hp hm) (by omega) hN1 hN hT hS1.wd hx.1 hx.2 (fun k hk => hS1.bg.it x k hx.1 hx.2 hk)
    refine via ?_
    rcases hQ with ⟨k, hk, hIk, rfl, st1, hst1, rfl⟩ | ⟨hk, rfl, rfl⟩
    · rw [acc_acc hne] at hd
      ((first | refine qc1 rfl rfl fun K hK => ?_ | refine qc3 rfl rfl fun K hK => ?_); simp (disch := (first | omega | (simp only [sz] <;> omega) | fail)) only [go_sem]; refine ⟨_, _, hd, ?_⟩; (try simp only [go_sem]); with_reducible refine hK _ _ ?_; clear hK K)
      refine via ?_
      ((first | refine qc1 rfl rfl fun K hK => ?_ | refine qc3 rfl rfl fun K hK => ?_); simp (disch := (first | omega | (simp only [sz] <;> omega) | fail)) only [go_sem]; refine ⟨_, _, gNextN _ N T x hN hT hx.1 hx.2, ?_⟩; (try simp only [go_sem]); with_reducible refine hK _ _ ?_; clear hK K)
      refine via ?_
      ((first | refine qp1 rfl rfl fun K hK => ?_ | refine qp3 rfl rfl fun K hK => ?_); simp (disch := (first | omega | (simp only [sz] <;> omega) | fail)) only [go_sem]; refine ⟨_, _, .load _ (acc_p hp hm) (acc_m hp hm) (by omega), ?_⟩; (try simp only [go_sem]); with_reducible refine hK _ _ ?_; clear hK K)
      rw [load_same, hS1.wd.tells (r := 17) (by decide) hx17, hch.at, acc_acc hne]
      refine via ?_
      ((first | refine qc1 rfl rfl fun K hK => ?_ | refine qc3 rfl rfl fun K hK => ?_); simp (disch := (first | omega | (simp only [sz] <;> omega) | fail)) only [go_sem]; refine ⟨_, _, refOf_rU _ hhB (by omega), ?_⟩; (try simp only [go_sem]); with_reducible refine hK _ _ ?_; clear hK K)
      unfold refV
      refine via ?_
      exact ih _ _ _ _ (by simp) ⟨P ++ [x], B, K ++ [x], st1 + 1, 17, x - 1, ws1, W1, fr1, ver1, G1, rfl, by rw [hPB, List.append_assoc]; rfl, by rw [List.filter_append, ← hK]; simp [bareB_f hk hIk], .inr ⟨K, x, rfl, rfl, rfl⟩, by rw [List.length_append, List.length_singleton]; omega, by rw [List.length_append, List.length_singleton]; omega, by rw [List.append_assoc]; exact hS1, hw5, rfl, rfl, rfl, rfl, rfl, rfl, rfl, rfl⟩
    · have hcut := hS1.pcut hN1 hi hL1 ha
      have hxo := hS1.out hi (x := x) (by rw [hL1]; simp)
      have hcut5 : ∀ n', up2 (up2 W1 r n (rU (B.headD 0) false 0)) 17 (x - 1) (rU (B.headD 0) true 0) 5 n' = W 5 n' := fun n' => by
        rw [up2_r (by decide), up2_r (by rcases ha with ⟨_, rfl, _⟩ | ⟨_, _, _, rfl, _⟩ <;> decide), hw5]
      rw [acc_acc hne] at hd
      ((first | refine qc1 rfl rfl fun K hK => ?_ | refine qc3 rfl rfl fun K hK => ?_); simp (disch := (first | omega | (simp only [sz] <;> omega) | fail)) only [go_sem]; refine ⟨_, _, hd, ?_⟩; (try simp only [go_sem]); with_reducible refine hK _ _ ?_; clear hK K)
      refine via ?_
      ((first | refine qc1 rfl rfl fun K hK => ?_ | refine qc3 rfl rfl fun K hK => ?_); simp (disch := (first | omega | (simp only [sz] <;> omega) | fail)) only [go_sem]; refine ⟨_, _, gNextN _ N T x hN hT hx.1 hx.2, ?_⟩; (try simp only [go_sem]); with_reducible refine hK _ _ ?_; clear hK K)
      refine via ?_
      ((first | refine qp1 rfl rfl fun K hK => ?_ | refine qp3 rfl rfl fun K hK => ?_); simp (disch := (first | omega | (simp only [sz] <;> omega) | fail)) only [go_sem]; refine ⟨_, _, .load _ (acc_p hp hm) (acc_m hp hm) (by omega), ?_⟩; (try simp only [go_sem]); with_reducible refine hK _ _ ?_; clear hK K)
      rw [load_same, hS1.wd.tells (r := 17) (by decide) hx17, hch.at, acc_acc hne]
      refine via ?_
      ((first | refine qc1 rfl rfl fun K hK => ?_ | refine qc3 rfl rfl fun K hK => ?_); simp (disch := (first | omega | (simp only [sz] <;> omega) | fail)) only [go_sem]; refine ⟨_, _, refOf_rU _ hhB (by omega), ?_⟩; (try simp only [go_sem]); with_reducible refine hK _ _ ?_; clear hK K)
      unfold refV
      refine via ?_
      ((first | refine qc1 rfl rfl fun K hK => ?_ | refine qc3 rfl rfl fun K hK => ?_); simp (disch := (first | omega | (simp only [sz] <;> omega) | fail)) only [go_sem]; refine ⟨_, _, rWord_rU (i := B.headD 0) (v := 0) (m := false) _ hhB (by omega), ?_⟩; (try simp only [go_sem]); with_reducible refine hK _ _ ?_; clear hK K)
      refine via ?_
      ((first | refine qp1 rfl rfl fun K hK => ?_ | refine qp3 rfl rfl fun K hK => ?_); simp (disch := (first | omega | (simp only [sz] <;> omega) | fail)) only [go_sem]; refine ⟨_, _, .store _ (rU (B.headD 0) false 0) (acc_p hp hm) (acc_m hp hm) (by omega), ?_⟩; (try simp only [go_sem]); with_reducible refine hK _ _ ?_; clear hK K)
      rw [acc_acc hne]
      refine via ?_
      ((first | refine qc1 rfl rfl fun K hK => ?_ | refine qc3 rfl rfl fun K hK => ?_); simp (disch := (first | omega | (simp only [sz] <;> omega) | fail)) only [go_sem]; refine ⟨_, _, gNextN _ N T x hN hT hx.1 hx.2, ?_⟩; (try simp only [go_sem]); with_reducible refine hK _ _ ?_; clear hK K)
      refine via ?_
      ((first | refine qc1 rfl rfl fun K hK => ?_ | refine qc3 rfl rfl fun K hK => ?_); simp (disch := (first | omega | (simp only [sz] <;> omega) | fail)) only [go_sem]; refine ⟨_, _, rWord_rU (i := B.headD 0) (v := 0) (m := true) _ hhB (by omega), ?_⟩; (try simp only [go_sem]); with_reducible refine hK _ _ ?_; clear hK K)
      refine via ?_
      ((first | refine qp1 rfl rfl fun K hK => ?_ | refine qp3 rfl rfl fun K hK => ?_); simp (disch := (first | omega | (simp only [sz] <;> omega) | fail)) only [go_sem]; refine ⟨_, _, .store _ (rU (B.headD 0) true 0) (acc_p hp hm) (acc_m hp hm) (by omega), ?_⟩; (try simp only [go_sem]); with_reducible refine hK _ _ ?_; clear hK K)
      rw [acc_acc hne]
      refine via ?_
      obtain ⟨v2, S2, ⟨rfl, st2, ws2, W2, Kp, F2, vr2, hst2, rfl, hR⟩, hd2⟩ := retire_does (accS S p m me (st + 8 + 1 + 1 + 1) (wS 2 (gat N T 17 ((x - 1 : Nat) : Int)) (rU (B.headD 0) true 0) 0 (wS 2 (gat N T r (n : Int)) (rU (B.headD 0) false 0) 0 ws1)) bs) p m me (st + 8 + 1 + 1 + 1) _ bs N T x (acc_p hp hm) (acc_m hp hm) (by omega) hN1 hN hT hme hcut.wd hcut.pl hS1.glen (by omega) hx.1 hx.2 hxo
      rw [acc_acc hne] at hd2
      obtain ⟨hS2, hvr, hw52, h132, h172⟩ := hS1.pret hi hme hT hL1 hcut hR
      rw [upG_up] at hS2
      ((first | refine qc1 rfl rfl fun K hK => ?_ | refine qc3 rfl rfl fun K hK => ?_); simp (disch := (first | omega | (simp only [sz] <;> omega) | fail)) only [go_sem]; refine ⟨_, _, hd2, ?_⟩; (try simp only [go_sem]); with_reducible refine hK _ _ ?_; clear hK K)
      refine via ?_
      ((first | refine qp1 rfl rfl fun K hK => ?_ | refine qp3 rfl rfl fun K hK => ?_); simp (disch := (first | omega | (simp only [sz] <;> omega) | fail)) only [go_sem]; refine ⟨_, _, .load _ (acc_p hp hm) (acc_m hp hm) (by omega), ?_⟩; (try simp only [go_sem]); with_reducible refine hK _ _ ?_; clear hK K)
      rw [load_same, hS2.wd.tells (r := r) hrn.2 hrn.1, AtW.tells hS2.bg hi upG_eq ha, acc_acc hne]
      refine via ?_
      ((first | refine qc1 rfl rfl fun K hK => ?_ | refine qc3 rfl rfl fun K hK => ?_); simp (disch := (first | omega | (simp only [sz] <;> omega) | fail)) only [go_sem]; refine ⟨_, _, refOf_rU _ hhB (by omega), ?_⟩; (try simp only [go_sem]); with_reducible refine hK _ _ ?_; clear hK K)
      unfold refV
      refine via ?_
      exact ih _ _ _ _ (by simp) ⟨P ++ [x], B, K, st2 + 1, r, n, ws2, W2, F2, vr2, _, rfl, by rw [hPB, List.append_assoc]; rfl, by rw [List.filter_append, ← hK]; simp [bareB_t hk], ha, by rw [List.length_append, List.length_singleton]; omega, by rw [List.length_append, List.length_singleton]; omega, hS2, fun n => (hw52 n).trans (hcut5 n), rfl, rfl, rfl, rfl, rfl, rfl, rfl, rfl⟩
end Go.Proofs.Ytjdbknnacaacaaa
namespace Go.Proofs.Ytjdbknnacaacaaa
open Go Go.RowKit
set_option linter.unusedSimpArgs false
set_option linter.unusedVariables false
def rowOK (q c : Nat) (b : Blk) : Prop := b.ro = false ∧ ∀ u ∈ b.cells, Clo (Kn q c) u
theorem rowOK_plain {q c : Nat} {b : Blk} (hr : b.ro = false) (h : ∀ u ∈ b.cells, plainB u = true) : rowOK q c b := ⟨hr, fun u hu => Clo.plain (h u hu)⟩
open Classical in
noncomputable def cleanL (q c : Nat) (l : List (Option Blk)) : List (Option Blk) := l.map fun ob => ob.bind fun b => if rowOK q c b then some b else none
theorem cleanL_len (q c : Nat) (l : List (Option Blk)) : (cleanL q c l).length = l.length := by simp [cleanL]
theorem cleanL_get {q c n : Nat} {l : List (Option Blk)} {b : Blk} (h : l[n]? = some (some b)) (hb : rowOK q c b) : (cleanL q c l)[n]? = some (some b) := by
  unfold cleanL
  rw [List.getElem?_map, h]
  simp [hb]
theorem cleanL_ok {q c n : Nat} {l : List (Option Blk)} {b : Blk} (h : (cleanL q c l)[n]? = some (some b)) : rowOK q c b ∧ l[n]? = some (some b) := by
  unfold cleanL at h
  rw [List.getElem?_map] at h
  cases ho : l[n]? with
  | none => rw [ho] at h; cases h
  | some ob =>
    rw [ho] at h
    cases ob with
    | none => cases h
    | some b0 =>
      simp only [Option.map_some, Option.bind_some, Option.some.injEq] at h
      split at h
      · rename_i hb
        cases h; exact ⟨hb, rfl⟩
      · cases h
section
variable {P : Program} {σ : Type} {X : Face P σ} {fn : Func} {A : Conf σ → Prop} {ops : Array Oper} {k : List Item} {i : Nat} {tmps : List Value} {h : AHeap} {S S' : σ} {o : Oper} {todo : List Item}
theorem Goes.clean {l : List (Option Blk)} {q : Nat} (c : Nat) (hl : l.length ≤ q) (hk : Goes X fn A (.run todo tmps (heapJ (cleanL q c l) q []) S)) : Goes X fn A (.run todo tmps (heapJ l q []) S) := by
  refine .weak (h0 := heapJ (cleanL q c l) q []) (fun n b hb => ?_) rfl hk
  have hn : n < q := by
    apply Nat.lt_of_not_le; intro h2
    obtain ⟨i, rfl⟩ : ∃ i, n = q + i := ⟨n - q, by omega⟩
    rw [gap_hi] at hb; simp at hb
  rw [gap_lo hn] at hb
  have h3 : (cleanL q c l)[n]? = some (some b) := by
    cases ho : (cleanL q c l)[n]? with
    | none => rw [ho] at hb; cases hb
    | some ob => rw [ho] at hb; cases ob with
      | none => cases hb
      | some b0 => cases hb; rfl
  exact ⟨b, by rw [gap_lo hn, (cleanL_ok h3).2]; rfl, rfl, rfl, fun h => h, .inl rfl⟩
def DoesN (X : Face P σ) (f : FuncId) (args : Array Value) (S : σ) (v : Value) (l : List (Option Blk)) (q : Nat) (S' : σ) : Prop :=
  DoesD X f args (heapJ [] 0 []) S v (heapJ l q []) S' ∧ (∀ n b, l[n]? = some (some b) → n < q ∧ rowOK q (X.cnt S') b) ∧ Clo (Kn q (X.cnt S')) v ∧ ∀ u ∈ args.toList, Hand (X.cnt S) u
theorem hand_ren {c : Nat} {E : Emb} {u : Value} (h : Hand c u) (hE : ∀ n, VB ≤ n → E.blk n = n ∧ E.base n = 0 ∧ E.slack n = 0) : ren E u = u := by
  rw [h E (nameE id) fun n hn => ⟨(hE n hn.1).1, (hE n hn.1).2.1, (hE n hn.1).2.2⟩, ren_id]
theorem up_hand {nx n : Nat} (h : VB ≤ n) : (upE [] nx).blk n = n ∧ (upE [] nx).base n = 0 ∧ (upE [] nx).slack n = 0 := by
  have h2 : ¬ n < VB := by omega
  simp [upE, nameE, upN, h2]
theorem up_lo {nx n : Nat} (h : n < VB) : (upE [] nx).blk n = nx + n ∧ (upE [] nx).base n = 0 ∧ (upE [] nx).slack n = 0 := by
  simp [upE, nameE, upN, h]
def newH (h : AHeap) (l : List (Option Blk)) (q : Nat) : AHeap := ⟨fun m => if h.next ≤ m then ((l[m - h.next]?).join).map (renB (upE [] h.next)) else h.get m, h.next + q⟩
theorem call_newr {e : Operand → Value} {f : FuncId} {args : Array Value} {v : Value} {l : List (Option Blk)} {q : Nat} (hca : callA P e o.op = some (f, args)) (hD : DoesN X f args S v l q S') (hlow : h.Low) (hq : q ≤ VB) :
    ∃ g c, CallOK X o e h S (ren (upE [] h.next) v) (newH h l q) S' f g c args (upE [] h.next) (upE [] h.next) (heapJ [] 0 []) (heapJ l q []) (List.range q) v ∧ Goes X g (fun x => x = .done v (heapJ l q []) S') (.run (enterL g c args).1 (enterL g c args).2 (heapJ [] 0 []) S) := by
  obtain ⟨⟨g, c, hf, hg, hb, hrun⟩, hok, hv, hargs⟩ := hD
  have h0 : ∀ n, (heapJ [] 0 []).get n = none := fun n => by
    have := gap_hi (l := []) (q := 0) (l2 := []) (i := n)
    rw [Nat.zero_add] at this; exact this
  have hrow : ∀ n b, (heapJ l q []).get n = some b → n < q ∧ l[n]? = some (some b) := fun n b hb => by
    have hn : n < q := by
      apply Nat.lt_of_not_le; intro h2
      obtain ⟨i, rfl⟩ : ∃ i, n = q + i := ⟨n - q, by omega⟩
      rw [gap_hi] at hb; simp at hb
    refine ⟨hn, ?_⟩
    rw [gap_lo hn] at hb
    cases ho : l[n]? with
    | none => rw [ho] at hb; cases hb
    | some ob => rw [ho] at hb; cases ob with
      | none => cases hb
      | some b0 => cases hb; rfl
  have hK : ∀ n, Kn q (X.cnt S') n → ((∃ b, (heapJ [] 0 []).get n = some b) ∨ n ∈ List.range q ∨ (VB ≤ n ∧ n < VB + X.cnt S')) := fun n hn => by
    rcases hn with hn | hn
    · exact .inr (.inl (List.mem_range.2 hn))
    · exact .inr (.inr hn)
  refine ⟨g, c, ⟨?_, hf, hg, hb, ⟨?_, ?_, ?_, ?_, ?_, ?_⟩, ?_, ⟨?_, ?_, ?_, ?_, rfl, ?_, ?_, ?_, ?_, ?_, List.nodup_range⟩⟩, hrun⟩
  · rw [hca]
    congr 2
    apply Array.ext'
    rw [Array.toList_map]
    refine ((List.map_congr_left fun u hu => ?_).trans (List.map_id _)).symm
    exact hand_ren (hargs u hu) fun n hn => up_hand hn
  · intro n b hb; rw [h0] at hb; cases hb
  · intro n b hb; rw [h0] at hb; cases hb
  · intro n b hb; rw [h0] at hb; cases hb
  · intro n m b c hb; rw [h0] at hb; cases hb
  · show 0 + 0 ≤ VB; unfold VB; omega
  · exact fun n hn => up_hand hn
  · exact fun u hu F F' hs => hargs u hu F F' (hs.mono fun n hn => .inr hn)
  · show h.next + q = _; rw [List.length_range]
  · intro n hn; rw [gap_next] at hn; simp at hn
  · intro j n hj
    have h2 := (List.getElem?_eq_some_iff.1 hj).1
    rw [List.length_range] at h2
    rw [List.getElem?_range h2] at hj
    cases hj
    obtain ⟨k1, k2, k3⟩ := up_lo (nx := h.next) (n := j) (by omega)
    exact ⟨by rw [gap_next]; simp, by omega, k1, k2, k3⟩
  · exact fun n hn => up_hand hn
  · exact fun F F' hs => hv F F' (hs.mono hK)
  · intro n b hb _ u hu
    obtain ⟨k1, k2⟩ := hrow n b hb
    exact fun F F' hs => (hok n b k2).2.2 u hu F F' (hs.mono hK)
  · intro j n hj
    have h2 := (List.getElem?_eq_some_iff.1 hj).1
    rw [List.length_range] at h2
    rw [List.getElem?_range h2] at hj
    cases hj
    show (if h.next ≤ h.next + j then _ else _) = _
    rw [if_pos (by omega), Nat.add_sub_cancel_left, gap_lo h2]
    rfl
  · intro m hm
    refine .inl ⟨?_, fun n b hb => by rw [h0] at hb; cases hb⟩
    show (if h.next ≤ m then _ else _) = _
    rcases hm with hm | hm
    · rw [if_neg (by omega)]
    · have hm : h.next + q ≤ m := hm
      rw [if_pos (by omega)]
      have e1 : h.get m = none := by
        cases hg : h.get m with
        | none => rfl
        | some b => have := hlow _ _ hg; omega
      rw [e1]
      cases ho : l[m - h.next]? with
      | none => rfl
      | some ob => cases ob with
        | none => rfl
        | some b => have := (hok _ _ ho).1; omega
  · intro n b hb _
    exact (hok n b (hrow n b hb).2).2.1
def shN (nx : Nat) (l : List (Option Blk)) (q : Nat) : List (Option Blk) := (List.range q).map fun n => ((l[n]?).join).map (renB (upE [] nx))
theorem shN_len (nx : Nat) (l : List (Option Blk)) (q : Nat) : (shN nx l q).length = q := by simp [shN]
theorem newH_J {l0 ys l : List (Option Blk)} {q0 q : Nat} (hok : ∀ n b, l[n]? = some (some b) → n < q) : newH (heapJ l0 q0 ys) l q = heapJ l0 q0 (ys ++ shN (q0 + ys.length) l q) := by
  refine ah_ext (fun m => ?_) (by show q0 + ys.length + q = _; rw [gap_next, List.length_append, shN_len]; omega)
  show (if (heapJ l0 q0 ys).next ≤ m then _ else _) = _
  rw [gap_next]
  split
  · rename_i hm
    obtain ⟨j, rfl⟩ : ∃ j, m = q0 + j := ⟨m - q0, by omega⟩
    rw [gap_hi, List.getElem?_append_right (by omega), show q0 + j - (q0 + ys.length) = j - ys.length by omega]
    unfold shN
    rw [List.getElem?_map]
    by_cases hq : j - ys.length < q
    · rw [List.getElem?_range hq]; rfl
    · have e9 : (List.range q)[j - ys.length]? = none := List.getElem?_eq_none (by rw [List.length_range]; omega)
      rw [e9]
      cases ho : l[j - ys.length]? with
      | none => rfl
      | some ob => cases ob with
        | none => rfl
        | some b => have := hok _ _ ho; omega
  · rename_i hm
    by_cases hq : m < q0
    · rw [gap_lo hq, gap_lo hq]
    · obtain ⟨j, rfl⟩ : ∃ j, m = q0 + j := ⟨m - q0, by omega⟩
      rw [gap_hi, gap_hi, List.getElem?_append_left (by omega)]
theorem shN_get {l : List (Option Blk)} {nx q n : Nat} {b : Blk} (h : l[n]? = some (some b)) (hn : n < q) : (shN nx l q)[n]? = some (some (renB (upE [] nx) b)) := by
  unfold shN
  rw [List.getElem?_map, List.getElem?_range hn, Option.map_some, h]; rfl
def FreshAt (l0 ys l : List (Option Blk)) (q0 q : Nat) (lf : List (Option Blk)) : Prop := lf.length = q0 + ys.length + q ∧ Ge l0 lf ∧ (∀ i b, ys[i]? = some (some b) → lf[q0 + i]? = some (some b)) ∧ ∀ n b, l[n]? = some (some b) → lf[q0 + ys.length + n]? = some (some (renB (upE [] (q0 + ys.length)) b))
theorem newH_F {l0 ys l : List (Option Blk)} {q0 q : Nat} (hl : l0.length ≤ q0) (hok : ∀ n b, l[n]? = some (some b) → n < q) : ∃ lf, newH (heapJ l0 q0 ys) l q = heapJ lf (q0 + ys.length + q) [] ∧ FreshAt l0 ys l q0 q lf := by
  refine ⟨_, (newH_J hok).trans ((gap_fold hl).trans ?_), ?_, Ge.fold l0 (ys ++ shN (q0 + ys.length) l q) q0, fun i b hi => ?_, fun n b hn => ?_⟩
  · rw [List.length_append, shN_len, Nat.add_assoc]
  · rw [fold_len hl, List.length_append, shN_len, Nat.add_assoc]
  · rw [fold_at hl, List.getElem?_append_left (List.getElem?_eq_some_iff.1 hi).1]; exact hi
  · rw [show q0 + ys.length + n = q0 + (ys.length + n) by omega, fold_at hl, List.getElem?_append_right (by omega), Nat.add_sub_cancel_left]
    exact shN_get hn (hok n b hn)
variable {l ys : List (Option Blk)} {q : Nat}
theorem qr1 (hl0 : l.length ≤ q) (ho : ops.toList[i]? = some o) (hw : Region.wanted o (yieldedL ops tmps) = true)
    (hk : ∀ K : List Value → List (Option Blk) → Nat → σ → Prop, (∀ t lf q' S', At X fn A ops k (i + 1) t (heapJ lf q' []) S' → K t lf q' S') → CallK (fun f args => ∃ v l1 q1 S1, DoesN X f args S v l1 q1 S1 ∧ q + ys.length + q1 < 1000000000 ∧ ∀ lf, FreshAt l ys l1 q q1 lf → K (putL o.dst (ren (upE [] (q + ys.length)) v) tmps) lf (q + ys.length + q1) S1) (callA P (evA tmps) o.op)) (hb : opOK o.op = true := by rfl) : At X fn A ops k i tmps (heapJ l q ys) S := by
  have hk := hk _ fun _ _ _ _ h => h
  unfold At
  rw [range_at (at_list ho)]
  cases hv : callA P (evA tmps) o.op with
  | none => rw [hv] at hk; exact hk.elim
  | some x =>
    obtain ⟨f, args⟩ := x
    rw [hv] at hk
    obtain ⟨v, l1, q1, S1, hD, hlim, hK⟩ := hk
    obtain ⟨g, c, hC, hrun⟩ := call_newr hv hD (gap_low l q ys) (by unfold VB; omega)
    obtain ⟨lf, e, hF⟩ := newH_F (ys := ys) hl0 (fun n b hb => (hD.2.1 n b hb).1)
    rw [e] at hC
    exact .call f g c args _ _ _ _ _ v (at_list ho) hw (opOK_all hb) hC (.inr (by rw [gap_next]; simp; unfold VB; omega)) hrun (hK lf hF)
variable {W : List Nat} {n0 : Nat} {Kf : List Value → AHeap → σ → Prop} {born : List (Nat × Nat)} {hf : AHeap}
theorem qr3 (hl0 : l.length ≤ q) (ho : ops.toList[i]? = some o) (hw : Region.wanted o (yieldedL ops tmps) = true)
    (hk : ∀ K : List Value → List (Option Blk) → Nat → σ → Prop, (∀ t lf q' S', RGF X W ops n0 hf Kf (i + 1) t (heapJ lf q' []) S' (bornN i (q + ys.length) q' ++ born) → K t lf q' S') → CallK (fun f args => ∃ v l1 q1 S1, DoesN X f args S v l1 q1 S1 ∧ q + ys.length + q1 < 1000000000 ∧ ∀ lf, FreshAt l ys l1 q q1 lf → K (putL o.dst (ren (upE [] (q + ys.length)) v) tmps) lf (q + ys.length + q1) S1) (callA P (evA tmps) o.op)) (hb : opOK o.op = true := by rfl) (hq : wrB W i o = false := by rfl) (hnf : farB W i = false := by rfl) : RGF X W ops n0 hf Kf i tmps (heapJ l q ys) S born := by
  have hk := hk _ fun _ _ _ _ h => h
  cases hv : callA P (evA tmps) o.op with
  | none => rw [hv] at hk; exact hk.elim
  | some x =>
    obtain ⟨f, args⟩ := x
    rw [hv] at hk
    obtain ⟨v, l1, q1, S1, hD, hlim, hK⟩ := hk
    have hlowv : (visH n0 born ((masksFrom ops.toList []).getD i 0) (heapJ l q ys)).Low := by
      intro n b hb
      unfold visH at hb ⊢
      simp only at hb ⊢
      split at hb
      · cases hg : (heapJ l q ys).get n with
        | none => rw [hg] at hb; cases hb
        | some b0 => exact gap_low _ _ _ _ _ hg
      · cases hb
    obtain ⟨g, c, hC, hrun⟩ := call_newr hv hD hlowv (by unfold VB; omega)
    obtain ⟨lf, e, hF⟩ := newH_F (ys := ys) hl0 (fun n b hb => (hD.2.1 n b hb).1)
    have hnx : (visH n0 born ((masksFrom ops.toList []).getD i 0) (heapJ l q ys)).next = q + ys.length := rfl
    rw [hnx] at hC
    refine .call' (h' := heapJ lf (q + ys.length + q1) []) false f g c args _ _ _ _ _ v hnf (at_list ho) hw (opOK_all hb) (.inr (by rw [gap_next]; simp; unfold VB; omega)) ⟨hq, _, hC, ?_⟩ hrun ?_ ?_
    · rw [← e]
      refine ah_ext (fun m => ?_) rfl
      rw [glueH_get, gap_next]
      show _ = if q + ys.length ≤ m then (if m < q + ys.length + q1 then (if q + ys.length ≤ m then _ else _) else none) else _
      show (if q + ys.length ≤ m then _ else _) = _
      split
      · rename_i hm
        split
        · rfl
        · rename_i hm2
          cases ho2 : l1[m - (heapJ l q ys).next]? with
          | none => rfl
          | some ob => cases ob with
            | none => rfl
            | some b =>
              have h9 := (hD.2.1 _ _ ho2).1
              rw [gap_next] at h9
              omega
      · rfl
    · intro n b _ h1 h2
      rw [← e]
      rw [gap_next] at h2
      show (if (heapJ l q ys).next ≤ n then _ else _) = _
      rw [gap_next, if_neg (by omega)]
    · have := hK lf hF
      rw [gap_next, gap_next]
      exact this
end
end Go.Proofs.Ytjdbknnacaacaaa
namespace Go.Proofs.Ytjdbknnacaacaaa
open Go Go.RowKit
set_option linter.unusedSimpArgs false
set_option linter.unusedVariables false
def uvs (xs : List UInt64) : List Int := xs.map fun u => (u.toNat : Int)
def IsU (l : List (Option Blk)) (a : Option Addr) (xs : List UInt64) : Prop := ∃ (n : Nat) (g : Option Nat), a = some ⟨n, 0, none⟩ ∧ l[n]? = some (some ⟨numRow .u64 (uvs xs), 30, false, g⟩)
def rowP (ps : List (Option Addr)) : List Value := ps.map fun p => .slice p 8 8
theorem rowP_len (ps : List (Option Addr)) : (rowP ps).length = ps.length := by simp [rowP]
theorem rowP_app {ps ps' : List (Option Addr)} : rowP ps ++ rowP ps' = rowP (ps ++ ps') := by simp [rowP]
theorem rowP_cellB (ps : List (Option Addr)) : (rowP ps).all cellB = true := by
  rw [List.all_eq_true]; intro v hv
  obtain ⟨x, _, rfl⟩ := List.mem_map.1 hv
  rfl
def IsUU (l : List (Option Blk)) (a : Option Addr) (xss : List (List UInt64)) : Prop :=
  (xss = [] ∧ a = none) ∨ ∃ (n : Nat) (ps : List (Option Addr)), a = some ⟨n, 0, none⟩ ∧ xss ≠ [] ∧ l[n]? = some (some ⟨rowP ps, 116, false, some 1⟩) ∧ ps.length = xss.length ∧ ∀ (j : Nat) (p : Option Addr) (xs : List UInt64), ps[j]? = some p → xss[j]? = some xs → IsU l p xs
theorem set_at' {l : List (Option Blk)} {q n : Nat} {b : Option Blk} {b0 c : Blk} (hq : l[q]? = some (some b0)) (h : l[n]? = some (some c)) (he : b0.elem ≠ c.elem) : (l.set q b)[n]? = some (some c) := by
  have hne : q ≠ n := fun e => by
    subst e; rw [hq] at h; cases h; exact he rfl
  rw [List.getElem?_set_ne hne]; exact h
theorem IsU.ge {l l' : List (Option Blk)} {a : Option Addr} {xs : List UInt64} (h : IsU l a xs) (hg : Ge l l') : IsU l' a xs := by
  obtain ⟨n, g, h1, h2⟩ := h
  exact ⟨n, g, h1, hg _ _ h2⟩
theorem IsU.set {l : List (Option Blk)} {a : Option Addr} {xs : List UInt64} {q : Nat} {b : Option Blk} {b0 : Blk} (h : IsU l a xs) (hq : l[q]? = some (some b0)) (he : b0.elem ≠ 30) : IsU (l.set q b) a xs := by
  obtain ⟨n, g, h1, h2⟩ := h
  exact ⟨n, g, h1, set_at' hq h2 he⟩
theorem appT_u64 : AppT Try.prog 116 30 0 := AppT.of (bs := 8) (z := .int .u64 0) (by simp only [go_sem]) (by simp only [go_sem]) (by simp only [go_sem]) (by simp only [go_sem]) (by simp [plainB, Value.cells])
theorem appT_su : AppT Try.prog 50 116 0 := AppT.of (bs := 24) (z := .slice none 0 0) (by simp only [go_sem]) (by simp only [go_sem]) (by simp only [go_sem]) (by simp only [go_sem]) (by simp [plainB, Value.cells])
theorem scloU {q c n i k : Nat} (h : n < q) : Clo (Kn q c) (.slice (some ⟨n, 0, none⟩) i k) := fun F F' hs => by
  obtain ⟨h1, h2, h3⟩ := hs n (.inl h)
  simp [adr, h1, h2, h3]
theorem IsU.clean {q c : Nat} {l : List (Option Blk)} {a : Option Addr} {xs : List UInt64} (h : IsU l a xs) : IsU (cleanL q c l) a xs := by
  obtain ⟨n, g, rfl, hb⟩ := h
  exact ⟨n, g, rfl, cleanL_get hb (rowOK_plain rfl (fun u hu => numRow_plain u hu))⟩
theorem IsUU.clean {q c : Nat} {l : List (Option Blk)} {a : Option Addr} {xss : List (List UInt64)} (h : IsUU l a xss) (hl : l.length ≤ q) : IsUU (cleanL q c l) a xss := by
  rcases h with h | ⟨n, ps, rfl, hne, hb, hp, hall⟩
  · exact .inl h
  refine .inr ⟨n, ps, rfl, hne, cleanL_get hb ⟨rfl, fun u hu => ?_⟩, hp, fun j p xs h1 h2 => (hall j p xs h1 h2).clean⟩
  obtain ⟨p, hpm, rfl⟩ := List.mem_map.1 hu
  obtain ⟨j, hj⟩ := List.getElem?_of_mem hpm
  have hjl := (List.getElem?_eq_some_iff.1 hj).1
  obtain ⟨n2, g2, rfl, h2⟩ := hall j p _ hj (List.getElem?_eq_getElem (by omega))
  exact scloU (by have := (List.getElem?_eq_some_iff.1 h2).1; omega)
theorem IsUU.app {l l' : List (Option Blk)} {n' : Nat} {ps : List (Option Addr)} {xss : List (List UInt64)} {xs : List UInt64} {a : Option Addr} (hps : ps.length = xss.length) (hall : ∀ (j : Nat) (p : Option Addr) (ys : List UInt64), ps[j]? = some p → xss[j]? = some ys → IsU l p ys) (hg : ∀ p ys, IsU l p ys → IsU l' p ys) (hb : l'[n']? = some (some ⟨rowP (ps ++ [a]), 116, false, some 1⟩)) (ha : IsU l' a xs) : IsUU l' (some ⟨n', 0, none⟩) (xss ++ [xs]) := by
  refine .inr ⟨n', ps ++ [a], rfl, by simp, hb, by simp [hps], fun j p ys hj hy => ?_⟩
  by_cases e : j < ps.length
  · rw [List.getElem?_append_left e] at hj
    rw [List.getElem?_append_left (by omega)] at hy
    exact hg _ _ (hall j p ys hj hy)
  · have hj2 := (List.getElem?_eq_some_iff.1 hj).1
    rw [List.length_append, List.length_singleton] at hj2
    obtain rfl : j = ps.length := by omega
    rw [List.getElem?_append_right (Nat.le_refl _), Nat.sub_self] at hj
    rw [hps, List.getElem?_append_right (Nat.le_refl _), Nat.sub_self] at hy
    simp only [List.getElem?_cons_zero, Option.some.injEq] at hj hy
    rw [← hj, ← hy]; exact ha
def itemsOf (I : Nat → Nat → UInt64) (x : Nat) : List UInt64 := (List.range 8).map (I x)
set_option maxHeartbeats 4000000 in
theorem list_run (S : St) (m : Nat) (ws : List UInt64) (bs : List UInt8) (N T c th : Nat) {W : Nat → Nat → UInt64} {free : List Nat} {ver : Nat} {G L : Nat → List Nat} {I : Nat → Nat → UInt64} (hm : S[m]? = some (.mem ws bs)) (hN1 : 1 ≤ N) (hN : N ≤ 256) (hT : T ≤ 64) (hgM : gM N T ≤ 1000) (hth : th < T) (hc : c < 4) (hS : BS N T ws W free ver G L I) :
    ∃ v hh S1, (S1 = S ∧ ∃ (l' : List (Option Blk)) (q' : Nat) (a : Option Addr), v = .slice a (L (th * 4 + c)).length (L (th * 4 + c)).length ∧ hh = heapJ l' q' [] ∧ l'.length ≤ q' ∧ q' ≤ 40000 ∧ IsUU l' a ((L (th * 4 + c)).map (itemsOf I)) ∧ ∀ (n : Nat) (b : Blk), l'[n]? = some (some b) → rowOK q' S.length b) ∧ DoesD OF 24 #[hndV m, .agg (geoC N T), .int .i64 th, .int .i64 c] (heapJ [] 0 []) S v hh S1 := by
  have hM := gM_lt hN hT
  have hi : th * 4 + c < T * 4 := by omega
  have h13 : th * 4 + c < gsz N T 13 := hi
  have hhd : ∀ {A B : List Nat}, L (th * 4 + c) = A ++ B → B.headD 0 < 16777216 := fun {A B} e => by
    cases B with
    | nil => simp
    | cons x l => have := (hS.rng hi (x := x) (by rw [e]; simp)).2; simp; omega
  have hll : (L (th * 4 + c)).length ≤ gM N T := by
    have := nodup_le (hS.lnd hi) (fun x hx => upto_mem.2 (hS.rng hi hx))
    rwa [upto_len0] at this
  refine DoesD.mk Try.func24 rfl rfl ?_
  rw [Try.ntmps24]; simp only [List.size_toArray, List.length_cons, List.length_nil, List.replicate, List.cons_append, List.nil_append]
  refine via ?_
  ((first | refine qc1 rfl rfl fun K hK => ?_ | refine qc3 rfl rfl fun K hK => ?_); simp (disch := (first | omega | (simp only [sz] <;> omega) | fail)) only [go_sem]; refine ⟨_, _, gHeadN _ N T th c hN hT hth hc, ?_⟩; (try simp only [go_sem]); with_reducible refine hK _ _ ?_; clear hK K)
  refine via ?_
  ((first | refine qp1 rfl rfl fun K hK => ?_ | refine qp3 rfl rfl fun K hK => ?_); simp (disch := (first | omega | (simp only [sz] <;> omega) | fail)) only [go_sem]; refine ⟨_, _, .word _ hm, ?_⟩; (try simp only [go_sem]); with_reducible refine hK _ _ ?_; clear hK K)
  rw [hS.wd.tells (r := 13) (by decide) h13, hS.bg.hd _ hi]
  refine via ?_
  ((first | refine qc1 rfl rfl fun K hK => ?_ | refine qc3 rfl rfl fun K hK => ?_); simp (disch := (first | omega | (simp only [sz] <;> omega) | fail)) only [go_sem]; refine ⟨_, _, refOf_rU _ (hhd (A := []) rfl) (by omega), ?_⟩; (try simp only [go_sem]); with_reducible refine hK _ _ ?_; clear hK K)
  unfold refV
  refine via ?_
  refine Goes.folds (by simp) fun lf hlf hge hrow => ?_
  simp only [List.length_cons, List.length_nil] at hlf
  have hgeo : lf[0]? = _ := hrow 0
  simp only [List.getElem?_cons_zero] at hgeo
  refine Goes.wh (fun z tmps h S' => ∃ (P B : List Nat) (q : Nat) (lf : List (Option Blk)) (ao : Option Addr), z = B.length ∧ L (th * 4 + c) = P ++ B ∧ lf.length ≤ q ∧ 1 ≤ q ∧ q ≤ 1 + 30 * P.length ∧ lf[0]? = some (some { cells := (geoC N T).toList, elem := 24 }) ∧ IsUU lf ao (P.map (itemsOf I)) ∧ S' = S ∧ h = heapJ lf q [] ∧ tmps.length = 55 ∧
      tmps.getD 0 undef = hndV m ∧ tmps.getD 2 undef = .int .i64 th ∧ tmps.getD 3 undef = .int .i64 c ∧ tmps.getD 5 undef = .pointer (some ⟨0, 0, none⟩) ∧ tmps.getD 8 undef = .slice none 0 0 ∧ tmps.getD 9 undef = .slice ao P.length P.length ∧ tmps.getD 10 undef = .int .i64 (B.headD 0 : Nat)) (m := (L (th * 4 + c)).length)
      ⟨[], _, 1, lf, none, rfl, rfl, by omega, by omega, by omega, hgeo, .inl ⟨rfl, rfl⟩, rfl, rfl, rfl, rfl, rfl, rfl, rfl, rfl, rfl, rfl⟩ ?_
  clear hlf hge hrow hgeo
  rintro z tmps h S' ih ⟨P, B, q, lf, ao, rfl, hPB, hlen, hq1, hq2, hgeo, hUU, rfl, rfl, hlt, f0, f2, f3, f5, f8, f9, f10⟩
  have hPl : P.length + B.length = (L (th * 4 + c)).length := by
    have h9 := congrArg List.length hPB
    rw [List.length_append] at h9; omega
  have hq0 : 0 < q := by omega
  have hl0 := (List.getElem?_eq_some_iff.1 hgeo).1
  cases B with
  | nil =>
    simp only [List.headD_nil] at f10
    obtain ⟨V, hV, hT⟩ := frame_lit hlt; replace hT : _ = ([V 0, V 1, V 2, V 3, V 4, V 5, V 6, V 7, V 8, V 9, V 10, V 11, V 12, V 13, V 14, V 15, V 16, V 17, V 18, V 19, V 20, V 21, V 22, V 23, V 24, V 25, V 26, V 27, V 28, V 29, V 30, V 31, V 32, V 33, V 34, V 35, V 36, V 37, V 38, V 39, V 40, V 41, V 42, V 43, V 44, V 45, V 46, V 47, V 48, V 49, V 50, V 51, V 52, V 53, V 54] : List Value) := hT; rw [hV] at f0 f2 f3 f5 f8 f9 f10; subst hT; simp only [f0, f2, f3, f5, f8, f9, f10]; clear hV hlt
    refine via ?_
    refine Goes.clean S'.length hlen ?_
    refine Goes.finD rfl (by simp (disch := (first | omega | (simp only [heapL_next, List.length_cons, List.length_nil, List.size_toArray, geo_len] <;> omega) | fail)) only [go_sem, resA, res1A, Try.results24] <;> rfl) ?_
    rw [List.append_nil] at hPB
    rw [hPB]
    exact ⟨rfl, _, q, ao, rfl, rfl, by rw [cleanL_len]; exact hlen, by omega, hUU.clean hlen, fun n b hb => (cleanL_ok hb).1⟩
  | cons x B =>
    have hx := hS.rng hi (x := x) (by rw [hPB]; simp)
    have hx17 : x - 1 < gsz N T 17 := by show x - 1 < gM N T; omega
    have hch := hS.bg.ch _ hi
    rw [hPB] at hch
    simp only [List.headD_cons] at f10
    obtain ⟨V, hV, hT⟩ := frame_lit hlt; replace hT : _ = ([V 0, V 1, V 2, V 3, V 4, V 5, V 6, V 7, V 8, V 9, V 10, V 11, V 12, V 13, V 14, V 15, V 16, V 17, V 18, V 19, V 20, V 21, V 22, V 23, V 24, V 25, V 26, V 27, V 28, V 29, V 30, V 31, V 32, V 33, V 34, V 35, V 36, V 37, V 38, V 39, V 40, V 41, V 42, V 43, V 44, V 45, V 46, V 47, V 48, V 49, V 50, V 51, V 52, V 53, V 54] : List Value) := hT; rw [hV] at f0 f2 f3 f5 f8 f9 f10; subst hT; simp only [f0, f2, f3, f5, f8, f9, f10]; clear hV hlt
    refine viaF hgeo ?_
    ((first | refine qp1 rfl rfl fun K hK => ?_ | refine qp3 rfl rfl fun K hK => ?_); simp (disch := (first | omega | (simp only [sz] <;> omega) | fail)) only [go_sem]; refine ⟨_, _, qpu fun w => gNodes_any N T w hN1 hN hT, ?_⟩; (try simp only [go_sem]); with_reducible refine hK _ _ ?_; clear hK K)
    have hw0 : wT 1 (gat N T 18 (((x - 1) * 8 : Nat) : Int)) 0 ws = I x 0 := (hS.wd.tells (r := 18) (n := (x - 1) * 8 + 0) (by decide) (by show (x - 1) * 8 + 0 < gM N T * 8; omega)).trans (hS.bg.it x 0 hx.1 hx.2 (by decide))
    have hw1 : wT 1 (gat N T 18 (((x - 1) * 8 + 1 : Nat) : Int)) 0 ws = I x 1 := (hS.wd.tells (r := 18) (n := (x - 1) * 8 + 1) (by decide) (by show (x - 1) * 8 + 1 < gM N T * 8; omega)).trans (hS.bg.it x 1 hx.1 hx.2 (by decide))
    have hw2 : wT 1 (gat N T 18 (((x - 1) * 8 + 2 : Nat) : Int)) 0 ws = I x 2 := (hS.wd.tells (r := 18) (n := (x - 1) * 8 + 2) (by decide) (by show (x - 1) * 8 + 2 < gM N T * 8; omega)).trans (hS.bg.it x 2 hx.1 hx.2 (by decide))
    have hw3 : wT 1 (gat N T 18 (((x - 1) * 8 + 3 : Nat) : Int)) 0 ws = I x 3 := (hS.wd.tells (r := 18) (n := (x - 1) * 8 + 3) (by decide) (by show (x - 1) * 8 + 3 < gM N T * 8; omega)).trans (hS.bg.it x 3 hx.1 hx.2 (by decide))
    have hw4 : wT 1 (gat N T 18 (((x - 1) * 8 + 4 : Nat) : Int)) 0 ws = I x 4 := (hS.wd.tells (r := 18) (n := (x - 1) * 8 + 4) (by decide) (by show (x - 1) * 8 + 4 < gM N T * 8; omega)).trans (hS.bg.it x 4 hx.1 hx.2 (by decide))
    have hw5 : wT 1 (gat N T 18 (((x - 1) * 8 + 5 : Nat) : Int)) 0 ws = I x 5 := (hS.wd.tells (r := 18) (n := (x - 1) * 8 + 5) (by decide) (by show (x - 1) * 8 + 5 < gM N T * 8; omega)).trans (hS.bg.it x 5 hx.1 hx.2 (by decide))
    have hw6 : wT 1 (gat N T 18 (((x - 1) * 8 + 6 : Nat) : Int)) 0 ws = I x 6 := (hS.wd.tells (r := 18) (n := (x - 1) * 8 + 6) (by decide) (by show (x - 1) * 8 + 6 < gM N T * 8; omega)).trans (hS.bg.it x 6 hx.1 hx.2 (by decide))
    have hw7 : wT 1 (gat N T 18 (((x - 1) * 8 + 7 : Nat) : Int)) 0 ws = I x 7 := (hS.wd.tells (r := 18) (n := (x - 1) * 8 + 7) (by decide) (by show (x - 1) * 8 + 7 < gM N T * 8; omega)).trans (hS.bg.it x 7 hx.1 hx.2 (by decide))
    refine viaLF hgeo ?_
    ((first | refine qc1 rfl rfl fun K hK => ?_ | refine qc3 rfl rfl fun K hK => ?_); simp (disch := (first | omega | (simp only [sz] <;> omega) | fail)) only [go_sem]; refine ⟨_, _, gItemN _ N T x 0 hN hT hx.1 hx.2 (by decide), ?_⟩; (try simp only [go_sem]); with_reducible refine hK _ _ ?_; clear hK K)
    refine via ?_
    ((first | refine qp1 rfl rfl fun K hK => ?_ | refine qp3 rfl rfl fun K hK => ?_); simp (disch := (first | omega | (simp only [sz] <;> omega) | fail)) only [go_sem]; refine ⟨_, _, .word _ hm, ?_⟩; (try simp only [go_sem]); with_reducible refine hK _ _ ?_; clear hK K)
    rw [hw0]
    refine via ?_
    (refine At.appE rfl rfl rfl rfl (app_nil_new appT_u64 (cells_gap 0 rfl rfl (by decide)) (by decide) (by decide)) (by simp (disch := (first | omega | (simp only [sz] <;> omega) | fail)) only [go_sem]; (try simp only [sz]); unfold VB; omega) fun K hK => ?_; simp (disch := (first | omega | (simp only [sz] <;> omega) | fail)) only [go_sem]; with_reducible refine hK _ _ ?_; clear hK K)
    refine viaLF hgeo ?_
    ((first | refine qc1 rfl rfl fun K hK => ?_ | refine qc3 rfl rfl fun K hK => ?_); simp (disch := (first | omega | (simp only [sz] <;> omega) | fail)) only [go_sem]; refine ⟨_, _, gItemN _ N T x 1 hN hT hx.1 hx.2 (by decide), ?_⟩; (try simp only [go_sem]); with_reducible refine hK _ _ ?_; clear hK K)
    refine via ?_
    ((first | refine qp1 rfl rfl fun K hK => ?_ | refine qp3 rfl rfl fun K hK => ?_); simp (disch := (first | omega | (simp only [sz] <;> omega) | fail)) only [go_sem]; refine ⟨_, _, .word _ hm, ?_⟩; (try simp only [go_sem]); with_reducible refine hK _ _ ?_; clear hK K)
    rw [hw1]
    refine via ?_
    (refine At.appE rfl rfl rfl rfl (app_grow appT_u64 (gap_hi (i := 1)) rfl rfl rfl (cells_gap 2 rfl rfl (by decide)) rfl (by decide) (by decide)) (by simp (disch := (first | omega | (simp only [sz] <;> omega) | fail)) only [go_sem]; (try simp only [sz]); unfold VB; omega) fun K hK => ?_; simp (disch := (first | omega | (simp only [sz] <;> omega) | fail)) only [go_sem]; with_reducible refine hK _ _ ?_; clear hK K)
    refine viaLF hgeo ?_
    ((first | refine qc1 rfl rfl fun K hK => ?_ | refine qc3 rfl rfl fun K hK => ?_); simp (disch := (first | omega | (simp only [sz] <;> omega) | fail)) only [go_sem]; refine ⟨_, _, gItemN _ N T x 2 hN hT hx.1 hx.2 (by decide), ?_⟩; (try simp only [go_sem]); with_reducible refine hK _ _ ?_; clear hK K)
    refine via ?_
    ((first | refine qp1 rfl rfl fun K hK => ?_ | refine qp3 rfl rfl fun K hK => ?_); simp (disch := (first | omega | (simp only [sz] <;> omega) | fail)) only [go_sem]; refine ⟨_, _, .word _ hm, ?_⟩; (try simp only [go_sem]); with_reducible refine hK _ _ ?_; clear hK K)
    rw [hw2]
    refine via ?_
    (refine At.appE rfl rfl rfl rfl (app_grow appT_u64 (gap_hi (i := 3)) rfl rfl rfl (cells_gap 4 rfl rfl (by decide)) rfl (by decide) (by decide)) (by simp (disch := (first | omega | (simp only [sz] <;> omega) | fail)) only [go_sem]; (try simp only [sz]); unfold VB; omega) fun K hK => ?_; simp (disch := (first | omega | (simp only [sz] <;> omega) | fail)) only [go_sem]; with_reducible refine hK _ _ ?_; clear hK K)
    refine viaLF hgeo ?_
    ((first | refine qc1 rfl rfl fun K hK => ?_ | refine qc3 rfl rfl fun K hK => ?_); simp (disch := (first | omega | (simp only [sz] <;> omega) | fail)) only [go_sem]; refine ⟨_, _, gItemN _ N T x 3 hN hT hx.1 hx.2 (by decide), ?_⟩; (try simp only [go_sem]); with_reducible refine hK _ _ ?_; clear hK K)
    refine via ?_
    ((first | refine qp1 rfl rfl fun K hK => ?_ | refine qp3 rfl rfl fun K hK => ?_); simp (disch := (first | omega | (simp only [sz] <;> omega) | fail)) only [go_sem]; refine ⟨_, _, .word _ hm, ?_⟩; (try simp only [go_sem]); with_reducible refine hK _ _ ?_; clear hK K)
    rw [hw3]
    refine via ?_
    (refine At.appE rfl rfl rfl rfl (app_grow appT_u64 (gap_hi (i := 5)) rfl rfl rfl (cells_gap 6 rfl rfl (by decide)) rfl (by decide) (by decide)) (by simp (disch := (first | omega | (simp only [sz] <;> omega) | fail)) only [go_sem]; (try simp only [sz]); unfold VB; omega) fun K hK => ?_; simp (disch := (first | omega | (simp only [sz] <;> omega) | fail)) only [go_sem]; with_reducible refine hK _ _ ?_; clear hK K)
    refine viaLF hgeo ?_
    ((first | refine qc1 rfl rfl fun K hK => ?_ | refine qc3 rfl rfl fun K hK => ?_); simp (disch := (first | omega | (simp only [sz] <;> omega) | fail)) only [go_sem]; refine ⟨_, _, gItemN _ N T x 4 hN hT hx.1 hx.2 (by decide), ?_⟩; (try simp only [go_sem]); with_reducible refine hK _ _ ?_; clear hK K)
    refine via ?_
    ((first | refine qp1 rfl rfl fun K hK => ?_ | refine qp3 rfl rfl fun K hK => ?_); simp (disch := (first | omega | (simp only [sz] <;> omega) | fail)) only [go_sem]; refine ⟨_, _, .word _ hm, ?_⟩; (try simp only [go_sem]); with_reducible refine hK _ _ ?_; clear hK K)
    rw [hw4]
    refine via ?_
    (refine At.appE rfl rfl rfl rfl (app_grow appT_u64 (gap_hi (i := 7)) rfl rfl rfl (cells_gap 8 rfl rfl (by decide)) rfl (by decide) (by decide)) (by simp (disch := (first | omega | (simp only [sz] <;> omega) | fail)) only [go_sem]; (try simp only [sz]); unfold VB; omega) fun K hK => ?_; simp (disch := (first | omega | (simp only [sz] <;> omega) | fail)) only [go_sem]; with_reducible refine hK _ _ ?_; clear hK K)
    refine viaLF hgeo ?_
    ((first | refine qc1 rfl rfl fun K hK => ?_ | refine qc3 rfl rfl fun K hK => ?_); simp (disch := (first | omega | (simp only [sz] <;> omega) | fail)) only [go_sem]; refine ⟨_, _, gItemN _ N T x 5 hN hT hx.1 hx.2 (by decide), ?_⟩; (try simp only [go_sem]); with_reducible refine hK _ _ ?_; clear hK K)
    refine via ?_
    ((first | refine qp1 rfl rfl fun K hK => ?_ | refine qp3 rfl rfl fun K hK => ?_); simp (disch := (first | omega | (simp only [sz] <;> omega) | fail)) only [go_sem]; refine ⟨_, _, .word _ hm, ?_⟩; (try simp only [go_sem]); with_reducible refine hK _ _ ?_; clear hK K)
    rw [hw5]
    refine via ?_
    (refine At.appE rfl rfl rfl rfl (app_grow appT_u64 (gap_hi (i := 9)) rfl rfl rfl (cells_gap 10 rfl rfl (by decide)) rfl (by decide) (by decide)) (by simp (disch := (first | omega | (simp only [sz] <;> omega) | fail)) only [go_sem]; (try simp only [sz]); unfold VB; omega) fun K hK => ?_; simp (disch := (first | omega | (simp only [sz] <;> omega) | fail)) only [go_sem]; with_reducible refine hK _ _ ?_; clear hK K)
    refine viaLF hgeo ?_
    ((first | refine qc1 rfl rfl fun K hK => ?_ | refine qc3 rfl rfl fun K hK => ?_); simp (disch := (first | omega | (simp only [sz] <;> omega) | fail)) only [go_sem]; refine ⟨_, _, gItemN _ N T x 6 hN hT hx.1 hx.2 (by decide), ?_⟩; (try simp only [go_sem]); with_reducible refine hK _ _ ?_; clear hK K)
    refine via ?_
    ((first | refine qp1 rfl rfl fun K hK => ?_ | refine qp3 rfl rfl fun K hK => ?_); simp (disch := (first | omega | (simp only [sz] <;> omega) | fail)) only [go_sem]; refine ⟨_, _, .word _ hm, ?_⟩; (try simp only [go_sem]); with_reducible refine hK _ _ ?_; clear hK K)
    rw [hw6]
    refine via ?_
    (refine At.appE rfl rfl rfl rfl (app_grow appT_u64 (gap_hi (i := 11)) rfl rfl rfl (cells_gap 12 rfl rfl (by decide)) rfl (by decide) (by decide)) (by simp (disch := (first | omega | (simp only [sz] <;> omega) | fail)) only [go_sem]; (try simp only [sz]); unfold VB; omega) fun K hK => ?_; simp (disch := (first | omega | (simp only [sz] <;> omega) | fail)) only [go_sem]; with_reducible refine hK _ _ ?_; clear hK K)
    refine viaLF hgeo ?_
    ((first | refine qc1 rfl rfl fun K hK => ?_ | refine qc3 rfl rfl fun K hK => ?_); simp (disch := (first | omega | (simp only [sz] <;> omega) | fail)) only [go_sem]; refine ⟨_, _, gItemN _ N T x 7 hN hT hx.1 hx.2 (by decide), ?_⟩; (try simp only [go_sem]); with_reducible refine hK _ _ ?_; clear hK K)
    refine via ?_
    ((first | refine qp1 rfl rfl fun K hK => ?_ | refine qp3 rfl rfl fun K hK => ?_); simp (disch := (first | omega | (simp only [sz] <;> omega) | fail)) only [go_sem]; refine ⟨_, _, .word _ hm, ?_⟩; (try simp only [go_sem]); with_reducible refine hK _ _ ?_; clear hK K)
    rw [hw7]
    refine via ?_
    (refine At.appE rfl rfl rfl rfl (app_grow appT_u64 (gap_hi (i := 13)) rfl rfl rfl (cells_gap 14 rfl rfl (by decide)) rfl (by decide) (by decide)) (by simp (disch := (first | omega | (simp only [sz] <;> omega) | fail)) only [go_sem]; (try simp only [sz]); unfold VB; omega) fun K hK => ?_; simp (disch := (first | omega | (simp only [sz] <;> omega) | fail)) only [go_sem]; with_reducible refine hK _ _ ?_; clear hK K)
    refine viaL ?_
    rcases hUU with ⟨h0, rfl⟩ | ⟨n, ps, rfl, hne, hb, hps, hall⟩
    · obtain rfl : P = [] := List.map_eq_nil_iff.1 h0
      have hq3 : q ≤ 1 := hq2
      (refine At.appE rfl rfl rfl rfl (app_nil_new appT_su (cells_gap 16 rfl rfl (by decide)) (by decide) (by decide)) (by simp (disch := (first | omega | (simp only [sz] <;> omega) | fail)) only [go_sem]; (try simp only [sz]); unfold VB; omega) fun K hK => ?_; simp (disch := (first | omega | (simp only [sz] <;> omega) | fail)) only [go_sem]; with_reducible refine hK _ _ ?_; clear hK K)
      refine viaF hgeo ?_
      ((first | refine qc1 rfl rfl fun K hK => ?_ | refine qc3 rfl rfl fun K hK => ?_); simp (disch := (first | omega | (simp only [sz] <;> omega) | fail)) only [go_sem]; refine ⟨_, _, gNextN _ N T x hN hT hx.1 hx.2, ?_⟩; (try simp only [go_sem]); with_reducible refine hK _ _ ?_; clear hK K)
      refine via ?_
      ((first | refine qp1 rfl rfl fun K hK => ?_ | refine qp3 rfl rfl fun K hK => ?_); simp (disch := (first | omega | (simp only [sz] <;> omega) | fail)) only [go_sem]; refine ⟨_, _, .word _ hm, ?_⟩; (try simp only [go_sem]); with_reducible refine hK _ _ ?_; clear hK K)
      rw [hS.wd.tells (r := 17) (by decide) hx17, hch.at]
      refine via ?_
      ((first | refine qc1 rfl rfl fun K hK => ?_ | refine qc3 rfl rfl fun K hK => ?_); simp (disch := (first | omega | (simp only [sz] <;> omega) | fail)) only [go_sem]; refine ⟨_, _, refOf_rU _ (hhd (A := [x]) (B := B) (by rw [hPB]; rfl)) (by omega), ?_⟩; (try simp only [go_sem]); with_reducible refine hK _ _ ?_; clear hK K)
      unfold refV
      refine via ?_
      refine Goes.folds hlen fun l3 hl3 hge3 hrow3 => ?_
      simp only [List.length_cons, List.length_nil] at hl3
      have hit : IsU l3 (some ⟨q + 15, 0, none⟩) (itemsOf I x) := ⟨q + 15, some 1, rfl, (hrow3 15).trans rfl⟩
      refine ih _ _ _ _ (by simp) ⟨[x], B, _, l3, some ⟨q + 17, 0, none⟩, rfl, by rw [hPB]; rfl, by simp only [List.length_cons, List.length_nil]; omega, by simp only [List.length_cons, List.length_nil]; omega, by simp only [List.length_cons, List.length_nil]; omega, hge3 _ _ hgeo, ?_, rfl, rfl, rfl, rfl, rfl, rfl, rfl, rfl, rfl, rfl⟩
      exact IsUU.app (l := l3) (ps := []) (xss := []) rfl (fun j p ys hj => by simp at hj) (fun _ _ h => h) ((hrow3 17).trans rfl) hit
    · have hnl := (List.getElem?_eq_some_iff.1 hb).1
      have hpl : ps.length = P.length := by rw [hps, List.length_map]
      have hkg : ∀ ys, (heapJ lf q ys).get n = some ⟨rowP ps, 116, false, some 1⟩ := fun ys => by
        rw [gap_lo (by omega), hb]; rfl
      (refine At.appE rfl rfl rfl rfl (app_grow appT_su (hkg _) rfl rfl (by rw [rowP_len]; omega) (cells_gap 16 rfl rfl (by decide)) rfl (by decide) (by omega)) (by simp (disch := (first | omega | (simp only [sz] <;> omega) | fail)) only [go_sem]; (try simp only [sz]); unfold VB; omega) fun K hK => ?_; simp (disch := (first | omega | (simp only [sz] <;> omega) | fail)) only [go_sem]; with_reducible refine hK _ _ ?_; clear hK K)
      have hgeo2 : (lf.set n none)[0]? = some (some { cells := (geoC N T).toList, elem := 24 }) := set_at' hb hgeo (by simp)
      refine At.named fun l2 hl2 => ?_
      rw [← hl2] at hgeo2
      have hn2 := named_len hl2
      refine viaF hgeo2 ?_
      ((first | refine qc1 rfl rfl fun K hK => ?_ | refine qc3 rfl rfl fun K hK => ?_); simp (disch := (first | omega | (simp only [sz] <;> omega) | fail)) only [go_sem]; refine ⟨_, _, gNextN _ N T x hN hT hx.1 hx.2, ?_⟩; (try simp only [go_sem]); with_reducible refine hK _ _ ?_; clear hK K)
      refine via ?_
      ((first | refine qp1 rfl rfl fun K hK => ?_ | refine qp3 rfl rfl fun K hK => ?_); simp (disch := (first | omega | (simp only [sz] <;> omega) | fail)) only [go_sem]; refine ⟨_, _, .word _ hm, ?_⟩; (try simp only [go_sem]); with_reducible refine hK _ _ ?_; clear hK K)
      rw [hS.wd.tells (r := 17) (by decide) hx17, hch.at]
      refine via ?_
      ((first | refine qc1 rfl rfl fun K hK => ?_ | refine qc3 rfl rfl fun K hK => ?_); simp (disch := (first | omega | (simp only [sz] <;> omega) | fail)) only [go_sem]; refine ⟨_, _, refOf_rU _ (hhd (A := P ++ [x]) (B := B) (by rw [hPB, List.append_assoc]; rfl)) (by omega), ?_⟩; (try simp only [go_sem]); with_reducible refine hK _ _ ?_; clear hK K)
      unfold refV
      refine via ?_
      refine Goes.folds (by omega) fun l3 hl3 hge3 hrow3 => ?_
      simp only [List.length_cons, List.length_nil] at hl3
      have hit : IsU l3 (some ⟨q + 15, 0, none⟩) (itemsOf I x) := ⟨q + 15, some 1, rfl, (hrow3 15).trans rfl⟩
      refine ih _ _ _ _ (by simp) ⟨P ++ [x], B, _, l3, some ⟨q + 17, 0, none⟩, rfl, by rw [hPB, List.append_assoc]; rfl, by simp only [List.length_cons, List.length_nil]; omega, by simp only [List.length_cons, List.length_nil]; omega, by simp only [List.length_cons, List.length_nil, List.length_append]; omega, hge3 _ _ hgeo2, ?_, rfl, rfl, rfl, rfl, rfl, rfl, rfl, rfl, by rw [List.length_append]; rfl, rfl⟩
      rw [List.map_append]
      exact IsUU.app hps hall (fun p ys h => ((h.set hb (by simp)).ge (by rw [← hl2]; exact hge3))) (by rw [← rowP_app]; exact (hrow3 17).trans rfl) hit
theorem list_fresh (S : St) (m : Nat) (ws : List UInt64) (bs : List UInt8) (N T c th : Nat) {W : Nat → Nat → UInt64} {free : List Nat} {ver : Nat} {G L : Nat → List Nat} {I : Nat → Nat → UInt64} (hm : S[m]? = some (.mem ws bs)) (hN1 : 1 ≤ N) (hN : N ≤ 256) (hT : T ≤ 64) (hgM : gM N T ≤ 1000) (hth : th < T) (hc : c < 4) (hS : BS N T ws W free ver G L I) :
    ∃ (l : List (Option Blk)) (q : Nat) (a : Option Addr), l.length ≤ q ∧ q ≤ 40000 ∧ IsUU l a ((L (th * 4 + c)).map (itemsOf I)) ∧ DoesN OF 24 #[hndV m, .agg (geoC N T), .int .i64 th, .int .i64 c] S (.slice a (L (th * 4 + c)).length (L (th * 4 + c)).length) l q S := by
  obtain ⟨v, hh, S1, ⟨rfl, l, q, a, rfl, rfl, hl, hq, hU, hok⟩, hd⟩ := list_run S m ws bs N T c th hm hN1 hN hT hgM hth hc hS
  refine ⟨l, q, a, hl, hq, hU, hd, fun n b hb => ⟨by have := (List.getElem?_eq_some_iff.1 hb).1; omega, hok n b hb⟩, ?_, ?_⟩
  · rcases hU with ⟨_, rfl⟩ | ⟨n, ps, rfl, _, hb, _⟩
    · exact Clo.plain rfl
    · exact scloU (by have := (List.getElem?_eq_some_iff.1 hb).1; omega)
  · simp only [List.mem_cons, List.not_mem_nil, or_false]
    rintro u (rfl | rfl | rfl | rfl)
    · exact hhand (List.getElem?_eq_some_iff.1 hm).1
    · exact Hand.plain (geo_plain _ _)
    · exact Hand.plain rfl
    · exact Hand.plain rfl
end Go.Proofs.Ytjdbknnacaacaaa
namespace Go.Proofs.Ytjdbknnacaacaaa
open Go Go.RowKit
set_option linter.unusedSimpArgs false
set_option linter.unusedVariables false
def cN (n : Nat) (f : Nat → Bool) : Nat := ((List.range n).filter f).length
theorem cN_succ (n : Nat) (f : Nat → Bool) : cN (n + 1) f = cN n f + (if f n then 1 else 0) := by
  unfold cN
  rw [List.range_succ, List.filter_append, List.length_append]
  cases h : f n <;> simp [h]
theorem cN_congr {f g : Nat → Bool} : ∀ {n : Nat}, (∀ j, j < n → f j = g j) → cN n f = cN n g
  | 0, _ => rfl
  | n + 1, h => by rw [cN_succ, cN_succ, cN_congr (n := n) fun j hj => h j (by omega), h n (by omega)]
theorem cN_one {f g : Nat → Bool} {k : Nat} (h : ∀ j, j ≠ k → f j = g j) (h1 : f k = false) (h2 : g k = true) : ∀ {n : Nat}, k < n → cN n g = cN n f + 1
  | 0, hk => by omega
  | n + 1, hk => by
    rw [cN_succ, cN_succ]
    by_cases e : k = n
    · subst e
      rw [h1, h2, cN_congr (f := f) (g := g) fun j hj => h j (by omega)]; rfl
    · rw [cN_one h h1 h2 (n := n) (by omega), h n (fun e2 => e e2.symm)]; omega
theorem cN_all {f : Nat → Bool} : ∀ {n : Nat}, (∀ j, j < n → f j = true) → cN n f = n
  | 0, _ => rfl
  | n + 1, h => by rw [cN_succ, cN_all (n := n) fun j hj => h j (by omega), h n (by omega)]; rfl
theorem cN_none {f : Nat → Bool} : ∀ {n : Nat}, (∀ j, j < n → f j = false) → cN n f = 0
  | 0, _ => rfl
  | n + 1, h => by rw [cN_succ, cN_none (n := n) fun j hj => h j (by omega), h n (by omega)]; rfl
def cntI (I : Nat → Nat → UInt64) (x : Nat) : Nat := cN 8 fun k => I x k != 0
def totI (I : Nat → Nat → UInt64) (l : List Nat) : Nat := (l.map (cntI I)).sum
section
variable {I I' : Nat → Nat → UInt64} {x y k : Nat} {v : UInt64} {A B l : List Nat}
theorem totI_app : totI I (A ++ B) = totI I A + totI I B := by simp [totI]
theorem totI_cons : totI I (x :: B) = cntI I x + totI I B := by simp [totI]
theorem totI_congr : ∀ {l : List Nat}, (∀ z ∈ l, cntI I' z = cntI I z) → totI I' l = totI I l
  | [], _ => rfl
  | x :: l, h => by rw [totI_cons, totI_cons, h x (by simp), totI_congr (l := l) fun z hz => h z (by simp [hz])]
theorem cnt_ne (h : y ≠ x) : cntI (upI I x k v) y = cntI I y := cN_congr fun j _ => by rw [upI_x h]
theorem cnt_put (hk : k < 8) (h0 : I x k = 0) (hv : v ≠ 0) : cntI (upI I x k v) x = cntI I x + 1 := by
  refine cN_one (k := k) (fun j hj => ?_) ?_ ?_ hk
  · show (I x j != 0) = (upI I x k v x j != 0)
    rw [upI_k hj]
  · show (I x k != 0) = false
    rw [h0]; rfl
  · show (upI I x k v x k != 0) = true
    rw [upI_eq]; simpa using hv
theorem cnt_take (hk : k < 8) (h0 : I x k ≠ 0) : cntI (upI I x k 0) x + 1 = cntI I x := by
  refine (cN_one (k := k) (fun j hj => ?_) ?_ ?_ hk).symm
  · show (upI I x k 0 x j != 0) = (I x j != 0)
    rw [upI_k hj]
  · show (upI I x k 0 x k != 0) = false
    rw [upI_eq]; rfl
  · show (I x k != 0) = true
    simpa using h0
theorem cnt_full (h : Full I x) : cntI I x = 8 := cN_all fun j hj => by simpa using h j hj
theorem cnt_bare (h : Bare I x) : cntI I x = 0 := cN_none fun j hj => by rw [h j hj]; rfl
theorem cnt_new (hv : v ≠ 0) : cntI (newI I y v) y = 1 := by
  have h : cntI (newI I y v) y = cN 8 (fun _ => false) + 1 := by
    refine cN_one (k := 0) (fun j hj => ?_) rfl ?_ (by decide)
    · show false = (newI I y v y j != 0)
      unfold newI; simp [hj]
    · show (newI I y v y 0 != 0) = true
      unfold newI; simpa using hv
  rw [h, cN_none fun _ _ => rfl]
theorem cnt_newne (h : x ≠ y) : cntI (newI I y v) x = cntI I x := cN_congr fun j _ => by unfold newI; rw [if_neg h]
theorem bare_of (h : bareB I x = true) : Bare I x := fun k hk => beq_iff_eq.1 (List.all_eq_true.1 h k (List.mem_range.2 hk))
theorem totI_prune : ∀ {l : List Nat}, totI I (l.filter fun x => !bareB I x) = totI I l
  | [] => rfl
  | x :: l => by
    rw [List.filter_cons, totI_cons]
    cases h : bareB I x
    · simp only [Bool.not_false, if_true]; rw [totI_cons, totI_prune (l := l)]
    · simp only [Bool.not_true, Bool.false_eq_true, if_false]; rw [totI_prune (l := l), cnt_bare (bare_of h)]; omega
theorem totI_full : ∀ {l : List Nat}, (∀ z ∈ l, Full I z) → totI I l = 8 * l.length
  | [], _ => rfl
  | x :: l, h => by rw [totI_cons, cnt_full (h x (by simp)), totI_full (l := l) fun z hz => h z (by simp [hz]), List.length_cons]; omega
theorem totI_bare : ∀ {l : List Nat}, (∀ z ∈ l, Bare I z) → totI I l = 0
  | [], _ => rfl
  | x :: l, h => by rw [totI_cons, cnt_bare (h x (by simp)), totI_bare (l := l) fun z hz => h z (by simp [hz])]
theorem totI_one (hn : (A ++ x :: B).Nodup) (h : ∀ z, z ≠ x → cntI I' z = cntI I z) : totI I' (A ++ x :: B) + cntI I x = totI I (A ++ x :: B) + cntI I' x := by
  rw [totI_app, totI_cons, totI_app, totI_cons]
  have hA : totI I' A = totI I A := totI_congr fun z hz => h z fun e => (List.nodup_append.1 hn).2.2 z hz x (by simp) e
  have hB : totI I' B = totI I B := totI_congr fun z hz => h z fun e => (List.nodup_cons.1 (List.nodup_append.1 hn).2.1).1 (by rw [← e]; exact hz)
  omega
end
theorem AddSaid.tot {I I' : Nat → Nat → UInt64} {L L' : Nat → List Nat} {i : Nat} {item : UInt64} {free free' : List Nat} (h : AddSaid I L i item free free' L' I') (hn : (L i).Nodup) (hf : ∀ y ∈ free, y ∉ L i) (h0 : item ≠ 0) :
    totI I' (L' i) = totI I (L i) + 1 ∧ ((L' i).length = (L i).length ∨ (L' i).length = (L i).length + 1 ∧ totI I (L i) = 8 * (L i).length) ∧ ∀ j, j ≠ i → L' j = L j := by
  rcases h with ⟨A, x, B, k, hL, hA, ⟨hk, hz, _⟩, rfl, rfl, rfl⟩ | ⟨hfull, y, rfl, rfl, rfl⟩
  · refine ⟨?_, .inl rfl, fun _ _ => rfl⟩
    rw [hL] at hn ⊢
    have h1 := totI_one (I := I) (I' := upI I x k item) hn fun z hz => cnt_ne hz
    have h2 := cnt_put (I := I) hk hz h0
    omega
  · have hy := hf y (by simp)
    refine ⟨?_, .inr ⟨by rw [upG_eq]; rfl, totI_full hfull⟩, fun j hj => upG_ne hj⟩
    rw [upG_eq, totI_cons, cnt_new h0, totI_congr (I := I) fun z hz => cnt_newne fun e => hy (by rw [← e]; exact hz)]
    omega
theorem FromSaid.tot {I I' : Nat → Nat → UInt64} {l : List Nat} {v : UInt64} {ok : Bool} (h : FromSaid I l v ok I') (hn : l.Nodup) : (ok = true ∧ totI I' l + 1 = totI I l) ∨ (ok = false ∧ totI I l = 0 ∧ I' = I) := by
  rcases h with ⟨A, x, B, k, rfl, hA, ⟨hk, hz, _⟩, rfl, rfl, rfl⟩ | ⟨hb, rfl, rfl, rfl⟩
  · left
    have h1 := totI_one (I := I) (I' := upI I x k 0) hn fun z hz => cnt_ne hz
    have h2 := cnt_take (I := I) hk hz
    exact ⟨rfl, by omega⟩
  · exact .inr ⟨rfl, totI_bare hb, rfl⟩
end Go.Proofs.Ytjdbknnacaacaaa
namespace Go.Proofs.Ytjdbknnacaacaaa
open Go Go.RowKit
set_option linter.unusedSimpArgs false
set_option linter.unusedVariables false
structure Act9 where
  d : Nat
  t : Nat
  c : Int
  x : Nat
def a9C (x : Act9) : List Value := [.int .u8 x.d, .int .u8 x.t, .int .i64 x.c, .int .u64 x.x]
theorem a9C_len (x : Act9) : (a9C x).length = 4 := rfl
theorem a9C_plain (x : Act9) : ∀ v ∈ a9C x, plainB v = true := by simp [a9C, plainB]
def Bd9 (y : Act9) : Prop := y.d ≤ 255 ∧ y.t ≤ 255 ∧ (-9223372036854775808 ≤ y.c ∧ y.c ≤ 9223372036854775807) ∧ y.x ≤ 18446744073709551615
theorem share {α : Type} {P : α → Prop} {Q : Prop} {T : α} (h2 : P T → Q) (h1 : P T) : Q := h2 h1
theorem Goes.at {P : Program} {σ : Type} {X : Face P σ} {fn : Func} {A : Conf σ → Prop} {ops : Array Oper} {k : List Item} {i : Nat} {tmps : List Value} {h : AHeap} {S : σ} (hk : At X fn A ops k i tmps h S) : Goes X fn A (.run (.inRegion ops (List.range' i (ops.size - i)) :: k) tmps h S) := hk
theorem rU0 : rU 0 false 0 = 0 := by decide
theorem BS.start {N T : Nat} {ws : List UInt64} {W : Nat → Nat → UInt64} (hW : Wd N T ws W) (hP : Pl N T W (upto 1 (gM N T)) 0 (fun _ _ => 0) (fun _ => []) T) (h0 : ∀ r n, r ≠ 4 → r ≠ 17 → W r n = 0) : BS N T ws W (upto 1 (gM N T)) 0 (fun _ => []) (fun _ => []) (fun _ _ => 0) where
  wd := hW
  pl := hP
  bg := ⟨fun i _ => (h0 13 i (by decide) (by decide)).trans rU0.symm, fun _ _ => trivial, fun _ _ _ _ _ => h0 18 _ (by decide) (by decide)⟩
  glen := fun _ _ => by simp
  pm := by
    have e : ∀ n, flat n (fun _ => []) = [] := fun n => by unfold flat; simp
    rw [e, e, List.append_nil, List.append_nil]
theorem awake9_true : trueB OK6 [] 17 1000000 = true := by kernel_rfl
theorem awake9_any (w : World) : Calls Try.prog 17 #[] w (Ret (.bool true) (Ext [] w)) := by
  have L := (closed_lawK awake9_true).calls ⟨fun _ => 0, fun _ => 0, fun _ => 0⟩ w (fun n b hb => by simp at hb) (by simp)
  rwa [show (#[] : Array Value).map (ren ⟨fun _ => 0, fun _ => 0, fun _ => 0⟩) = #[] by simp] at L
def shU (d : Nat) (a : Option Addr) : Option Addr := a.map fun x => ⟨d + x.block, x.off, x.spot⟩
theorem ren_shU {d : Nat} {a : Option Addr} {k m : Nat} (h : a = none ∨ ∃ n, a = some ⟨n, 0, none⟩ ∧ n < VB) : ren (upE [] d) (.slice a k m) = .slice (shU d a) k m := by
  rcases h with rfl | ⟨n, rfl, hn⟩
  · simp [shU]
  · obtain ⟨h1, h2, h3⟩ := up_lo (nx := d) hn
    simp [shU, adr, h1, h2, h3]
theorem IsUU.at {l : List (Option Blk)} {a : Option Addr} {q : Nat} {xss : List (List UInt64)} (h : IsUU l a xss) (hl : l.length ≤ q) (hq : q ≤ VB) : a = none ∨ ∃ n, a = some ⟨n, 0, none⟩ ∧ n < VB := by
  rcases h with ⟨_, rfl⟩ | ⟨n, ps, rfl, _, hb, _⟩
  · exact .inl rfl
  · exact .inr ⟨n, rfl, by have := (List.getElem?_eq_some_iff.1 hb).1; omega⟩
def acts9 (len : Nat) (z : Nat → Nat → Int) : List Act9 := (List.range len).map fun i => ⟨(z i 0).toNat, (z i 1).toNat, z i 2, (z i 3).toNat⟩
theorem acts9_len {len : Nat} {z : Nat → Nat → Int} : (acts9 len z).length = len := by simp [acts9]
theorem u8_of9 {n : Int} (h : (Lit.int .u8 n).wf = true) : 0 ≤ n ∧ n ≤ 255 := by simpa [Lit.wf, IntKind.min, IntKind.max, IntKind.signed, IntKind.bits] using h
theorem u64_of9 {n : Int} (h : (Lit.int .u64 n).wf = true) : 0 ≤ n ∧ n ≤ 18446744073709551615 := by simpa [Lit.wf, IntKind.min, IntKind.max, IntKind.signed, IntKind.bits] using h
theorem i64_of9 {n : Int} (h : (Lit.int .i64 n).wf = true) : -9223372036854775808 ≤ n ∧ n ≤ 9223372036854775807 := by simpa [Lit.wf, IntKind.min, IntKind.max, IntKind.signed, IntKind.bits] using h
theorem acts9_slice {a : Option Addr} {len cap : Nat} {z : Nat → Nat → Int} {w : World} (h : RowS [.u8, .u8, .i64, .u64] w a len cap z) :
    len ≤ 9223372036854775807 ∧ (∀ y ∈ acts9 len z, Bd9 y) ∧ (0 < (acts9 len z).length → ∃ x, a = some x ∧ ∀ (i : Nat) (y : Act9), (acts9 len z)[i]? = some y → ∀ (j : Nat) (v : Value), (a9C y)[j]? = some v → w.cell? (x.add (i * 4 + j)) = some v) := by
  rcases h with ⟨rfl, rfl, rfl⟩ | ⟨x, rfl, hl, hm, hc⟩
  · exact ⟨by omega, fun y hy => by simp [acts9] at hy, fun h => by simp [acts9] at h⟩
  · refine ⟨by unfold maxLen at hm; omega, fun y hy => ?_, fun _ => ⟨x, rfl, fun i y hy j v hv => ?_⟩⟩
    · obtain ⟨i, hi, rfl⟩ := List.mem_map.1 hy
      have hi := List.mem_range.1 hi
      have h0 := u8_of9 (hc i hi 0 .u8 rfl).2
      have h1 := u8_of9 (hc i hi 1 .u8 rfl).2
      have h2 := i64_of9 (hc i hi 2 .i64 rfl).2
      have h3 := u64_of9 (hc i hi 3 .u64 rfl).2
      simp only [Bd9]
      omega
    · have hi : i < len := by have := (List.getElem?_eq_some_iff.1 hy).1; rw [acts9_len] at this; exact this
      simp only [acts9, List.getElem?_map, List.getElem?_range hi, Option.map_some, Option.some.injEq] at hy
      subst hy
      have key : ∀ (j : Nat) (k : IntKind), [IntKind.u8, .u8, .i64, .u64][j]? = some k → w.cell? (x.add (i * 4 + j)) = some (.int k (z i j)) ∧ (Lit.int k (z i j)).wf = true := fun j k hk => hc i hi j k hk
      match j, hv with
      | 0, hv =>
        obtain ⟨h1, h2⟩ := key 0 .u8 rfl
        simp only [a9C, List.getElem?_cons_zero, Option.some.injEq] at hv
        rw [h1, ← hv, Int.toNat_of_nonneg (u8_of9 h2).1]
      | 1, hv =>
        obtain ⟨h1, h2⟩ := key 1 .u8 rfl
        simp only [a9C, List.getElem?_cons_zero, List.getElem?_cons_succ, Option.some.injEq] at hv
        rw [h1, ← hv, Int.toNat_of_nonneg (u8_of9 h2).1]
      | 2, hv =>
        obtain ⟨h1, h2⟩ := key 2 .i64 rfl
        simp only [a9C, List.getElem?_cons_zero, List.getElem?_cons_succ, Option.some.injEq] at hv
        rw [h1, ← hv]
      | 3, hv =>
        obtain ⟨h1, h2⟩ := key 3 .u64 rfl
        simp only [a9C, List.getElem?_cons_zero, List.getElem?_cons_succ, Option.some.injEq] at hv
        rw [h1, ← hv, Int.toNat_of_nonneg (u64_of9 h2).1]
      | j + 4, hv => simp [a9C] at hv
end Go.Proofs.Ytjdbknnacaacaaa
namespace Go.Proofs.Ytjdbknnacaacaaa
open Go Go.RowKit
set_option linter.unusedSimpArgs false
set_option linter.unusedVariables false
end Go.Proofs.Ytjdbknnacaacaaa
namespace Go.Proofs.Ytjdbknnacaacaaa
open Go Go.RowKit
set_option linter.unusedSimpArgs false
set_option linter.unusedVariables false
theorem IsUU.ge {l l' : List (Option Blk)} {a : Option Addr} {xss : List (List UInt64)} (h : IsUU l a xss) (hg : Ge l l') : IsUU l' a xss := by
  rcases h with h | ⟨n, ps, rfl, hne, hb, hp, hall⟩
  · exact .inl h
  · exact .inr ⟨n, ps, rfl, hne, hg _ _ hb, hp, fun j p xs h1 h2 => (hall j p xs h1 h2).ge hg⟩
theorem IsUU.set {l : List (Option Blk)} {a : Option Addr} {xss : List (List UInt64)} {q : Nat} {b : Option Blk} {b0 : Blk} (h : IsUU l a xss) (hq : l[q]? = some (some b0)) (he : b0.elem ≠ 30) (he2 : b0.elem ≠ 116) : IsUU (l.set q b) a xss := by
  rcases h with h | ⟨n, ps, rfl, hne, hb, hp, hall⟩
  · exact .inl h
  · exact .inr ⟨n, ps, rfl, hne, set_at' hq hb he2, hp, fun j p xs h1 h2 => (hall j p xs h1 h2).set hq he⟩
theorem renB_plain' {E : Emb} {b : Blk} (h : ∀ u ∈ b.cells, plainB u = true) : renB E b = b := by
  unfold renB
  rw [show b.cells.map (ren E) = b.cells from (List.map_congr_left fun u hu => ren_plain E (h u hu)).trans (List.map_id _)]
theorem IsU.fresh {l0 ys l lf : List (Option Blk)} {q0 q : Nat} {a : Option Addr} {xs : List UInt64} (h : IsU l a xs) (hF : FreshAt l0 ys l q0 q lf) : IsU lf (shU (q0 + ys.length) a) xs := by
  obtain ⟨n, g, rfl, hb⟩ := h
  refine ⟨q0 + ys.length + n, g, rfl, ?_⟩
  rw [hF.2.2.2 n _ hb, renB_plain' fun u hu => numRow_plain u hu]
theorem IsUU.fresh {l0 ys l lf : List (Option Blk)} {q0 q : Nat} {a : Option Addr} {xss : List (List UInt64)} (h : IsUU l a xss) (hF : FreshAt l0 ys l q0 q lf) (hl : l.length ≤ q) (hq : q ≤ VB) : IsUU lf (shU (q0 + ys.length) a) xss := by
  rcases h with ⟨h, rfl⟩ | ⟨n, ps, rfl, hne, hb, hp, hall⟩
  · exact .inl ⟨h, rfl⟩
  refine .inr ⟨q0 + ys.length + n, ps.map fun p => shU (q0 + ys.length) p, rfl, hne, ?_, by rw [List.length_map]; exact hp, fun j p xs h1 h2 => ?_⟩
  · rw [hF.2.2.2 n _ hb]
    unfold renB rowP
    rw [List.map_map, List.map_map]
    have e : ∀ p ∈ ps, (ren (upE [] (q0 + ys.length)) ∘ fun p => Value.slice p 8 8) p = ((fun p => Value.slice p 8 8) ∘ fun p => shU (q0 + ys.length) p) p := fun p hpm => by
      obtain ⟨j, hj⟩ := List.getElem?_of_mem hpm
      have hjl := (List.getElem?_eq_some_iff.1 hj).1
      obtain ⟨n2, g2, rfl, h2⟩ := hall j p _ hj (List.getElem?_eq_getElem (by omega))
      exact ren_shU (.inr ⟨n2, rfl, by have := (List.getElem?_eq_some_iff.1 h2).1; omega⟩)
    rw [List.map_congr_left e]
  · rw [List.getElem?_map] at h1
    cases hj : ps[j]? with
    | none => rw [hj] at h1; cases h1
    | some p0 =>
      rw [hj] at h1; cases h1
      exact (hall j p0 xs hj h2).fresh hF
def rowQ (ps : List (Option Addr × Nat)) : List Value := ps.map fun p => .slice p.1 p.2 p.2
theorem rowQ_len (ps : List (Option Addr × Nat)) : (rowQ ps).length = ps.length := by simp [rowQ]
def IsUUU (l : List (Option Blk)) (a : Option Addr) (zs : List (List (List UInt64))) : Prop :=
  (zs = [] ∧ a = none) ∨ ∃ (n : Nat) (ps : List (Option Addr × Nat)), a = some ⟨n, 0, none⟩ ∧ zs ≠ [] ∧ l[n]? = some (some ⟨rowQ ps, 50, false, some 1⟩) ∧ ps.length = zs.length ∧ ∀ (j : Nat) (p : Option Addr × Nat) (xss : List (List UInt64)), ps[j]? = some p → zs[j]? = some xss → p.2 = xss.length ∧ IsUU l p.1 xss
theorem IsUUU.ge {l l' : List (Option Blk)} {a : Option Addr} {zs : List (List (List UInt64))} (h : IsUUU l a zs) (hg : Ge l l') : IsUUU l' a zs := by
  rcases h with h | ⟨n, ps, rfl, hne, hb, hp, hall⟩
  · exact .inl h
  · exact .inr ⟨n, ps, rfl, hne, hg _ _ hb, hp, fun j p xs h1 h2 => ⟨(hall j p xs h1 h2).1, (hall j p xs h1 h2).2.ge hg⟩⟩
theorem IsUUU.app {l l' : List (Option Blk)} {n' : Nat} {ps : List (Option Addr × Nat)} {zs : List (List (List UInt64))} {xss : List (List UInt64)} {a : Option Addr} (hps : ps.length = zs.length) (hall : ∀ (j : Nat) (p : Option Addr × Nat) (ys : List (List UInt64)), ps[j]? = some p → zs[j]? = some ys → p.2 = ys.length ∧ IsUU l p.1 ys) (hg : ∀ p ys, IsUU l p ys → IsUU l' p ys) (hb : l'[n']? = some (some ⟨rowQ (ps ++ [(a, xss.length)]), 50, false, some 1⟩)) (ha : IsUU l' a xss) : IsUUU l' (some ⟨n', 0, none⟩) (zs ++ [xss]) := by
  refine .inr ⟨n', ps ++ [(a, xss.length)], rfl, by simp, hb, by simp [hps], fun j p ys hj hy => ?_⟩
  by_cases e : j < ps.length
  · rw [List.getElem?_append_left e] at hj
    rw [List.getElem?_append_left (by omega)] at hy
    exact ⟨(hall j p ys hj hy).1, hg _ _ (hall j p ys hj hy).2⟩
  · have hj2 := (List.getElem?_eq_some_iff.1 hj).1
    rw [List.length_append, List.length_singleton] at hj2
    obtain rfl : j = ps.length := by omega
    rw [List.getElem?_append_right (Nat.le_refl _), Nat.sub_self] at hj
    rw [hps, List.getElem?_append_right (Nat.le_refl _), Nat.sub_self] at hy
    simp only [List.getElem?_cons_zero, Option.some.injEq] at hj hy
    rw [← hj, ← hy]; exact ⟨rfl, ha⟩
def gN (f : Nat → Int) : Nat → Int
  | 0 => 0
  | k + 1 => gN f k + f k
theorem gN_zero {f : Nat → Int} : ∀ {n : Nat}, (∀ k, k < n → f k = 0) → gN f n = 0
  | 0, _ => rfl
  | n + 1, h => by unfold gN; rw [gN_zero (n := n) fun k hk => h k (by omega), h n (by omega)]; rfl
theorem gN_one {f : Nat → Int} {j : Nat} : ∀ {n : Nat}, j < n → (∀ k, k < n → k ≠ j → f k = 0) → gN f n = f j
  | 0, hj, _ => by omega
  | n + 1, hj, h => by
    unfold gN
    by_cases e : j = n
    · subst e
      rw [gN_zero (n := j) fun k hk => h k (by omega) (by omega)]; omega
    · rw [gN_one (n := n) (by omega) fun k hk hne => h k (by omega) hne, h n (by omega) (fun e2 => e e2.symm)]; omega
def lost (c : Nat) (I I' : Nat → Nat → UInt64) (L L' : Nat → List Nat) (k : Nat) : Int := (totI I (L (k * 4 + c)) : Int) - (totI I' (L' (k * 4 + c)) : Int)
structure ActR (T t c d : Nat) (I I' : Nat → Nat → UInt64) (L L' : Nat → List Nat) (g : Int) : Prop where
  small : ∀ k, k < T → -1 ≤ lost c I I' L L' k ∧ lost c I I' L L' k ≤ 1
  longer : ∀ k, k < T → (k ≠ t ∨ d ≠ 0) → (L' (k * 4 + c)).length ≤ (L (k * 4 + c)).length
  shorter : ∀ k, k < T → (k ≠ t ∨ d ≠ 2) → (L (k * 4 + c)).length ≤ (L' (k * 4 + c)).length
  sum : gN (lost c I I' L L') T = g
theorem ActR.one {T t c d j : Nat} {I I' : Nat → Nat → UInt64} {L L' : Nat → List Nat} (hj : j < T) (hne : ∀ k, k < T → k ≠ j → totI I' (L' (k * 4 + c)) = totI I (L (k * 4 + c)) ∧ (L' (k * 4 + c)).length = (L (k * 4 + c)).length) (h1 : -1 ≤ lost c I I' L L' j ∧ lost c I I' L L' j ≤ 1)
    (h2 : (j ≠ t ∨ d ≠ 0) → (L' (j * 4 + c)).length ≤ (L (j * 4 + c)).length) (h3 : (j ≠ t ∨ d ≠ 2) → (L (j * 4 + c)).length ≤ (L' (j * 4 + c)).length) : ActR T t c d I I' L L' (lost c I I' L L' j) where
  small := fun k hk => by
    by_cases e : k = j
    · rw [e]; exact h1
    · have := (hne k hk e).1
      unfold lost; omega
  longer := fun k hk h => by
    by_cases e : k = j
    · rw [e] at h ⊢; exact h2 h
    · exact Nat.le_of_eq (hne k hk e).2
  shorter := fun k hk h => by
    by_cases e : k = j
    · rw [e] at h ⊢; exact h3 h
    · exact Nat.le_of_eq (hne k hk e).2.symm
  sum := gN_one hj fun k hk e => by
    have := (hne k hk e).1
    unfold lost; omega
theorem ActR.same {T t c d : Nat} {I : Nat → Nat → UInt64} {L : Nat → List Nat} : ActR T t c d I I L L 0 where
  small := fun k _ => by unfold lost; omega
  longer := fun _ _ _ => Nat.le_refl _
  shorter := fun _ _ _ => Nat.le_refl _
  sum := gN_zero fun k _ => by unfold lost; omega
end Go.Proofs.Ytjdbknnacaacaaa
