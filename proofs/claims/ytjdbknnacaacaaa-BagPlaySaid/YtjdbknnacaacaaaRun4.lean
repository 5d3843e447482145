/-
  A run of the abstract machine that the kernel carries out, part 4: that it is one of the machine's.
  Condition: the calls that are known by what they do are such.
-/
import Derived.Test.YtjdbknnacaacaaaURun2
namespace Go.Proofs.Ytjdbknnacaacaaa
open Go Go.RowKit
set_option linter.unusedSimpArgs false
set_option linter.unusedVariables false
theorem idx_high {ns : List Nat} {n : Nat} (h : VB ≤ n) : idxK ns n = n := by unfold idxK; rw [Nat.ble_eq_true_of_le h]
theorem idx_low {ns : List Nat} {n : Nat} (h : n < VB) : idxK ns n = ns.idxOf n := by unfold idxK; rw [ble_not h]
theorem okN_or {ns : List Nat} {c n : Nat} (h : okN ns c n = true) : (VB ≤ n ∧ n < VB + c) ∨ n ∈ ns := by
  simp only [okN, Bool.or_eq_true, Bool.and_eq_true] at h
  rcases h with h | h
  · exact .inr (by simpa using h)
  · exact .inl ⟨Nat.le_of_ble_eq_true h.1, Nat.le_of_ble_eq_true h.2⟩
theorem upN_high {ns : List Nat} {nx n : Nat} (hl : ns.length ≤ 1000) (h : VB ≤ n) : upN ns nx n = n := by
  unfold upN
  have : VB = 1099511627776 := rfl
  rw [if_neg (by omega), if_neg (by omega)]
theorem up_idx {ns : List Nat} {nx c n : Nat} (hl : ns.length ≤ 1000) (hlow : ∀ m ∈ ns, m < VB) (h : okN ns c n = true) : upN ns nx (idxK ns n) = n := by
  by_cases hv : VB ≤ n
  · rw [idx_high hv, upN_high hl hv]
  · rcases okN_or h with h | h
    · omega
    · rw [idx_low (by omega)]
      have hlt : ns.idxOf n < ns.length := List.idxOf_lt_length_of_mem h
      unfold upN
      rw [if_pos hlt, List.getD_eq_getElem?_getD, List.getElem?_eq_getElem hlt]
      simp
theorem map_map_id {f g : Nat → Nat} {v : Value} (h : ∀ n ∈ nmV v, f (g n) = n) : mapV f (mapV g v) = v := by
  rw [← mapV_ren f, ← mapV_ren g, ren_comp]
  rw [ren_mapV _ (fun n => f (g n)) v (fun n _ => ⟨rfl, rfl, rfl⟩)]
  exact mapV_id _ v h
theorem nmL_all {l : List Value} {p : Nat → Bool} (h : (nmL l).all p = true) : ∀ v ∈ l, ∀ n ∈ nmV v, p n = true := fun v hv n hn => List.all_eq_true.1 h n (nmL_mem hv hn)
theorem mv_idx (ns : List Nat) (v : Value) : mvV (idxK ns) v = mapV (idxK ns) v := mvV_eq (fun _ h => idx_high h) v
theorem ren_idx {ns : List Nat} {nx c : Nat} {v : Value} (hl : ns.length ≤ 1000) (hlow : ∀ m ∈ ns, m < VB) (h : ∀ n ∈ nmV v, okN ns c n = true) : ren (upE ns nx) (mvV (idxK ns) v) = v := by
  rw [mv_idx, show upE ns nx = nameE (upN ns nx) from rfl, mapV_ren]
  exact map_map_id fun n hn => up_idx hl hlow (h n hn)
theorem clo_idx {ns : List Nat} {c : Nat} {v : Value} (h : ∀ n ∈ nmV v, okN ns c n = true) (hlow : ∀ m ∈ ns, m < VB) : Clo (Kn ns.length c) (mvV (idxK ns) v) := by
  rw [mv_idx]
  refine clo_names fun n hn => ?_
  rw [nm_mapV] at hn
  obtain ⟨m, hm, rfl⟩ := List.mem_map.1 hn
  rcases okN_or (h m hm) with h1 | h1
  · rw [idx_high h1.1]; exact .inr h1
  · rw [idx_low (hlow m h1)]
    exact .inl (List.idxOf_lt_length_of_mem h1)
theorem ret_high {k : Nat} {ex : List Nat} {n : Nat} (h : VB ≤ n) : retK k ex n = n := by unfold retK; rw [Nat.ble_eq_true_of_le h]
theorem ret_low {k : Nat} {ex : List Nat} {n : Nat} (h : n < k) (hv : n < VB) : retK k ex n = n := by unfold retK; rw [ble_not hv, Nat.ble_eq_true_of_le (show n + 1 ≤ k from h)]
theorem ret_ex {k j : Nat} {ex : List Nat} {n : Nat} (h : k ≤ n) (hv : n < VB) (hj : ex[j]? = some n) (hnd : ex.Nodup) : retK k ex n = k + j := by
  unfold retK
  rw [ble_not hv, ble_not (show n < n + 1 ∧ k < n + 1 from ⟨by omega, by omega⟩).2]
  simp only
  obtain ⟨hlt, rfl⟩ := List.getElem?_eq_some_iff.1 hj
  rw [hnd.idxOf_getElem]
theorem okR_or {k c n : Nat} {ex : List Nat} (h : okR k ex c n = true) : n < k ∨ n ∈ ex ∨ (VB ≤ n ∧ n < VB + c) := by
  simp only [okR, Bool.or_eq_true, Bool.and_eq_true] at h
  rcases h with (h | h) | h
  · exact .inl (Nat.le_of_ble_eq_true h)
  · exact .inr (.inl (by simpa using h))
  · exact .inr (.inr ⟨Nat.le_of_ble_eq_true h.1, Nat.le_of_ble_eq_true h.2⟩)
theorem mvB_renB {f : Nat → Nat} (hf : ∀ n, VB ≤ n → f n = n) (b : Blk) : mvB f b = renB (nameE f) b := by
  unfold mvB renB
  congr 1
  exact List.map_congr_left fun v _ => by rw [mvV_eq hf, mapV_ren]
theorem clo_okR {k c : Nat} {ex : List Nat} {v : Value} (h : ∀ n ∈ nmV v, okR k ex c n = true) : Clo (fun n => n < k ∨ n ∈ ex ∨ (VB ≤ n ∧ n < VB + c)) v := clo_names fun n hn => okR_or (h n hn)
theorem rowK_ok {rows1 : List (Option Blk)} {k c n : Nat} {ex : List Nat} {b' : Blk} (h : rowK rows1 k ex c n = some b') :
    ∃ b1, (heapL rows1).get n = some b1 ∧ b' = renB (nameE (retK k ex)) b1 ∧ b1.ro = false ∧ ∀ u ∈ b1.cells, Clo (fun n => n < k ∨ n ∈ ex ∨ (VB ≤ n ∧ n < VB + c)) u := by
  unfold rowK at h
  split at h
  · rename_i b hb
    split at h
    · rename_i hc
      cases h
      simp only [Bool.and_eq_true, Bool.not_eq_true'] at hc
      exact ⟨b, hb, mvB_renB (fun _ h => ret_high h) b, hc.1, fun u hu => clo_okR (nmL_all hc.2 u hu)⟩
    · cases h
  · cases h
theorem backsK_ok {rows1 : List (Option Blk)} {k c : Nat} {ex : List Nat} : ∀ {l l' : List Blk} {i : Nat}, backsK rows1 k ex c l i = some l' →
    l'.length = l.length ∧ ∀ (j : Nat) (b : Blk), l[j]? = some b → b.ro = false → ∃ b1, (heapL rows1).get (i + j) = some b1 ∧ l'[j]? = some (renB (nameE (retK k ex)) b1) ∧ b1.ro = false ∧ ∀ u ∈ b1.cells, Clo (fun n => n < k ∨ n ∈ ex ∨ (VB ≤ n ∧ n < VB + c)) u
  | [], _, i, h => by cases h; exact ⟨rfl, fun j b hb => by simp at hb⟩
  | b :: l, l', i, h => by
    simp only [backsK] at h
    split at h
    · rename_i hro
      split at h
      · rename_i l1 hl1
        cases h
        obtain ⟨h1, h2⟩ := backsK_ok hl1
        refine ⟨by simp [h1], fun j b' hb hr => ?_⟩
        cases j with
        | zero => simp at hb; subst hb; rw [hro] at hr; cases hr
        | succ j =>
          have := h2 j b' (by simpa using hb) hr
          rw [show i + (j + 1) = i + 1 + j by omega]
          simpa using this
      · cases h
    · rename_i hro
      split at h
      · rename_i b1 l1 hb1 hl1
        cases h
        obtain ⟨h1, h2⟩ := backsK_ok hl1
        refine ⟨by simp [h1], fun j b' hb hr => ?_⟩
        cases j with
        | zero =>
          obtain ⟨b2, g1, g2, g3⟩ := rowK_ok hb1
          exact ⟨b2, g1, by simp [g2], g3⟩
        | succ j =>
          have := h2 j b' (by simpa using hb) hr
          rw [show i + (j + 1) = i + 1 + j by omega]
          simpa using this
      · cases h
theorem newsK_ok {rows1 : List (Option Blk)} {k c : Nat} {ex0 : List Nat} : ∀ {ex : List Nat} {new : List Blk}, newsK rows1 k ex0 c ex = some new →
    new.length = ex.length ∧ ∀ (j n : Nat), ex[j]? = some n → ∃ b1, (heapL rows1).get n = some b1 ∧ new[j]? = some (renB (nameE (retK k ex0)) b1) ∧ b1.ro = false ∧ ∀ u ∈ b1.cells, Clo (fun n => n < k ∨ n ∈ ex0 ∨ (VB ≤ n ∧ n < VB + c)) u
  | [], _, h => by cases h; exact ⟨rfl, fun j n hn => by simp at hn⟩
  | n :: l, new, h => by
    simp only [newsK] at h
    split at h
    · rename_i b bs hb hbs
      cases h
      obtain ⟨h1, h2⟩ := newsK_ok hbs
      refine ⟨by simp [h1], fun j m hm => ?_⟩
      cases j with
      | zero =>
        simp at hm; subst hm
        obtain ⟨b2, g1, g2, g3⟩ := rowK_ok hb
        exact ⟨b2, g1, by simp [g2], g3⟩
      | succ j => simpa using h2 j m (by simpa using hm)
    · cases h
theorem lendK_ok {rows : List (Option Blk)} {vis : Nat → Bool} {ro : Bool} {ns : List Nat} {c nx : Nat} {h : AHeap} (hl : ns.length ≤ 1000) (hlow : ∀ m ∈ ns, m < VB) (hv : ∀ (n : Nat) (b : Blk), vis n = true → (rows[n]?).join = some b → h.get n = some { b with ro := b.ro || ro }) :
    ∀ {L : List Nat} {l : List Blk}, lendK rows vis ro ns c L = some l → LendL h (upE ns nx) L l ∧ (∀ b ∈ l, ∀ u ∈ b.cells, Clo (Kn ns.length c) u) ∧ (∀ n ∈ L, n < rows.length) ∧ (ro = true → l.all (·.ro) = true) ∧ l.length = L.length
  | [], _, hk => by cases hk; exact ⟨trivial, fun b hb => (by cases hb), fun n hn => (by cases hn), fun _ => rfl, rfl⟩
  | n :: L, l, hk => by
    simp only [lendK] at hk
    split at hk
    · rename_i b bs hb hvis hbs
      split at hk
      · rename_i hall
        cases hk
        obtain ⟨h1, h2, h3, h4, h5⟩ := lendK_ok hl hlow hv hbs
        have hn := nmL_all hall
        refine ⟨⟨⟨_, hv n b hvis hb, rfl, ?_, .inl rfl, id⟩, h1⟩, ?_, ?_, ?_, by simp [h5]⟩
        · simp only [List.map_map]
          conv => lhs; rw [← List.map_id b.cells]
          exact List.map_congr_left fun u hu => (ren_idx hl hlow (hn u hu)).symm
        · intro b' hb' u hu
          rcases List.mem_cons.1 hb' with rfl | hb'
          · obtain ⟨u', hu', rfl⟩ := List.mem_map.1 hu
            exact clo_idx (hn u' hu') hlow
          · exact h2 b' hb' u hu
        · intro m hm
          rcases List.mem_cons.1 hm with rfl | hm
          · exact row_lt hb
          · exact h3 m hm
        · intro hro
          simp [hro, h4 hro]
      · cases hk
    · cases hk
theorem backRK_eq {f : Nat → Nat} (hf : ∀ n, VB ≤ n → f n = n) {rows : List (Option Blk)} : ∀ {ns : List Nat} {l l' : List Blk}, backRK f rows ns l l' = backR (nameE f) rows ns l l'
  | [], _, _ => by simp [backRK, backR]
  | _ :: _, [], _ => by simp [backRK, backR]
  | _ :: _, _ :: _, [] => by simp [backRK, backR]
  | n :: ns, b :: l, b' :: l' => by
    simp only [backRK, backR]
    cases b.ro with
    | true => simp [backRK_eq hf]
    | false => simp [backRK_eq hf, mvB_renB hf]
theorem appK_eq {f : Nat → Nat} (hf : ∀ n, VB ≤ n → f n = n) {rows : List (Option Blk)} {new : List Blk} : appK rows f new = rows ++ new.map fun b => some (renB (nameE f) b) := by
  unfold appK
  cases new with
  | nil => simp
  | cons b l => simp only [mvB_renB hf]
section
variable {P : Program} {σ κ : Type} {X : Face P σ}
def RunOK (K : KF P X κ) (run : RunT κ) : Prop :=
  ∀ g c zs l s v rows1 s', K.wf s → run g c zs l s = some (v, rows1, s') → K.wf s' ∧ Goes X g (fun x => x = .done v (heapL rows1) (K.abs s')) (.run (enterL g c zs.toArray).1 (enterL g c zs.toArray).2 (heapL l) (K.abs s))
theorem ren_hi {ns : List Nat} {nx c : Nat} {v : Value} (hl : ns.length ≤ 1000) (h : hiB c v = true) : ren (upE ns nx) v = v := by
  rw [show upE ns nx = nameE (upN ns nx) from rfl, mapV_ren]
  exact mapV_id _ v fun n hn => upN_high hl (hiB_nm h n hn).1
theorem clo_hi {k c : Nat} {v : Value} (h : hiB c v = true) : Clo (Kn k c) v := clo_names fun n hn => .inr (hiB_nm h n hn)
theorem endK_ok {K : KF P X κ} {ro : Bool} {rows rows1 rows' : List (Option Blk)} {ns : List Nat} {l : List Blk} {v0 v : Value} {s1 s' : κ} (hlen : ns.length ≤ 1000) (hbig : rows.length + ns.length ≤ 999999) (w5 : l.length = ns.length) (hw' : K.wf s1) (hc : endK K ro rows ns l (v0, rows1, s1) = some (v, rows', s')) :
    s' = s1 ∧ ∃ l' new ex R v1, Gives (X.cnt (K.abs s1)) l l' new ex R (heapL rows1) v0 v1 ∧ decide (rows.length + l.length + new.length < 1000000) = true ∧ v = ren (upE ns rows.length) v1 ∧
      rows' = (match (generalizing := false) ro with | true => rows | false => backR (upE ns rows.length) rows ns l l') ++ (new.map fun b => some (renB (upE ns rows.length) b)) := by
  have hcnt' := K.cnt_ok s1 hw'
  have hVB : VB = 1099511627776 := rfl
  unfold endK at hc
  simp only at hc
  split at hc
  · rename_i hfast
    cases hc
    have hl0 : l = [] ∧ hiB (K.cnt s1) v0 = true := by
      cases l with
      | nil => exact ⟨rfl, hfast⟩
      | cons b l => exact absurd hfast (by simp [fastB])
    obtain ⟨rfl, hhi⟩ := hl0
    refine ⟨rfl, [], [], [], id, v0, Gives.still rfl ?_, ?_, (ren_hi hlen hhi).symm, ?_⟩
    · rw [← hcnt']; exact clo_hi hhi
    · simp only [List.length_nil, decide_eq_true_eq]; omega
    · cases ro with
      | true => simp
      | false => cases ns <;> simp [backR]
  · generalize hex : ((reachK rows1 100000 (nmV v0 ++ openNames rows1 l 0) []).filter fun n => Nat.ble ns.length n) = ex at hc
    split at hc
    · rename_i l' new hcheck2 hbacks hnews
      cases hc
      simp only [Bool.and_eq_true] at hcheck2
      obtain ⟨⟨⟨hnd2, hok2⟩, hlt2⟩, hlim⟩ := hcheck2
      have hlim := Nat.le_of_ble_eq_true hlim
      have hnd2 := nodupB_ok hnd2
      obtain ⟨b1, b2⟩ := backsK_ok hbacks
      obtain ⟨n1, n2⟩ := newsK_ok hnews
      have hupf : ∀ n, VB ≤ n → upN ns rows.length n = n := fun n hn => upN_high hlen hn
      have hexk : ∀ n ∈ ex, ns.length ≤ n ∧ n < VB := fun n hn => by
        refine ⟨?_, Nat.le_of_ble_eq_true (List.all_eq_true.1 hlt2 n hn)⟩
        rw [← hex] at hn
        exact Nat.le_of_ble_eq_true (List.mem_filter.1 hn).2
      refine ⟨rfl, l', new, ex, retK ns.length ex, mapV (retK ns.length ex) v0, ?_, ?_, ?_, ?_⟩
      · rw [← hcnt']
        refine ⟨fun n hn => ret_low (by omega) (by omega), fun n hn => ret_high hn, fun j n hj => ?_, hnd2, n1.symm, b1, (mapV_ren _ _).symm, ?_, ?_, ?_⟩
        · obtain ⟨k1, k2⟩ := hexk n (List.mem_of_getElem? hj)
          exact ⟨by omega, k2, by rw [ret_ex k1 k2 hj hnd2, w5]⟩
        · rw [w5]
          exact clo_okR fun n hn => List.all_eq_true.1 hok2 n hn
        · intro i b hi hr
          obtain ⟨q, q1, q2, q3, q4⟩ := b2 i b hi hr
          rw [Nat.zero_add] at q1
          rw [w5]
          exact ⟨q, q1, q2, q3, q4⟩
        · intro j n hj
          rw [w5]
          exact n2 j n hj
      · simp only [decide_eq_true_eq]; omega
      · rw [mvV_eq hupf, mvV_eq (fun _ h => ret_high h), show upE ns rows.length = nameE (upN ns rows.length) from rfl, mapV_ren]
      · cases ro with
        | true => exact appK_eq hupf
        | false =>
          rw [appK_eq hupf]
          simp only
          rw [backRK_eq hupf]
          rfl
    · cases hc
theorem callGo_ok {K : KF P X κ} {run : RunT κ} (hrun : RunOK K run) {vis : Nat → Bool} {ro : Bool} {rows rows' : List (Option Blk)} {s s' : κ} {f : FuncId} {args : List Value} {v : Value} {h : AHeap}
    (hv : ∀ (n : Nat) (b : Blk), vis n = true → (rows[n]?).join = some b → h.get n = some { b with ro := b.ro || ro }) (hw : K.wf s) (hc : callGo K run vis ro rows s f args = some (v, rows', s')) :
    K.wf s' ∧ ∃ ns : List Nat, ns.Nodup ∧ (∀ n ∈ ns, n < rows.length) ∧ CallX X (K.abs s) ns rows.length h (fun v0 l l' new S' => (ro = true → l.all (·.ro) = true) ∧ decide (rows.length + l.length + new.length < 1000000) = true ∧ v = ren (upE ns rows.length) v0 ∧
      rows' = (match (generalizing := false) ro with | true => rows | false => backR (upE ns rows.length) rows ns l l') ++ (new.map fun b => some (renB (upE ns rows.length) b)) ∧ S' = K.abs s') f args.toArray := by
  have hVB : VB = 1099511627776 := rfl
  have hcnt := K.cnt_ok s hw
  unfold callGo at hc
  split at hc
  · cases hc
  · rename_i g hf
    split at hc
    · rename_i c hg hb
      split at hc
      · rename_i hfast
        simp only [Bool.and_eq_true] at hfast
        have hhi := List.all_eq_true.1 hfast.1
        have hbig := Nat.le_of_ble_eq_true hfast.2
        split at hc
        · rename_i x hr
          obtain ⟨v0, rows1, s1⟩ := x
          obtain ⟨hw', hgo⟩ := hrun g c _ _ _ _ _ _ hw hr
          obtain ⟨rfl, l', new, ex, R, v1, e1, e2, e3, e4⟩ := endK_ok (ns := []) (by simp) (by simpa using hbig) rfl hw' hc
          refine ⟨hw', [], List.nodup_nil, fun n hn => (by cases hn), args.toArray, [], v1, l', new, K.abs s', ⟨g, c, heapL rows1, v0, ex, R, hf, hg, hb, ?_, fun b hb => (by cases hb), e1, hgo⟩, ?_, trivial, fun _ => rfl, e2, e3, e4, rfl⟩
          · intro u hu
            rw [← hcnt]
            exact clo_hi (hhi u (by simpa using hu))
          · apply Array.ext'
            simp only [List.map_toArray]
            conv => lhs; rw [← List.map_id args]
            exact List.map_congr_left fun u hu => (ren_hi (by simp) (hhi u hu)).symm
        · cases hc
      · simp only at hc
        generalize hns : reachK rows 100000 (nmL args) [] = ns at hc
        split at hc
        · rename_i l hcheck hlend
          simp only [Bool.and_eq_true] at hcheck
          obtain ⟨⟨⟨hok, hnd⟩, hlen⟩, hbig⟩ := hcheck
          have hlen := Nat.le_of_ble_eq_true hlen
          have hbig := Nat.le_of_ble_eq_true hbig
          have hnd := nodupB_ok hnd
          split at hc
          · rename_i x hr
            obtain ⟨v0, rows1, s1⟩ := x
            have hlowlen : ∀ n ∈ ns, n < rows.length := by
              have aux : ∀ {L : List Nat} {l : List Blk}, lendK rows vis ro ns (K.cnt s) L = some l → ∀ n ∈ L, n < rows.length := by
                intro L
                induction L with
                | nil => intro l _ n hn; cases hn
                | cons m L ih =>
                  intro l hk n hn
                  simp only [lendK] at hk
                  split at hk
                  · rename_i b bs hb _ hbs
                    rcases List.mem_cons.1 hn with rfl | hn
                    · exact row_lt hb
                    · exact ih hbs n hn
                  · cases hk
              exact aux hlend
            have hlow : ∀ m ∈ ns, m < VB := fun m hm => by have := hlowlen m hm; omega
            obtain ⟨w1, w2, w3, w4, w5⟩ := lendK_ok (nx := rows.length) hlen hlow hv hlend
            obtain ⟨hw', hgo⟩ := hrun g c _ _ _ _ _ _ hw hr
            have hargs : ∀ u ∈ args, ∀ n ∈ nmV u, okN ns (K.cnt s) n = true := fun u hu => nmL_all hok u hu
            obtain ⟨rfl, l', new, ex, R, v1, e1, e2, e3, e4⟩ := endK_ok hlen hbig w5 hw' hc
            refine ⟨hw', ns, hnd, hlowlen, (args.map (mvV (idxK ns))).toArray, l, v1, l', new, K.abs s', ⟨g, c, heapL rows1, v0, ex, R, hf, hg, hb, ?_, ?_, e1, hgo⟩, ?_, w1, w4, e2, e3, e4, rfl⟩
            · intro u hu
              obtain ⟨u', hu', rfl⟩ := List.mem_map.1 (by simpa using hu : u ∈ args.map (mvV (idxK ns)))
              rw [w5, ← hcnt]
              exact clo_idx (hargs u' hu') hlow
            · intro b hb u hu
              rw [w5, ← hcnt]
              exact w2 b hb u hu
            · apply Array.ext'
              simp only [List.map_toArray, List.map_map]
              conv => lhs; rw [← List.map_id args]
              exact List.map_congr_left fun u hu => (ren_idx hlen hlow (hargs u hu)).symm
          · cases hc
        · cases hc
    · cases hc
variable {fn : Func} {A : Conf σ → Prop} {ops : Array Oper} {k : List Item} {i : Nat} {o : Oper} {d n : Nat} {t : FR d}
theorem kind_store {W : List Nat} {o : Oper} (h : kindK o.op ≠ 2) (hW : W.contains i = false) : wrB W i o = false := by
  unfold wrB
  rw [hW, Bool.or_false]
  unfold isStoreO
  revert h
  cases o.op <;> intro h <;> first | rfl | (exact absurd rfl h)
theorem appW_kind : ∀ {l : List Oper} {i j : Nat}, j ∈ appW l i → i ≤ j ∧ ∃ o, l[j - i]? = some o ∧ kindK o.op = 4
  | [], _, _, h => by cases h
  | o :: l, i, j, h => by
    simp only [appW] at h
    have step : j ∈ appW l (i + 1) → i ≤ j ∧ ∃ o', (o :: l)[j - i]? = some o' ∧ kindK o'.op = 4 := fun h => by
      obtain ⟨h1, o', h2, h3⟩ := appW_kind h
      refine ⟨by omega, o', ?_, h3⟩
      rw [show j - i = (j - (i + 1)) + 1 by omega, List.getElem?_cons_succ]
      exact h2
    split at h
    · rename_i hb
      rcases List.mem_cons.1 h with rfl | h
      · exact ⟨Nat.le_refl _, o, by simp, Nat.eq_of_beq_eq_true hb⟩
      · exact step h
    · exact step h
theorem callW_kind : ∀ {l : List Oper} {i j : Nat}, j ∈ callW l i → i ≤ j ∧ ∃ o, l[j - i]? = some o ∧ (kindK o.op = 4 ∨ kindK o.op = 3)
  | [], _, _, h => by cases h
  | o :: l, i, j, h => by
    simp only [callW] at h
    have step : j ∈ callW l (i + 1) → i ≤ j ∧ ∃ o', (o :: l)[j - i]? = some o' ∧ (kindK o'.op = 4 ∨ kindK o'.op = 3) := fun h => by
      obtain ⟨h1, o', h2, h3⟩ := callW_kind h
      refine ⟨by omega, o', ?_, h3⟩
      rw [show j - i = (j - (i + 1)) + 1 by omega, List.getElem?_cons_succ]
      exact h2
    split at h
    · rename_i hb
      rw [Bool.or_eq_true] at hb
      rcases List.mem_cons.1 h with rfl | h
      · exact ⟨Nat.le_refl _, o, by simp, hb.imp Nat.eq_of_beq_eq_true Nat.eq_of_beq_eq_true⟩
      · exact step h
    · exact step h
def WOK (ops : Array Oper) (W : List Nat) : Prop := ∀ i ∈ W, ∀ o, ops.toList[i]? = some o → kindK o.op = 4 ∨ kindK o.op = 3
theorem loadW_far : ∀ {l : List Oper} {i j : Nat}, j ∈ loadW l i → 1000000 ≤ j
  | [], _, _, h => by cases h
  | o :: l, i, j, h => by
    simp only [loadW] at h
    split at h
    · rcases List.mem_cons.1 h with rfl | h
      · omega
      · exact loadW_far h
    · exact loadW_far h
theorem pickW_mem {ops : Array Oper} : ∀ {L : List (List Nat)} {W : List Nat}, pickW ops L = some W → drawB W ops = true ∧ W ∈ L
  | [], _, h => by cases h
  | V :: l, W, h => by
    simp only [pickW] at h
    split at h
    · rename_i hb; cases h; exact ⟨hb, List.mem_cons_self⟩
    · obtain ⟨h1, h2⟩ := pickW_mem h
      exact ⟨h1, List.mem_cons_of_mem _ h2⟩
theorem drawW_ok {ops : Array Oper} {W : List Nat} (h : drawW ops = some W) : drawB W ops = true ∧ WOK ops W := by
  unfold drawW at h
  split at h
  · rename_i hlen
    have hlen := Nat.le_of_ble_eq_true hlen
    obtain ⟨h1, h2⟩ := pickW_mem h
    refine ⟨h1, ?_⟩
    have hA : WOK ops (appW ops.toList 0) := fun i hi o ho => by
      obtain ⟨_, o', h2, h3⟩ := appW_kind hi
      rw [Nat.sub_zero, ho] at h2
      cases h2; exact .inl h3
    have hC : WOK ops (callW ops.toList 0) := fun i hi o ho => by
      obtain ⟨_, o', h2, h3⟩ := callW_kind hi
      rw [Nat.sub_zero, ho] at h2
      cases h2; exact h3
    have hL : WOK ops (loadW ops.toList 0) := fun i hi o ho => by
      have := loadW_far hi
      have := (List.getElem?_eq_some_iff.1 ho).1
      omega
    simp only [List.mem_cons, List.not_mem_nil, or_false] at h2
    rcases h2 with rfl | rfl | rfl | rfl | rfl
    · exact hC
    · exact hA
    · exact hL
    · intro i hi
      rcases List.mem_append.1 hi with hi | hi
      · exact hA i hi
      · exact hL i hi
    · exact fun i hi => by cases hi
  · cases h
theorem oneF_ok {K : KF P X κ} {run : RunT κ} (hrun : RunOK K run) {rows rows' : List (Option Blk)} {s s' : κ} {v : Value} (hn : n ≤ 2 ^ d) (ho : ops.toList[i]? = some o) (hw : Region.wanted o (yieldedL ops (absT d n t)) = true) (hb : okK o.op = true) (hs : K.wf s)
    (h : (oneF K d n o.op).f run t rows s = some (v, rows', s')) : K.wf s' ∧ (At X fn A ops k (i + 1) (putL o.dst v (absT d n t)) (heapL rows') (K.abs s') → At X fn A ops k i (absT d n t) (heapL rows) (K.abs s)) := by
  have hev := evF_eq hn t
  have hvl : ∀ {v'}, (valF P d n o.op).f t (heapL rows) = some v' → some (v', rows, s) = some (v, rows', s') → K.wf s' ∧ (At X fn A ops k (i + 1) (putL o.dst v (absT d n t)) (heapL rows') (K.abs s') → At X fn A ops k i (absT d n t) (heapL rows) (K.abs s)) := by
    intro v' hv h
    cases h
    have hv := valF_eq hv
    rw [hev] at hv
    exact ⟨hs, fun hk => At.op (at_list ho) hw (okK_all hb) (.inl ⟨hv, rfl, rfl⟩) (.inl rfl) hk⟩
  have hnw : newK rows s ((newF P d n o.op).f t (heapL rows) rows.length) = some (v, rows', s') → K.wf s' ∧ (At X fn A ops k (i + 1) (putL o.dst v (absT d n t)) (heapL rows') (K.abs s') → At X fn A ops k i (absT d n t) (heapL rows) (K.abs s)) := by
    intro h
    unfold newK at h
    split at h
    · rename_i v' ob hv
      have hv := newF_eq hv
      rw [hev] at hv
      split at h
      · rename_i hl
        have hl := Nat.le_of_ble_eq_true hl
        cases h
        refine ⟨hs, fun hk => At.op (at_list ho) hw (okK_all hb) (.inr (.inl ⟨ob, hv, (heapL_addO rows ob).symm, rfl⟩)) (.inr ?_) hk⟩
        rw [heapL_next, List.length_append]; unfold VB; simp; omega
      · cases h
    · cases h
  have hwr : wrK P (evF d n t) rows s o.op = some (v, rows', s') → K.wf s' ∧ (At X fn A ops k (i + 1) (putL o.dst v (absT d n t)) (heapL rows') (K.abs s') → At X fn A ops k i (absT d n t) (heapL rows) (K.abs s)) := by
    intro h
    rw [hev] at h
    unfold wrK at h
    split at h
    · rename_i v' rows1 hv
      split at h
      · rename_i hl
        have hl := Nat.le_of_ble_eq_true hl
        cases h
        have hv := wrL_eq hv
        refine ⟨hs, fun hk => At.op (at_list ho) hw (okK_all hb) (.inr (.inr (.inl ⟨hv, rfl⟩))) ?_ hk⟩
        rcases wrA_next1 hv with h | h
        · exact .inl h
        · exact .inr (by rw [h, heapL_next]; unfold VB; omega)
      · cases h
    · cases h
  unfold oneF at h
  split at h
  · simp only at h
    split at h
    · rename_i v' hv; exact hvl hv h
    · cases h
  · exact hnw h
  · exact hwr h
  · rename_i hk3
    simp only at h
    unfold clK at h
    split at h
    · rename_i f args hca
      have hca := callF_eq hca
      rw [hev] at hca
      split at h
      · rename_i v1 s1 hp
        cases h
        obtain ⟨h1, h2, h3⟩ := K.prim_ok _ _ _ _ _ hs hp
        obtain ⟨g, h4, h5⟩ := fnOK_spec h3
        exact ⟨h1, fun hk => At.prim (g := g) (at_list ho) hw (okK_all hb) (by rw [hca]; exact ⟨h4, h5, _, _, h2, hk⟩)⟩
      split at h
      · rename_i v1 hkn
        cases h
        exact ⟨hs, fun hk => At.call (at_list ho) hw (okK_all hb) (by rw [hca]; exact ⟨_, _, K.known_ok _ _ _ hkn _, hk⟩)⟩
      · obtain ⟨h1, ns, h2, h3, h4⟩ := callGo_ok (h := heapL rows) hrun (fun n b _ hb => by rw [heapL_get, hb]; simp) hs h
        refine ⟨h1, fun hk => At.callX ns ho hw (okK_call hb hk3) h2 (List.all_eq_true.2 fun n hn => decide_eq_true (h3 n hn)) fun Kk hKk => ?_⟩
        rw [hca]
        obtain ⟨zs, l, v0, l', new, S', d1, d2, d3, d4, d5, d6, d7, d8⟩ := h4
        refine ⟨zs, l, v0, l', new, S', d1, d2, d3, d5, ?_⟩
        rw [← d6, ← d7, d8]
        exact hKk _ _ _ hk
    · cases h
  · simp only at h
    split at h
    · rename_i x hx; cases h; exact hnw hx
    · exact hwr h
  · simp only at h
    split at h
    · rename_i v' hv; exact hvl hv h
    · exact hnw h
theorem opsF_ok {K : KF P X κ} {run : RunT κ} (hrun : RunOK K run) (hn : n ≤ 2 ^ d) : ∀ (l : List Oper) (i : Nat) (t t' : FR d) (rows rows' : List (Option Blk)) (s s' : κ), ops.toList.drop i = l → K.wf s → (opsF K d n ops l).f run t rows s = some ⟨t', rows', s'⟩ →
    K.wf s' ∧ (Goes X fn A (.run k (absT d n t') (heapL rows') (K.abs s')) → At X fn A ops k i (absT d n t) (heapL rows) (K.abs s))
  | [], i, t, t', rows, rows', s, s', hd, hs, h => by
    cases h
    refine ⟨hs, fun hk => At.nil (decide_eq_true ?_) hk⟩
    have := List.drop_eq_nil_iff.1 hd
    simpa using this
  | o :: l, i, t, t', rows, rows', s, s', hd, hs, h => by
    have ho : ops.toList[i]? = some o := by
      have := congrArg (fun q => q[0]?) hd
      simpa [List.getElem?_drop] using this
    have hd' : ops.toList.drop (i + 1) = l := by
      rw [← List.drop_drop, hd]; rfl
    have hact : okK o.op = true → Region.wanted o (yieldedL ops (absT d n t)) = true → (actF' K d n o (opsF K d n ops l)).f run t rows s = some ⟨t', rows', s'⟩ → K.wf s' ∧ (Goes X fn A (.run k (absT d n t') (heapL rows') (K.abs s')) → At X fn A ops k i (absT d n t) (heapL rows) (K.abs s)) := by
      intro hb hw h
      unfold actF' at h
      split at h
      · simp only at h
        split at h
        · rename_i v hv
          obtain ⟨q2, q3⟩ := opsF_ok hrun hn l (i + 1) _ _ _ _ _ _ hd' hs h
          have hv := valF_eq hv
          rw [evF_eq hn] at hv
          refine ⟨q2, fun hk => At.op (at_list ho) hw (okK_all hb) (.inl ⟨hv, rfl, rfl⟩) (.inl rfl) ?_⟩
          rw [← dstF_eq hn]
          exact q3 hk
        · cases h
      · simp only [goOn] at h
        split at h
        · rename_i v rows1 s1 h1
          obtain ⟨g1, g2⟩ := oneF_ok (fn := fn) (A := A) (k := k) hrun hn ho hw hb hs h1
          obtain ⟨q2, q3⟩ := opsF_ok hrun hn l (i + 1) _ _ _ _ _ _ hd' g1 h
          exact ⟨q2, fun hk => g2 (by rw [← dstF_eq hn]; exact q3 hk)⟩
        · cases h
    unfold opsF stepF at h
    split at h
    · cases h
    · rename_i hb
      split at h
      · rename_i hg
        exact hact hb (by unfold Region.wanted; rw [hg]) h
      · rename_i j w hg
        simp only at h
        split at h
        · rename_i hwt
          rw [wantB_eq, yieldF_eq hn] at hwt
          exact hact hb (by unfold Region.wanted; rw [hg]; exact hwt) h
        · rename_i hwt
          rw [wantB_eq, yieldF_eq hn] at hwt
          obtain ⟨q2, q3⟩ := opsF_ok hrun hn l (i + 1) _ _ _ _ _ _ hd' hs h
          exact ⟨q2, fun hk => At.skip (at_list ho) (by unfold Region.wanted; rw [hg]; exact hwt) (by rw [← dstF_eq hn]; exact q3 hk)⟩
theorem storeL_other {P : Program} {l l' : List (Option Blk)} {t : TypeId} {a : Addr} {v : Value} {m : Nat} (h : storeL P l t a v = some l') (hm : m ≠ a.block) : l'[m]? = l[m]? := by
  unfold storeL at h
  split at h
  · split at h
    · split at h
      · split at h
        · cases h; exact List.getElem?_set_ne (Ne.symm hm)
        · cases h
      · cases h
      · split at h
        · cases h; exact List.getElem?_set_ne (Ne.symm hm)
        · cases h
    · cases h
  · cases h
variable {n0 : Nat} {Kf : List Value → AHeap → σ → Prop} {born : List (Nat × Nat)}
def DEOK (de : DE) : Prop := ∀ m b, de.hf.get m = some b → m ∈ de.T
theorem wr_stay {P : Program} {de : DE} (hde : DEOK de) {d n : Nat} {t : FR d} {op : Op} {rows rows' : List (Option Blk)} {v : Value} (hok : (storeOK d n op).f t de.T = true) (hw : wrL P (evF d n t) rows op = some (v, rows')) : ∀ m b, de.hf.get m = some b → m < n0 → n0 ≤ (heapL rows).next → (heapL rows').get m = (heapL rows).get m := by
  intro m b hb _ _
  have hm := hde m b hb
  rw [heapL_get, heapL_get]
  congr 1
  unfold storeOK at hok
  split at hok
  · simp only at hok
    split at hok
    · rename_i hT; rw [hT] at hm; cases hm
    · split at hok
      · rename_i x _ _ _ _ a ha
        rw [notB_eq] at hok
        have hne : m ≠ a.block := by
          rintro rfl
          simp only [Bool.not_eq_true', List.elem_eq_mem, decide_eq_false_iff_not] at hok
          exact hok hm
        unfold wrL at hw
        simp only at hw
        have ha' : evF d n t x = .pointer (some a) := ha
        simp only [ha'] at hw
        split at hw
        · rename_i l1 hl
          cases hw
          exact storeL_other hl hne
        · cases hw
      · cases hok
  · simp only at hok
    split at hok
    · rename_i hT; rw [hT] at hm; cases hm
    · cases hok
theorem new_stay {de : DE} (hde : DEOK de) {rows : List (Option Blk)} {ob : Option Blk} : ∀ m b, de.hf.get m = some b → m < n0 → n0 ≤ (heapL rows).next → (heapL (rows ++ [ob])).get m = (heapL rows).get m := by
  intro m b _ h1 h2
  rw [heapL_next] at h2
  rw [heapL_get, heapL_get, List.getElem?_append_left (by omega)]
theorem vis_get {rows : List (Option Blk)} {mask n : Nat} {b : Blk} (hv : visB n0 born mask n = true) (hb : (rows[n]?).join = some b) : (visH n0 born mask (heapL rows)).get n = some { b with ro := b.ro || true } := by
  unfold visH
  simp only [heapL_get, hb, Option.map_some, Bool.or_true]
  rw [if_pos]
  simp only [visB, Bool.or_eq_true] at hv
  rcases hv with hv | hv
  · exact .inl (Nat.le_of_ble_eq_true hv)
  · exact .inr hv
theorem RG.callXW {W : List Nat} {n0 : Nat} {hf : AHeap} {Kf : List Value → AHeap → σ → Prop} {tmps : List Value} {S : σ} {born : List (Nat × Nat)} {rows : List (Option Blk)} (ns : List Nat) (ho : ops.toList[i]? = some o) (hw : Region.wanted o (yieldedL ops tmps) = true) (hb : opOK o.op = true) (hq : wrB W i o = true) (hnd : ns.Nodup) (hlt : ∀ n ∈ ns, n < rows.length) (hfar : ∀ m b, hf.get m = some b → False)
    (hk : ∀ K : List Value → List (Option Blk) → σ → List (Nat × Nat) → Prop, (∀ t rs S' born', RGF X W ops n0 hf Kf (i + 1) t (heapL rs) S' born' → K t rs S' born') →
      CallK (CallX X S ns rows.length (heapL rows) fun v l l' new S' => decide (rows.length + l.length + new.length < 1000000) = true ∧ K (putL o.dst (ren (upE ns rows.length) v) tmps) (backR (upE ns rows.length) rows ns l l' ++ new.map fun b => some (renB (upE ns rows.length) b)) S' (bornN i rows.length (rows.length + new.length) ++ born)) (callA P (evA tmps) o.op)) (hnf : farB W i = false) : RGF X W ops n0 hf Kf i tmps (heapL rows) S born := by
  have hk := hk _ fun _ _ _ _ h => h
  cases hv : callA P (evA tmps) o.op with
  | none => rw [hv] at hk; exact hk.elim
  | some x =>
    obtain ⟨f, args⟩ := x
    rw [hv] at hk
    obtain ⟨zs, l, v, l', new, S', ⟨g, c, h1, v0, ex, R, d1, d2, d3, d4, d5, d6, d7⟩, rfl, hL, hlim, hK⟩ := hk
    have hlim := of_decide_eq_true hlim
    have hC := call_lent (ns := ns) (h := heapL rows) (o := o) (e := evA tmps) (f := f) (args := zs) (by rw [heapL_next]; exact hv) d1 d2 d3 d4 d5 d6 (heapL_low _) (by rw [heapL_next]; exact hL) hnd (by unfold VB; omega)
    rw [heapL_next, backH_L hlt] at hC
    refine .call' true f g c zs _ _ _ h1 ex v0 hnf (at_list ho) hw (opOK_all hb) (.inr (by rw [heapL_next, List.length_append, backR_len, List.length_map]; unfold VB; omega)) ⟨hq, hC⟩ d7 (fun n b hb => (hfar n b hb).elim) ?_
    rw [heapL_next, heapL_next, List.length_append, backR_len, List.length_map]
    exact hK
theorem oneD_ok {K : KF P X κ} {run : RunT κ} (hrun : RunOK K run) {rows rows' : List (Option Blk)} {s s' : κ} {v : Value} {W : List Nat} (hWok : WOK ops W) {de : DE} (hde : DEOK de) (hnf : farB W i = false) (hn : n ≤ 2 ^ d) (ho : ops.toList[i]? = some o) (hw : Region.wanted o (yieldedL ops (absT d n t)) = true) (hb : okK o.op = true) (hs : K.wf s)
    (h : (oneD K d n ((masksFrom ops.toList []).getD i 0) (W.contains i) o.op).f run t rows s de born = some (v, rows', s')) : K.wf s' ∧ (RGF X W ops de.n0 de.hf Kf (i + 1) (putL o.dst v (absT d n t)) (heapL rows') (K.abs s') (bornN i rows.length rows'.length ++ born) → RGF X W ops de.n0 de.hf Kf i (absT d n t) (heapL rows) (K.abs s) born) := by
  have hev := evF_eq hn t
  have hWk : kindK o.op ≠ 4 → kindK o.op ≠ 3 → W.contains i = false := fun hk hk' => by
    cases hc : W.contains i with
    | false => rfl
    | true => rcases hWok i (by simpa using hc) o ho with h | h
              · exact absurd h hk
              · exact absurd h hk'
  have hvl : ∀ {v'}, kindK o.op ≠ 2 → W.contains i = false → (valF P d n o.op).f t (visH de.n0 born ((masksFrom ops.toList []).getD i 0) (heapL rows)) = some v' → some (v', rows, s) = some (v, rows', s') → K.wf s' ∧ (RGF X W ops de.n0 de.hf Kf (i + 1) (putL o.dst v (absT d n t)) (heapL rows') (K.abs s') (bornN i rows.length rows'.length ++ born) → RGF X W ops de.n0 de.hf Kf i (absT d n t) (heapL rows) (K.abs s) born) := by
    intro v' hk2 hW hv h
    cases h
    have hv := valF_eq hv
    rw [hev] at hv
    refine ⟨hs, fun hk => RG.still (heapL_low _) (at_list ho) hw (okK_all hb) (kind_store hk2 hW) (.inl ⟨hv, rfl, rfl⟩) ?_ hnf⟩
    rw [bornN_nil] at hk
    exact hk
  have hnw : kindK o.op ≠ 2 → W.contains i = false → newK rows s ((newF P d n o.op).f t (visH de.n0 born ((masksFrom ops.toList []).getD i 0) (heapL rows)) rows.length) = some (v, rows', s') → K.wf s' ∧ (RGF X W ops de.n0 de.hf Kf (i + 1) (putL o.dst v (absT d n t)) (heapL rows') (K.abs s') (bornN i rows.length rows'.length ++ born) → RGF X W ops de.n0 de.hf Kf i (absT d n t) (heapL rows) (K.abs s) born) := by
    intro hk2 hW h
    unfold newK at h
    split at h
    · rename_i v' ob hv
      have hv := newF_eq hv
      rw [hev] at hv
      split at h
      · rename_i hl
        have hl := Nat.le_of_ble_eq_true hl
        cases h
        refine ⟨hs, fun hk => RGF.op' (h' := heapL (rows ++ [ob])) (S' := K.abs s) false hnf (at_list ho) hw (okK_all hb) (.inr ?_) ⟨kind_store hk2 hW, (visH de.n0 born ((masksFrom ops.toList []).getD i 0) (heapL rows)).addO ob, .inr (.inl ⟨ob, hv, rfl, rfl⟩), ?_⟩ (new_stay hde) ?_⟩
        · rw [heapL_next, List.length_append]; unfold VB; simp; omega
        · rw [glue_vis_add (heapL_low _), heapL_addO]
        · rw [heapL_next, heapL_next]; exact hk
      · cases h
    · cases h
  unfold oneD at h
  split at h
  · rename_i hk
    simp only at h
    split at h
    · rename_i v' hv; exact hvl (by rw [hk]; decide) (hWk (by rw [hk]; decide) (by rw [hk]; decide)) hv h
    · cases h
  · rename_i hk; exact hnw (by rw [hk]; decide) (hWk (by rw [hk]; decide) (by rw [hk]; decide)) h
  · rename_i hk2
    simp only at h
    split at h
    case h_2 => cases h
    rename_i hstok
    unfold wrK at h
    split at h
    · rename_i v' rows1 hv
      split at h
      · rename_i hl
        have hl := Nat.le_of_ble_eq_true hl
        cases h
        have hstay := wr_stay (n0 := de.n0) hde hstok hv
        rw [hev] at hv
        have hv := wrL_eq hv
        refine ⟨hs, fun hk => RGF.op' (h' := heapL rows') (S' := K.abs s) true hnf (at_list ho) hw (okK_all hb) ?_ ⟨?_, .inr (.inr (.inl ⟨hv, rfl⟩))⟩ hstay ?_⟩
        · rcases wrA_next1 hv with h | h
          · exact .inl h
          · exact .inr (by rw [h, heapL_next]; unfold VB; omega)
        · unfold wrB isStoreO
          unfold kindK at hk2
          split at hk2 <;> first | (cases hk2; done) | skip
          · rename_i hop; rw [hop]; rfl
          · split at hk2 <;> cases hk2
        · rw [heapL_next, heapL_next]; exact hk
      · cases h
    · cases h
  · rename_i hk3
    split at h
    · rename_i hin
      have hwr : wrB W i o = true := by unfold wrB; rw [hin, Bool.or_true]
      simp only at h
      split at h
      case h_2 => cases h
      rename_i hT
      have hfar : ∀ m b, de.hf.get m = some b → False := fun m b hb => by have := hde m b hb; rw [hT] at this; cases this
      unfold clK at h
      split at h
      · rename_i f args hca
        have hca := callF_eq hca
        rw [hev] at hca
        split at h
        · rename_i v1 s1 hp
          cases h
          obtain ⟨h1, h2, h3⟩ := K.prim_ok _ _ _ _ _ hs hp
          obtain ⟨g, h4, h5⟩ := fnOK_spec h3
          refine ⟨h1, fun hk => RGF.op' (h' := heapL rows) (S' := K.abs s') true hnf (at_list ho) hw (okK_all hb) (.inl rfl) ⟨hwr, .inr (.inr (.inr ⟨f, g, _, hca, h4, h5, h2, rfl⟩))⟩ (fun _ _ _ _ _ => rfl) ?_⟩
          rw [heapL_next]; exact hk
        split at h
        · rename_i v1 hkn
          cases h
          refine ⟨hs, fun hk => ?_⟩
          obtain ⟨g, c, h1, d1, d2, d3, d4, d5, d6⟩ := K.known_ok _ _ _ hkn (K.abs s)
          refine .call' (h' := heapL rows) true f g c _ idE idE (heapL []) h1 [] v hnf (at_list ho) hw (okK_all hb) (.inl rfl) ⟨hwr, call_bare h1 hca d1 d2 d3 d4 d5⟩ d6 (fun _ _ _ _ _ => rfl) ?_
          rw [heapL_next]; exact hk
        · obtain ⟨h1, ns, h2, h3, h4⟩ := callGo_ok (h := heapL rows) hrun (fun n b _ hb => by rw [heapL_get, hb]; simp) hs h
          refine ⟨h1, fun hk => RG.callXW ns ho hw (okK_call hb hk3) hwr h2 h3 hfar (fun Kk hKk => ?_) hnf⟩
          rw [hca]
          obtain ⟨zs, l, v0, l', new, S', d1, d2, d3, d4, d5, d6, d7, d8⟩ := h4
          refine ⟨zs, l, v0, l', new, S', d1, d2, d3, d5, ?_⟩
          rw [← d6, d8]
          simp only at d7
          rw [d7] at hk
          simp only [List.length_append, List.length_map, backR_len] at hk
          exact hKk _ _ _ _ hk
      · cases h
    · rename_i hin
      simp only at h
      unfold clK at h
      split at h
      · rename_i f args hca
        have hca := callF_eq hca
        rw [hev] at hca
        split at h
        · rename_i v1 s1 hp
          cases h
          obtain ⟨h1, h2, h3⟩ := K.prim_ok _ _ _ _ _ hs hp
          obtain ⟨g, h4, h5⟩ := fnOK_spec h3
          refine ⟨h1, fun hk => RG.prim (g := g) (heapL_low _) (at_list ho) hw (okK_all hb) (kind_store (by rw [hk3]; decide) hin) ?_ hnf⟩
          rw [bornN_nil] at hk
          rw [hca]
          exact ⟨h4, h5, _, _, h2, hk⟩
        split at h
        · rename_i v1 hkn
          cases h
          refine ⟨hs, fun hk => RG.call (heapL_low _) (at_list ho) hw (okK_all hb) (kind_store (by rw [hk3]; decide) hin) ?_ hnf⟩
          rw [bornN_nil] at hk
          rw [hca]
          exact ⟨_, _, K.known_ok _ _ _ hkn _, hk⟩
        · obtain ⟨h1, ns, h2, h3, h4⟩ := callGo_ok (h := visH de.n0 born ((masksFrom ops.toList []).getD i 0) (heapL rows)) hrun (fun n b hv hb => vis_get hv hb) hs h
          refine ⟨h1, fun hk => RG.callX ns ho hw (okK_call hb hk3) (kind_store (by rw [hk3]; decide) hin) h2 (fun Kk hKk => ?_) hnf⟩
          rw [hca]
          obtain ⟨zs, l, v0, l', new, S', d1, d2, d3, d4, d5, d6, d7, d8⟩ := h4
          refine ⟨zs, l, v0, l', new, S', d1, d2, d3, ⟨d4 rfl, d5⟩, ?_⟩
          rw [← d6, d8]
          simp only at d7
          rw [d7] at hk
          simp only [List.length_append, List.length_map] at hk
          exact hKk _ _ _ _ hk
      · cases h
  · rename_i hk4
    split at h
    · rename_i hin
      have hwr : wrB W i o = true := by unfold wrB; rw [hin, Bool.or_true]
      simp only at h
      split at h
      case h_2 => cases h
      rename_i hstok
      split at h
      · rename_i x hx
        cases h
        unfold newK at hx
        split at hx
        · rename_i v' ob hv
          have hv := newF_eq hv
          rw [hev] at hv
          split at hx
          · rename_i hl
            have hl := Nat.le_of_ble_eq_true hl
            cases hx
            refine ⟨hs, fun hk => RGF.op' (h' := heapL (rows ++ [ob])) (S' := K.abs s) true hnf (at_list ho) hw (okK_all hb) (.inr ?_) ⟨hwr, .inr (.inl ⟨ob, hv, (heapL_addO rows ob).symm, rfl⟩)⟩ (new_stay hde) ?_⟩
            · rw [heapL_next, List.length_append]; unfold VB; simp; omega
            · rw [heapL_next, heapL_next]; exact hk
          · cases hx
        · cases hx
      · unfold wrK at h
        split at h
        · rename_i v' rows1 hv
          split at h
          · rename_i hl
            have hl := Nat.le_of_ble_eq_true hl
            cases h
            have hstay := wr_stay (n0 := de.n0) hde hstok hv
            rw [hev] at hv
            have hv := wrL_eq hv
            refine ⟨hs, fun hk => RGF.op' (h' := heapL rows') (S' := K.abs s) true hnf (at_list ho) hw (okK_all hb) ?_ ⟨hwr, .inr (.inr (.inl ⟨hv, rfl⟩))⟩ hstay ?_⟩
            · rcases wrA_next1 hv with h | h
              · exact .inl h
              · exact .inr (by rw [h, heapL_next]; unfold VB; omega)
            · rw [heapL_next, heapL_next]; exact hk
          · cases h
        · cases h
    · rename_i hin
      exact hnw (by rw [hk4]; decide) hin h
  · rename_i hn0 hn1 hn2 hn3 hn4
    simp only at h
    split at h
    · rename_i v' hv; exact hvl (fun hc => hn2 hc) (hWk (fun hc => hn4 hc) (fun hc => hn3 hc)) hv h
    · cases h
theorem farD_ok {K : KF P X κ} {run : RunT κ} (hrun : RunOK K run) {rows rows' : List (Option Blk)} {s s' : κ} {v : Value} {W : List Nat} (hWok : WOK ops W) {de : DE} (hde : DEOK de) (hn : n ≤ 2 ^ d) (ho : ops.toList[i]? = some o) (hw : Region.wanted o (yieldedL ops (absT d n t)) = true) (hb : okK o.op = true) (hs : K.wf s)
    (h : (farD K d n W ((masksFrom ops.toList []).getD i 0) i o.op).f run t rows s de born = some (v, rows', s')) : K.wf s' ∧ (RGF X W ops de.n0 de.hf Kf (i + 1) (putL o.dst v (absT d n t)) (heapL rows') (K.abs s') (bornN i rows.length rows'.length ++ born) → RGF X W ops de.n0 de.hf Kf i (absT d n t) (heapL rows) (K.abs s) born) := by
  unfold farD at h
  split at h
  · rename_i hnf
    exact oneD_ok hrun hWok hde hnf hn ho hw hb hs h
  · rename_i hfar
    split at h
    · rename_i hk0
      simp only at h
      split at h
      · rename_i v' hv
        cases h
        have hv := valF_eq hv
        rw [evF_eq hn] at hv
        refine ⟨hs, fun hk => RGF.far' (at_list ho) hw (okK_all hb) (kind_store (by rw [hk0]; decide) ?_) hfar hv ?_⟩
        · cases hc : W.contains i with
          | false => rfl
          | true => have := hWok i (by simpa using hc) o ho; rw [hk0] at this; rcases this with h | h <;> cases h
        · rw [bornN_nil] at hk; exact hk
      · cases h
    · cases h
theorem opsD_ok {K : KF P X κ} {run : RunT κ} (hrun : RunOK K run) {W : List Nat} (hWok : WOK ops W) {de : DE} (hde : DEOK de) (hn : n ≤ 2 ^ d) : ∀ (l : List Oper) (i : Nat) (t t' : FR d) (rows rows' : List (Option Blk)) (s s' : κ) (born : List (Nat × Nat)), i ≤ ops.size → ops.toList.drop i = l → K.wf s → (opsD K d n ops W (masksFrom ops.toList []) l i).f run t rows s de born = some ⟨t', rows', s'⟩ →
    K.wf s' ∧ (Kf (absT d n t') (heapL rows') (K.abs s') → RGF X W ops de.n0 de.hf Kf i (absT d n t) (heapL rows) (K.abs s) born)
  | [], i, t, t', rows, rows', s, s', born, hi, hd, hs, h => by
    cases h
    refine ⟨hs, fun hk => ?_⟩
    have h2 := List.drop_eq_nil_iff.1 hd
    exact RGF.nil' (by simp at h2; omega) hk
  | o :: l, i, t, t', rows, rows', s, s', born, hi, hd, hs, h => by
    have hi' : i + 1 ≤ ops.size := by
      have := congrArg List.length hd
      simp at this; omega
    have ho : ops.toList[i]? = some o := by
      have := congrArg (fun q => q[0]?) hd
      simpa [List.getElem?_drop] using this
    have hd' : ops.toList.drop (i + 1) = l := by
      rw [← List.drop_drop, hd]; rfl
    have hact : okK o.op = true → Region.wanted o (yieldedL ops (absT d n t)) = true → (goOnD d n i o.dst (opsD K d n ops W (masksFrom ops.toList []) l (i + 1))).f run t rows.length de born ((farD K d n W ((masksFrom ops.toList []).getD i 0) i o.op).f run t rows s de born) = some ⟨t', rows', s'⟩ → K.wf s' ∧ (Kf (absT d n t') (heapL rows') (K.abs s') → RGF X W ops de.n0 de.hf Kf i (absT d n t) (heapL rows) (K.abs s) born) := by
      intro hb hw h
      simp only [goOnD] at h
      split at h
      · rename_i v rows1 s1 h1
        obtain ⟨g1, g2⟩ := farD_ok (Kf := Kf) hrun hWok hde hn ho hw hb hs h1
        obtain ⟨q2, q3⟩ := opsD_ok hrun hWok hde hn l (i + 1) _ _ _ _ _ _ _ hi' hd' g1 h
        exact ⟨q2, fun hk => g2 (by rw [← dstF_eq hn]; exact q3 hk)⟩
      · cases h
    unfold opsD stepD at h
    split at h
    · cases h
    · rename_i hb
      split at h
      · rename_i hg
        exact hact hb (by unfold Region.wanted; rw [hg]) h
      · rename_i j w hg
        simp only at h
        split at h
        · rename_i hwt
          rw [wantB_eq, yieldF_eq hn] at hwt
          exact hact hb (by unfold Region.wanted; rw [hg]; exact hwt) h
        · rename_i hwt
          rw [wantB_eq, yieldF_eq hn] at hwt
          obtain ⟨q2, q3⟩ := opsD_ok hrun hWok hde hn l (i + 1) _ _ _ _ _ _ _ hi' hd' hs h
          exact ⟨q2, fun hk => RG.skip (at_list ho) (by unfold Region.wanted; rw [hg]; exact hwt) (by rw [← dstF_eq hn]; exact q3 hk)⟩
theorem ctl_nil {todo todo' : List Item} (h : ctl [] todo = some todo') (tmps : List Value) : ctl tmps todo = some todo' := by
  unfold ctl at h ⊢
  split at h
  case h_5 c x y k =>
    cases c with
    | tmp t => simp [evA, undef] at h
    | const v => exact h
    | global g => simp [evA, undef] at h
    | func f => simp [evA] at h
  all_goals first | exact h | (cases h; done)
theorem frameF_ok {d n : Nat} (hn : n ≤ 2 ^ d) : ∀ (zs : List Value) (i : Nat) (t : FR d), i + zs.length ≤ n → absT d n (frameF d n zs i t) = (absT d n t).take i ++ zs ++ (absT d n t).drop (i + zs.length)
  | [], i, t, hi => by simp [frameF]
  | v :: zs, i, t, hi => by
    simp only [List.length_cons] at hi
    have hl := absT_len (t := t) hn
    have p1 := sF_eq hn t i v
    have q2 := frameF_ok hn zs (i + 1) ((sF d n i).f t v) (by omega)
    simp only [frameF]
    rw [q2, p1, List.take_set, List.drop_set_of_lt (by omega), List.length_cons]
    have h1 : ((absT d n t).take (i + 1)).set i v = (absT d n t).take i ++ [v] := by
      rw [List.set_eq_take_append_cons_drop, if_pos (by simp; omega), List.take_take, List.drop_eq_nil_of_le (by simp; omega)]
      rw [Nat.min_eq_left (by omega)]
    rw [h1, show i + 1 + zs.length = i + (zs.length + 1) by omega]
    simp
def NextOK (X : Face P σ) (fn : Func) (A : Conf σ → Prop) (tmps : List Value) (h : AHeap) (S : σ) : Do' → Prop
  | .ret => ∀ todo', retB todo' = true → Goes X fn A (.run todo' tmps h S)
  | .reg ops k => At X fn A ops k 0 tmps h S
  | .drw _ ops k => ∀ id, Goes X fn A (.run (.code (.region id ops true) :: k) tmps h S)
  | .cnd c x y => ∃ b, evA tmps c = .bool b ∧ Goes X fn A (.run (if b then x else y) tmps h S)
  | .bad => False
theorem nextT_ok {fn : Func} {A : Conf σ → Prop} {tmps : List Value} {h : AHeap} {S : σ} : ∀ (f : Nat) (todo : List Item) (r : Do'), nextT f todo = r → NextOK X fn A tmps h S r → Goes X fn A (.run todo tmps h S)
  | 0, todo, r, e, hk => by subst e; exact hk.elim
  | f + 1, todo, r, e, hk => by
    unfold nextT at e
    split at e
    · subst e; exact hk [] rfl
    · rename_i k; subst e; exact hk (.code .ret :: k) rfl
    · subst e; exact Goes.reg hk
    · rename_i id ops k
      split at e
      · subst e; exact hk id
      · subst e; exact hk.elim
    · rename_i c x y k
      subst e
      obtain ⟨b, hb, hg⟩ := hk
      refine Goes.cond hb (fun e => ?_) (fun e => ?_)
      · subst e; exact hg
      · subst e; exact hg
    · split at e
      · rename_i todo' hc
        exact .ctl (ctl_nil hc _) (nextT_ok f todo' r e hk)
      · subst e; exact hk.elim
theorem nextT_draw : ∀ (f : Nat) (todo : List Item) {W : List Nat} {ops : Array Oper} {k : List Item}, nextT f todo = .drw W ops k → drawW ops = some W
  | 0, _, _, _, _, h => by cases h
  | f + 1, todo, W, ops, k, h => by
    unfold nextT at h
    split at h
    · cases h
    · cases h
    · cases h
    · split at h
      · rename_i hW; cases h; exact hW
      · cases h
    · cases h
    · split at h
      · exact nextT_draw f _ h
      · cases h
theorem depN_le {n : Nat} (h : n ≤ 4000000) : n ≤ 2 ^ depN n := by
  unfold depN
  split
  all_goals first
    | exact Nat.le_trans (Nat.le_of_ble_eq_true ‹Nat.ble n _ = true›) (by decide)
    | exact Nat.le_trans h (by decide)
theorem goK_ok (K : KF P X κ) : ∀ (m : Nat) (fn : Func) (todo : List Item) (t : FR (depN fn.ntmps)) (rows rows' : List (Option Blk)) (s s' : κ) (v : Value), fn.ntmps ≤ 2 ^ depN fn.ntmps → K.wf s → goK K m fn todo t rows s = some (v, rows', s') →
    K.wf s' ∧ Goes X fn (fun x => x = .done v (heapL rows') (K.abs s')) (.run todo (absT (depN fn.ntmps) fn.ntmps t) (heapL rows) (K.abs s))
  | 0, _, _, _, _, _, _, _, _, _, _, h => by cases h
  | m + 1, fn, todo, t, rows, rows', s, s', v, ht, hs, h => by
    simp only [goK] at h
    generalize hrunE : (fun (g : Func) (c : Code) (args : List Value) (l : List (Option Blk)) (s : κ) => match Nat.ble args.length g.ntmps && Nat.ble g.ntmps 4000000 with
      | true => goK K m g [.code c] (frameF (depN g.ntmps) g.ntmps args 0 (manyT undef (depN g.ntmps))) l s
      | false => none) = run at h
    have hrun : RunOK K run := by
      intro g c zs l s v rows1 s' hs hr
      subst hrunE
      simp only at hr
      split at hr
      · rename_i hb
        simp only [Bool.and_eq_true] at hb
        have h1 := Nat.le_of_ble_eq_true hb.1
        have h2 := depN_le (Nat.le_of_ble_eq_true hb.2)
        have f2 := frameF_ok h2 zs 0 (manyT undef (depN g.ntmps)) (by omega)
        obtain ⟨g1, g2⟩ := goK_ok K m _ _ _ _ _ _ _ _ h2 hs hr
        refine ⟨g1, ?_⟩
        rw [f2, absT_many undef h2] at g2
        simp only [List.take_zero, List.nil_append, Nat.zero_add, List.drop_replicate] at g2
        exact g2
      · cases hr
    have hnext := fun r e => nextT_ok (X := X) (fn := fn) (A := fun x => x = .done v (heapL rows') (K.abs s')) (tmps := absT (depN fn.ntmps) fn.ntmps t) (h := heapL rows) (S := K.abs s) 1000 todo r e
    split at h
    · rename_i hx
      split at h
      · rename_i v' hv
        cases h
        have hv := resF_eq ht hv
        exact ⟨hs, hnext _ hx fun todo' hr => .ret hr hv (.here rfl)⟩
      · cases h
    · rename_i ops k hx
      split at h
      · rename_i t1 rows1 s1 h1
        obtain ⟨q2, q3⟩ := opsF_ok (fn := fn) (A := fun x => x = .done v (heapL rows') (K.abs s')) (k := k) hrun ht _ 0 _ _ _ _ _ _ rfl hs h1
        obtain ⟨g1, g2⟩ := goK_ok K m _ _ _ _ _ _ _ _ ht q2 h
        exact ⟨g1, hnext _ hx (q3 g2)⟩
      · cases h
    · rename_i W ops k hx
      split at h
      · rename_i t1 rows1 s1 h1
        have hW : drawW ops = some W := nextT_draw 1000 todo hx
        obtain ⟨hB, hWok⟩ := drawW_ok hW
        have hde : DEOK (match (farT (depN fn.ntmps) fn.ntmps W ops.toList 0).f t with | [] => ⟨rows.length, [], AHeap.none⟩ | T => ⟨rows.length, T, farH T rows⟩) := by
          split
          · intro m b hb; cases hb
          · intro m b hb
            unfold farH at hb
            simp only at hb
            split at hb
            · rename_i he; simpa using he
            · cases hb
        have hfst : ∀ m b, (match (farT (depN fn.ntmps) fn.ntmps W ops.toList 0).f t with | [] => ⟨rows.length, [], AHeap.none⟩ | T => ⟨rows.length, T, farH T rows⟩ : DE).hf.get m = some b → m < (heapL rows).next ∧ ∃ b0, b = { b0 with ro := true } ∧ (heapL rows).get m = some b0 := by
          split
          · intro m b hb; cases hb
          · intro m b hb
            unfold farH at hb
            simp only at hb
            split at hb
            · cases hg : (rows[m]?).join with
              | none => rw [hg] at hb; cases hb
              | some b0 =>
                rw [hg] at hb
                cases hb
                exact ⟨by rw [heapL_next]; exact row_lt hg, b0, rfl, hg⟩
            · cases hb
        have hn0 : (match (farT (depN fn.ntmps) fn.ntmps W ops.toList 0).f t with | [] => ⟨rows.length, [], AHeap.none⟩ | T => ⟨rows.length, T, farH T rows⟩ : DE).n0 = (heapL rows).next := by split <;> rfl
        obtain ⟨q2, q3⟩ := opsD_ok (Kf := fun tt hh SS => Goes X fn (fun x => x = .done v (heapL rows') (K.abs s')) (.run k tt hh SS)) hrun hWok hde ht _ 0 _ _ _ _ _ _ _ (Nat.zero_le _) rfl hs h1
        obtain ⟨g1, g2⟩ := goK_ok K m _ _ _ _ _ _ _ _ ht q2 h
        exact ⟨g1, hnext _ hx fun id => Goes.drawF W hB _ hfst (by rw [← hn0]; exact q3 g2)⟩
      · cases h
    · rename_i c x y hx
      split at h
      · rename_i hb
        have hb' : evA (absT (depN fn.ntmps) fn.ntmps t) c = .bool true := by rw [← evF_eq ht]; exact hb
        obtain ⟨g1, g2⟩ := goK_ok K m _ _ _ _ _ _ _ _ ht hs h
        exact ⟨g1, hnext _ hx ⟨true, hb', g2⟩⟩
      · rename_i hb
        have hb' : evA (absT (depN fn.ntmps) fn.ntmps t) c = .bool false := by rw [← evF_eq ht]; exact hb
        obtain ⟨g1, g2⟩ := goK_ok K m _ _ _ _ _ _ _ _ ht hs h
        exact ⟨g1, hnext _ hx ⟨false, hb', g2⟩⟩
      · cases h
    · cases h
end
end Go.Proofs.Ytjdbknnacaacaaa
