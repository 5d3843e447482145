/-
  The abstract machine, part 5: one operation, whatever the world: what holds behind it.
  No condition: laws.
-/
import Derived.Test.YtceddijolfpppaaAx4
namespace Go.Proofs.Ytceddijolfpppaa
open Go Go.RowKit
set_option linter.unusedSimpArgs false
set_option linter.unusedVariables false

section
variable {P : Program} {σ : Type} {X : Face P σ} {F : Emb} {w0 w : World} {M K : Nat → Prop} {vs : Value → Prop} {h : AHeap} {S : σ}

theorem Stab.undef {K : Nat → Prop} {F : Emb} : Stab K F undef := Stab.plain (by simp [Go.undef, plainB])

theorem Stab.cells {K : Nat → Prop} {F : Emb} {v : Value} (hv : Stab K F v) : ∀ c ∈ v.cells.toList, Stab K F c := by
  intro c hc F' hs
  have := congrArg Value.cells (hv F' hs)
  rw [cells_ren, cells_ren] at this
  have h2 := congrArg Array.toList this
  simp only [Array.toList_map] at h2
  exact List.map_inj_left.1 h2 c hc

theorem evals_stab {tmps : List Value} (hv : ∀ v ∈ tmps, Stab K F v) (x : Operand) (hx : operB x = true) : Stab K F (evA tmps x) := by
  cases x with
  | tmp t =>
    simp only [evA]
    by_cases ht : t < tmps.length
    · rw [show tmps.getD t Go.undef = tmps[t] by simp [List.getD, ht]]
      exact hv _ (List.getElem_mem ht)
    · rw [show tmps.getD t Go.undef = Go.undef by simp [List.getD, Nat.not_lt.1 ht]]
      exact Stab.undef
  | const v => exact Stab.plain hx
  | global g => cases hx
  | func f => intro F' _; simp [evA]

theorem putL_stab {tmps : List Value} {v : Value} (hv : ∀ u ∈ tmps, Stab K F u) (h : Stab K F v) (dst : Option Tmp) : ∀ u ∈ putL dst v tmps, Stab K F u := by
  intro u hu
  cases dst with
  | none => exact hv u hu
  | some d =>
    rcases List.mem_or_eq_of_mem_set hu with hu | rfl
    · exact hv u hu
    · exact h

theorem AInv.vals' {vs' : Value → Prop} (I : AInv X F w0 M K vs h S w) (hv : ∀ v, vs' v → Stab K F v) : AInv X F w0 M K vs' h S w :=
  ⟨I.holds, I.rep, hv, I.hst, I.hk, I.hand, I.klim, I.kept, I.own, I.fown, I.sep⟩

theorem AInv.kmono {K' : Nat → Prop} (I : AInv X F w0 M K vs h S w) (hK : ∀ n, K n → K' n) (hl : ∀ n, K' n → n < VB + X.cnt S) : AInv X F w0 M K' vs h S w :=
  ⟨I.holds, I.rep, fun v hv => (I.vst v hv).move (Same.refl _ _) hK, fun n b hb v hv => (I.hst n b hb v hv).move (Same.refl _ _) hK, fun n b hb => ⟨hK n (I.hk n b hb).1, (I.hk n b hb).2⟩, fun n h1 h2 => hK n (I.hand n h1 h2), hl, I.kept, I.own, I.fown, I.sep⟩

def Emb.set (F : Emb) (n b bs sl : Nat) : Emb := ⟨fun m => if m = n then b else F.blk m, fun m => if m = n then bs else F.base m, fun m => if m = n then sl else F.slack m⟩
theorem Emb.set_same (F : Emb) {n b bs sl : Nat} (hn : ¬ K n) : Same K F (F.set n b bs sl) := by
  intro m hm
  have : m ≠ n := by rintro rfl; exact hn hm
  simp [Emb.set, this]
theorem Emb.set_at (F : Emb) (n b bs sl : Nat) : (F.set n b bs sl).blk n = b ∧ (F.set n b bs sl).base n = bs ∧ (F.set n b bs sl).slack n = sl := by simp [Emb.set]

theorem kn_le {n m c d : Nat} (h1 : n ≤ m) (h2 : c ≤ d) : ∀ x, Kn n c x → Kn m d x := by
  intro x hx
  rcases hx with hx | hx
  · exact .inl (by omega)
  · exact .inr (by omega)

/-- The embedding turns where nothing is known. -/
theorem AInv.same (I : AInv X F w0 M K vs h S w) {F' : Emb} (hs : Same K F F') : AInv X F' w0 M K vs h S w := by
  have he : ∀ n b, h.get n = some b → F'.blk n = F.blk n := fun n b hb => (hs n (I.hk n b hb).1).1.symm
  have hh := X.rep_same F F' S w (hs.mono (fun n hn => I.hand n hn.1 hn.2)) I.rep
  exact ⟨I.holds.same (fun n b hb => (I.hk n b hb).1) I.hst hs, hh.1, fun v hv => (I.vst v hv).move hs (fun _ h => h), fun n b hb v hv => (I.hst n b hb v hv).move hs (fun _ h => h), I.hk, I.hand, I.klim, I.kept,
    fun n b hb hr hx => by rw [he n b hb] at hx ⊢; exact I.own n b hb hr hx, fun b hb hx => I.fown b (hh.2 b hb) hx, fun n b hb hx => by rw [he n b hb] at hx; exact I.sep n b hb (hh.2 _ hx)⟩

/-- A new name. -/
theorem AInv.add (I : AInv X F w0 M K vs h S w) {n : Nat} (hn : ¬ K n) (hnV : n < VB) {h' : AHeap} {ob : Option Blk} {bk bs sl : Nat} {w' : World} (hg : ∀ m, h'.get m = if m = n then ob else h.get m) (hc : ∀ b, ob = some b → ∀ c ∈ b.cells, Stab K F c)
    (hw : (ob = none ∧ w' = w) ∨ ∃ (b : Blk) (post : Array Value), ob = some b ∧ b.ro = false ∧ bk = w.heap.size ∧ bs = 0 ∧ Grew w w' (.cells ((b.cells.map (ren F)).toArray ++ post) b.elem (0, 0)) ∧ (b.grow = some 0 → sl = 0) ∧ (∀ s, b.grow = some (s + 1) → sl * (s + 1) ≤ post.size)) :
    AInv X (F.set n bk bs sl) w0 M (fun x => K x ∨ x = n) vs h' S w' := by
  have hs : Same K F (F.set n bk bs sl) := F.set_same hn
  have I' := (I.same hs).kmono (K' := fun x => K x ∨ x = n) (fun x hx => .inl hx) (fun x hx => by rcases hx with hx | rfl; exact I.klim x hx; omega)
  obtain ⟨e1, e2, e3⟩ := F.set_at n bk bs sl
  have hne : ∀ m c, h.get m = some c → m ≠ n := fun m c hc => by rintro rfl; exact hn (I.hk m c hc).1
  rcases hw with ⟨rfl, rfl⟩ | ⟨b, post, rfl, hro, rfl, rfl, hgr, hg0, hg1⟩
  · have hg' : ∀ m c, h'.get m = some c → h.get m = some c := fun m c hm => by
      rw [hg] at hm
      split at hm
      · cases hm
      · exact hm
    exact ⟨⟨fun m c hm => I'.holds.row m c (hg' m c hm), fun m k c d hm hk => I'.holds.apart m k c d (hg' m c hm) (hg' k d hk)⟩, I'.rep, I'.vst, fun m c hm => I'.hst m c (hg' m c hm), fun m c hm => I'.hk m c (hg' m c hm), I'.hand, I'.klim, I'.kept, fun m c hm => I'.own m c (hg' m c hm), I'.fown, fun m c hm => I'.sep m c (hg' m c hm)⟩
  · have hget : ∀ m c, h'.get m = some c → (m = n ∧ c = b) ∨ (m ≠ n ∧ h.get m = some c) := fun m c hm => by
      rw [hg] at hm
      split at hm
      · rename_i e; cases hm; exact .inl ⟨e, rfl⟩
      · rename_i e; exact .inr ⟨e, hm⟩
    have hold : ∀ x, x < w.heap.size → w'.heap[x]? = w.heap[x]? := fun x hx => by
      rw [hgr.heap, Array.getElem?_push, if_neg (by omega)]
    have hlt : ∀ m c, h.get m = some c → (F.set n w.heap.size 0 sl).blk m < w.heap.size := fun m c hm => I'.holds.blk_lt hm
    refine ⟨⟨?_, ?_⟩, ?_, I'.vst, ?_, ?_, I'.hand, I'.klim, ?_, ?_, I'.fown, ?_⟩
    · intro m c hm
      rcases hget m c hm with ⟨rfl, rfl⟩ | ⟨hne, hm⟩
      · refine ⟨#[], post, (0, 0), ?_, by rw [e2]; rfl, fun _ => rfl, fun h => by rw [e3]; exact hg0 h, fun s h => by rw [e3]; exact hg1 s h⟩
        rw [e1, hgr.heap, Array.getElem?_push, if_pos rfl]
        rw [show c.cells.map (ren (F.set m w.heap.size 0 sl)) = c.cells.map (ren F) from List.map_congr_left fun v hv => hc c rfl v hv _ hs]
        simp
      · obtain ⟨pre, post, fr, h1, h2⟩ := I'.holds.row m c hm
        exact ⟨pre, post, fr, by rw [hold _ (hlt m c hm)]; exact h1, h2⟩
    · intro m k c d hm hk hmk hr
      rcases hget m c hm with ⟨hm1, _⟩ | ⟨hm1, hm'⟩ <;> rcases hget k d hk with ⟨hk1, _⟩ | ⟨hk1, hk'⟩
      · exact absurd (hm1.trans hk1.symm) hmk
      · rw [hm1, e1]; have := hlt k d hk'; omega
      · rw [hk1, e1]; have := hlt m c hm'; omega
      · exact I'.holds.apart m k c d hm' hk' hmk hr
    · exact X.rep_kept _ _ _ _ I'.rep (by rw [hgr.heap]; simp) (fun x hx => hold x (X.fp_low _ _ _ _ I'.rep hx))
    · intro m c hm v hv
      rcases hget m c hm with ⟨_, rfl⟩ | ⟨_, hm⟩
      · exact (hc c rfl v hv).move hs (fun x hx => .inl hx)
      · exact I'.hst m c hm v hv
    · intro m c hm
      rcases hget m c hm with ⟨rfl, rfl⟩ | ⟨_, hm⟩
      · exact ⟨.inr rfl, hnV⟩
      · exact I'.hk m c hm
    · exact ⟨hgr.os.trans I.kept.os, hgr.tape.trans I.kept.tape, hgr.output.trans I.kept.output, Nat.le_trans I.kept.size (by rw [hgr.heap]; simp), fun x hx hn => (hold x (Nat.lt_of_lt_of_le hx I.kept.size)).trans (I.kept.block x hx hn)⟩
    · intro m c hm hr hx
      rcases hget m c hm with ⟨rfl, rfl⟩ | ⟨_, hm⟩
      · rw [e1] at hx; have := I.kept.size; omega
      · exact I'.own m c hm hr hx
    · intro m c hm hx
      rcases hget m c hm with ⟨rfl, rfl⟩ | ⟨_, hm⟩
      · rw [e1] at hx
        have := X.fp_low _ _ _ _ I'.rep hx
        omega
      · exact I'.sep m c hm hx

theorem wrote_other (w : World) (b : Nat) (c : Array Value) (x : Nat) (hx : x ≠ b) : (wrote w b c).heap[x]? = w.heap[x]? := by
  unfold wrote
  simp only [Array.getElem?_modify, if_neg (Ne.symm hx)]
theorem wrote_at {w : World} {b : Nat} {c c' : Array Value} {el : TypeId} {fr : Nat × Nat} (h : w.heap[b]? = some (.cells c el fr)) : (wrote w b c').heap[b]? = some (.cells c' el fr) := by
  unfold wrote
  simp only [Array.getElem?_modify, if_pos, h, Option.map_some]

theorem wrote_size (w : World) (b : Nat) (c : Array Value) : (wrote w b c).heap.size = w.heap.size := by simp [wrote]

/-- A row is gone. -/
theorem AInv.kill (I : AInv X F w0 M K vs h S w) (n : Nat) : AInv X F w0 M K vs (h.putO n none) S w := by
  have hg : ∀ m c, (h.putO n none).get m = some c → m ≠ n ∧ h.get m = some c := fun m c hm => by
    rw [AHeap.putO_get] at hm
    split at hm
    · cases hm
    · rename_i e; exact ⟨e, hm⟩
  exact ⟨⟨fun m c hm => I.holds.row m c (hg m c hm).2, fun m k c d hm hk => I.holds.apart m k c d (hg m c hm).2 (hg k d hk).2⟩, I.rep, I.vst, fun m c hm => I.hst m c (hg m c hm).2, fun m c hm => I.hk m c (hg m c hm).2, I.hand, I.klim, I.kept, fun m c hm => I.own m c (hg m c hm).2, I.fown, fun m c hm => I.sep m c (hg m c hm).2⟩

/-- A block of which no row that is left is one turns. -/
theorem AInv.turned (I : AInv X F w0 M K vs h S w) {B : Nat} (hB : ∀ m c, h.get m = some c → F.blk m ≠ B) (hf : ¬ X.fp F S B) (hm : B < w0.heap.size → M B) (c : Array Value) : AInv X F w0 M K vs h S (wrote w B c) := by
  refine ⟨I.holds.kept fun m c' hm => wrote_other _ _ _ _ (hB m c' hm), X.rep_kept _ _ _ _ I.rep (by rw [wrote_size]; exact Nat.le_refl _) (fun x hx => wrote_other _ _ _ _ (fun e => hf (e ▸ hx))), I.vst, I.hst, I.hk, I.hand, I.klim, ?_, I.own, I.fown, I.sep⟩
  exact ⟨I.kept.os, I.kept.tape, I.kept.output, by rw [wrote_size]; exact I.kept.size, fun x hx hn => by
    rw [wrote_other _ _ _ _ (fun e => hn (by rw [e]; exact hm (by rw [← e]; exact hx)))]
    exact I.kept.block x hx hn⟩

/-- A row that is in the world, and of which no other row is one, is known by a name. -/
theorem AInv.put (I : AInv X F w0 M K vs h S w) {n : Nat} (hK : K n) (hnV : n < VB) {b : Blk} {pre post : Array Value} (hr : w.heap[F.blk n]? = some (.cells (pre ++ (b.cells.map (ren F)).toArray ++ post) b.elem (0, 0))) (hp : pre.size = F.base n) (h0 : b.grow = some 0 → F.slack n = 0) (h1 : ∀ s, b.grow = some (s + 1) → F.slack n * (s + 1) ≤ post.size)
    (hB : ∀ m c, h.get m = some c → m ≠ n → F.blk m ≠ F.blk n) (hf : ¬ X.fp F S (F.blk n)) (hm : F.blk n < w0.heap.size → M (F.blk n)) (hc : ∀ c ∈ b.cells, Stab K F c) {h' : AHeap} (hg : ∀ m, h'.get m = if m = n then some b else h.get m) : AInv X F w0 M K vs h' S w := by
  have hget : ∀ m c, h'.get m = some c → (m = n ∧ c = b) ∨ (m ≠ n ∧ h.get m = some c) := fun m c hm => by
    rw [hg] at hm
    split at hm
    · rename_i e; cases hm; exact .inl ⟨e, rfl⟩
    · rename_i e; exact .inr ⟨e, hm⟩
  refine ⟨⟨?_, ?_⟩, I.rep, I.vst, ?_, ?_, I.hand, I.klim, I.kept, ?_, I.fown, ?_⟩
  · intro m c hm
    rcases hget m c hm with ⟨rfl, rfl⟩ | ⟨_, hm⟩
    · exact ⟨pre, post, (0, 0), hr, hp, fun _ => rfl, h0, h1⟩
    · exact I.holds.row m c hm
  · intro m k c d hm hk hmk hro
    rcases hget m c hm with ⟨hm1, _⟩ | ⟨hm1, hm'⟩ <;> rcases hget k d hk with ⟨hk1, _⟩ | ⟨hk1, hk'⟩
    · exact absurd (hm1.trans hk1.symm) hmk
    · rw [hm1]; exact (hB k d hk' hk1).symm
    · rw [hk1]; exact hB m c hm' hm1
    · exact I.holds.apart m k c d hm' hk' hmk hro
  · intro m c hm v hv
    rcases hget m c hm with ⟨_, rfl⟩ | ⟨_, hm⟩
    · exact hc v hv
    · exact I.hst m c hm v hv
  · intro m c hm
    rcases hget m c hm with ⟨rfl, _⟩ | ⟨_, hm⟩
    · exact ⟨hK, hnV⟩
    · exact I.hk m c hm
  · intro m c hm' hr' hx
    rcases hget m c hm' with ⟨rfl, _⟩ | ⟨_, hm'⟩
    · exact hm hx
    · exact I.own m c hm' hr' hx
  · intro m c hm' hx
    rcases hget m c hm' with ⟨rfl, _⟩ | ⟨_, hm'⟩
    · exact hf hx
    · exact I.sep m c hm' hx

theorem slice_stab {a : Addr} {n c n' c' : Nat} (hv : Stab K F (.slice (some a) n c)) (hc : c' = c) : Stab K F (.slice (some a) n' c') := by
  subst hc
  intro F' hs
  have := hv F' hs
  simp only [ren_ssome, Value.slice.injEq, Option.some.injEq] at this
  simp only [ren_ssome, this.1]
  congr 1
  exact this.2.2

/-- What has written. -/
theorem AInv.wrote' (I : AInv X F w0 M K vs h S w) {e : Operand → Value} {xs : Array Operand} (hx : ∀ x ∈ xs, Stab K F (e x)) {v u : Value} {h' : AHeap} {w' : World} (hW : Wrote F e xs h w v h' u w') (hn : ∀ x, h.next ≤ x → x < h'.next → ¬ K x ∧ x < VB) :
    h.next ≤ h'.next ∧ ∃ F', u = ren F' v ∧ Same K F F' ∧ AInv X F' w0 M (fun x => K x ∨ (h.next ≤ x ∧ x < h'.next)) (fun x => x = v) h' S w' := by
  have hno : ∀ {n m : Nat}, m = n → ∀ x, ¬ (n ≤ x ∧ x < m) := by intro n m hm x; omega
  have hmem : ∀ {cs : List Value}, (∀ c ∈ cs, ∃ m b', h.get m = some b' ∧ c ∈ b'.cells) → ∀ c ∈ cs, Stab K F c := fun hc c hcs => by
    obtain ⟨m, b', h1, h2⟩ := hc c hcs
    exact I.hst m b' h1 c h2
  cases hW with
  | same hv =>
    refine ⟨Nat.le_refl _, F, rfl, Same.refl _ _, (I.vals' fun y hy => ?_).kmono (fun x hx => .inl hx) (fun x hx => ?_)⟩
    · rw [hy]
      rcases hv with rfl | ⟨x, hxm, rfl⟩
      · exact Stab.plain rfl
      · exact hx x hxm
    · rcases hx with hx | hx
      · exact I.klim x hx
      · omega
  | @put _ n b cs pre post hv hb hro hl hc hr hp h0 h1 =>
    have hap : ∀ m c, (h.putO n none).get m = some c → F.blk m ≠ F.blk n := fun m c hm => by
      rw [AHeap.putO_get] at hm
      split at hm
      · cases hm
      · rename_i e; exact fun h2 => I.holds.apart n m b c hb hm (Ne.symm e) hro h2.symm
    have I1 := (I.kill n).turned hap (I.sep n b hb) (I.own n b hb hro) (pre ++ (cs.map (ren F)).toArray ++ post)
    have hcs : ∀ c ∈ cs, Stab K F c := fun c hcc => by
      rcases hc c hcc with h2 | ⟨x, hxm, h2⟩ | ⟨m, b', h2, h3⟩
      · exact I.hst n b hb c h2
      · exact Stab.cells (hx x hxm) c h2
      · exact I.hst m b' h2 c h3
    have I2 := I1.put (n := n) (b := { b with cells := cs }) (I.hk n b hb).1 (I.hk n b hb).2 (wrote_at hr) hp h0 h1 (fun m c hm _ => hap m c hm) (I.sep n b hb) (I.own n b hb hro) hcs (h' := h.put n { b with cells := cs }) (fun m => by
      rw [AHeap.put_get, AHeap.putO_get]; split <;> rfl)
    refine ⟨Nat.le_refl _, F, rfl, Same.refl _ _, (I2.vals' fun y hy => ?_).kmono (fun x hx => .inl hx) (fun x hx => ?_)⟩
    · rw [hy]
      rcases hv with rfl | ⟨a, sl, c, sc, x, hxm, hex, rfl⟩
      · exact Stab.undef
      · have := hx x hxm
        rw [hex] at this
        exact slice_stab this rfl
    · rcases hx with hx | hx
      · exact I.klim x hx
      · exact absurd hx (hno rfl x)
  | @grew n b cs s bs sl need pre post post' c hb hro hg hc hr hpost hp h1 =>
    have hnew := hn h.next (Nat.le_refl _) (by rw [show ((h.putO n none).addO (some ⟨cs, b.elem, false, some (s + 1)⟩)).next = h.next + 1 from rfl]; omega)
    have hap : ∀ m c, (h.putO n none).get m = some c → F.blk m ≠ F.blk n := fun m c hm => by
      rw [AHeap.putO_get] at hm
      split at hm
      · cases hm
      · rename_i e; exact fun h2 => I.holds.apart n m b c hb hm (Ne.symm e) hro h2.symm
    have hs : Same K F (F.set h.next (F.blk n) bs sl) := F.set_same hnew.1
    obtain ⟨e1, e2, e3⟩ := F.set_at h.next (F.blk n) bs sl
    have I1 := (((I.kill n).turned hap (I.sep n b hb) (I.own n b hb hro) post).same hs).kmono (K' := fun x => K x ∨ (h.next ≤ x ∧ x < h.next + 1)) (fun x hx => .inl hx) (fun x hx => by rcases hx with hx | hx; exact I.klim x hx; omega)
    have hcs := hmem hc
    have hrep := X.rep_same F (F.set h.next (F.blk n) bs sl) S w (hs.mono (fun m hm => I.hand m hm.1 hm.2)) I.rep
    have I2 := I1.put (n := h.next) (b := ⟨cs, b.elem, false, some (s + 1)⟩) (pre := pre) (post := post') (.inr ⟨Nat.le_refl _, by omega⟩) hnew.2 (by
        rw [e1, wrote_at hr, ← hpost]
        congr 3
        exact congrArg _ (congrArg _ (List.map_congr_left fun v hv => ((hcs v hv) _ hs).symm)))
      (by rw [e2]; exact hp) (fun h => by cases h) (fun s' h => by cases h; rw [e3]; exact h1)
      (fun m c hm hne => by
        rw [e1]
        have : m ≠ h.next := hne
        rw [show (F.set h.next (F.blk n) bs sl).blk m = F.blk m by simp [Emb.set, this]]
        exact hap m c hm)
      (by rw [e1]; exact fun hf => I.sep n b hb (hrep.2 _ hf)) (by rw [e1]; exact I.own n b hb hro) (fun c hc => (hcs c hc).move hs (fun x hx => .inl hx)) (h' := (h.putO n none).addO (some ⟨cs, b.elem, false, some (s + 1)⟩)) (fun m => rfl)
    refine ⟨Nat.le_succ _, _, ?_, hs, I2.vals' fun y hy => ?_⟩
    · simp [adr, e1, e2, e3]
    · rw [hy]
      intro F' hs'
      have := hs' h.next (.inr ⟨Nat.le_refl _, by omega⟩)
      simp [adr, ← this.1, ← this.2.1, ← this.2.2]
  | @fresh n b cs s sl need _ post hb hro hg hc hw h1 =>
    have hnew := hn h.next (Nat.le_refl _) (by rw [show ((h.putO n none).addO (some ⟨cs, b.elem, false, some (s + 1)⟩)).next = h.next + 1 from rfl]; omega)
    have hs : Same K F (F.set h.next w.heap.size 0 sl) := F.set_same hnew.1
    have hcs := hmem hc
    have I1 := (I.kill n).add (n := h.next) hnew.1 hnew.2 (h' := (h.putO n none).addO (some ⟨cs, b.elem, false, some (s + 1)⟩)) (ob := some ⟨cs, b.elem, false, some (s + 1)⟩) (bk := w.heap.size) (bs := 0) (sl := sl) (fun m => rfl) (fun b' hb' => by cases hb'; exact hcs)
      (.inr ⟨_, post, rfl, rfl, rfl, rfl, hw, fun h => (by cases h), fun s' h => (by cases h; exact h1)⟩)
    obtain ⟨e1, e2, e3⟩ := F.set_at h.next w.heap.size 0 sl
    refine ⟨Nat.le_succ _, _, ?_, hs, (I1.kmono (fun x hx => ?_) (fun x hx => ?_)).vals' fun y hy => ?_⟩
    · simp [adr, e1, e2, e3]
    · rcases hx with hx | rfl
      · exact .inl hx
      · exact .inr ⟨Nat.le_refl _, Nat.lt_succ_self _⟩
    · rcases hx with hx | hx
      · exact I.klim x hx
      · have : x < h.next + 1 := hx.2
        have := hnew.2
        omega
    · rw [hy]
      intro F' hs'
      have := hs' h.next (.inr ⟨Nat.le_refl _, Nat.lt_succ_self _⟩)
      simp [adr, ← this.1, ← this.2.1, ← this.2.2]

end
end Go.Proofs.Ytceddijolfpppaa
