/-
  The abstract machine, part 2: what an operation does in the named heap, it does in every world that holds that heap.
  No condition: laws.
-/
import Derived.Test.YtceddijolfpppaaAx1
import Derived.Deep.MidRow
import Derived.Laws.StructEq
import Derived.Laws.AppendOwn
namespace Go.Proofs.Ytceddijolfpppaa
open Go
set_option linter.unusedSimpArgs false
set_option linter.unusedVariables false

/-- In world w the heap's rows lie where F says. -/
structure Holds (F : Emb) (h : AHeap) (w : World) : Prop where
  row : ∀ n b, h.get n = some b → ∃ (pre post : Array Value) (fr : Nat × Nat), w.heap[F.blk n]? = some (.cells (pre ++ (b.cells.map (ren F)).toArray ++ post) b.elem fr) ∧ pre.size = F.base n ∧ (b.ro = false → fr = (0, 0)) ∧ (b.grow = some 0 → F.slack n = 0) ∧ (∀ s, b.grow = some (s + 1) → F.slack n * (s + 1) ≤ post.size)
  apart : ∀ n m b c, h.get n = some b → h.get m = some c → n ≠ m → b.ro = false → F.blk n ≠ F.blk m

theorem Holds.cell {F : Emb} {h : AHeap} {w : World} (H : Holds F h w) {n : Nat} {b : Blk} (hb : h.get n = some b) {i : Nat} {v : Value} (hv : b.cells[i]? = some v) :
    w.cell? ⟨F.blk n, F.base n + i, none⟩ = some (ren F v) := by
  obtain ⟨pre, post, fr, hr, hp, _⟩ := H.row n b hb
  have hi : i < b.cells.length := (List.getElem?_eq_some_iff.1 hv).1
  simp only [World.cell?, hr, Option.isSome_none, Bool.false_eq_true, if_false]
  rw [← hp, Array.append_assoc, Array.getElem?_append_right (by omega), Nat.add_sub_cancel_left, Array.getElem?_append_left (by simpa using hi)]
  simp [hv]

theorem tySize_run {P : Program} {t : TypeId} {s : Nat} (h : tySize P t = some s) (w : World) : (sizeOf t).run P w = .ok s w := by
  unfold tySize at h
  cases hi : P.info? t with
  | none => rw [hi] at h; cases h
  | some i => rw [hi] at h; simp at h; simp [sizeOf, typeInfo, hi, h]

theorem tyAgg_run {P : Program} {t : TypeId} {b : Bool} (h : tyAgg P t = some b) (w : World) : (isAgg t).run P w = .ok b w := by
  unfold tyAgg at h
  cases hi : P.underlying t with
  | none => rw [hi] at h; cases h
  | some d =>
    rw [hi] at h
    simp only [Option.map_some, Option.some.injEq] at h
    unfold isAgg
    rw [Sem.run_bind, run_underlying hi w]
    cases d <;> simp_all

theorem partA_run {P : Program} {t : TypeId} {cs : Array Value} {off : Nat} {v : Value} (F : Emb) (h : partA P t cs off = some v) (w : World) :
    (part t (cs.map (ren F)) off).run P w = .ok (ren F v) w := by
  unfold partA at h
  split at h
  · rename_i s ha hs
    cases h
    unfold part
    simp [Sem.run_bind, tyAgg_run ha, tySize_run hs]
  · rename_i s ha
    unfold part
    simp [Sem.run_bind, tyAgg_run ha, h]
  · cases h

section
variable {P : Program} {ρ : Operand → Value} {e : Operand → Value} {F : Emb} {w : World}

theorem binA_run {op : BinOp} {x y : Value} {v : Value} (t : TypeId) (h : binA op x y = some v) : (binOp op t x y).run P w = .ok v w ∧ plainB x = true ∧ plainB y = true ∧ plainB v = true ∧ (∀ a b, eqGuard op t a b x y = pure ()) := by
  unfold binA at h
  split at h
  · rename_i k a k' b
    refine ⟨?_, rfl, rfl, ?_, fun a b => by cases op <;> rfl⟩
    · cases op <;> simp only [shiftA, intA] at h <;> (try split at h) <;> (try split at h) <;> simp_all [binOp, Op.intArith, Op.intBits, Op.intCmp, Op.intDiv, Op.shift] <;> (intro hneg; omega)
    · cases op <;> simp only [shiftA, intA] at h <;> (try split at h) <;> (try split at h) <;> (try cases h) <;> rfl
  · cases h

theorem equal_run {t : TypeId} {x y : Value} {r : Bool} (h : ∀ d, (Op.equalIn (d + 1) t x y).run P w = .ok r w) : (Op.equal t x y).run P w = .ok r w := h 9999

theorem eqNilA_run {t : TypeId} {x y : Operand} {a b : Value} {r : Bool} (h : eqNilA P t y a b = some r) :
    ((do eqGuard .eql t x y (ren F a) (ren F b); binOp .eql t (ren F a) (ren F b) : Sem Value).run P w = .ok (.bool r) w) ∧ ((do eqGuard .neq t x y (ren F a) (ren F b); binOp .neq t (ren F a) (ren F b) : Sem Value).run P w = .ok (.bool !r) w) := by
  have key : ∀ {a' b' : Value}, (∀ op, eqGuard op t x y a' b' = pure ()) → binOp .eql t a' b' = (do pure (.bool (← Op.equal t a' b'))) → binOp .neq t a' b' = (do pure (.bool (!(← Op.equal t a' b')))) → (Op.equal t a' b').run P w = .ok r w →
      ((do eqGuard .eql t x y a' b'; binOp .eql t a' b' : Sem Value).run P w = .ok (.bool r) w) ∧ ((do eqGuard .neq t x y a' b'; binOp .neq t a' b' : Sem Value).run P w = .ok (.bool !r) w) := by
    intro a' b' hg h1 h2 h3
    constructor
    · rw [hg, h1]; simp [h3]
    · rw [hg, h2]; simp [h3]
  unfold eqNilA at h
  split at h
  · rename_i hu
    rename_i a n c n' c'
    cases h
    cases a
    · rw [ren_snone, ren_snone]
      exact key (fun op => by cases op <;> rfl) (by simp only [binOp]) (by simp only [binOp]) (equal_run fun d => by simp [Op.equalIn, run_underlying hu, Sem.run_bind])
    · rw [ren_ssome, ren_snone]
      exact key (fun op => by cases op <;> rfl) (by simp only [binOp]) (by simp only [binOp]) (equal_run fun d => by simp [Op.equalIn, run_underlying hu, Sem.run_bind])
  · rename_i a hu
    cases h
    cases a
    · rw [ren_pnone]
      exact key (fun op => by cases op <;> rfl) (by simp only [binOp]) (by simp only [binOp]) (equal_run fun d => by simp [Op.equalIn, run_underlying hu, Sem.run_bind])
    · rw [ren_psome, ren_pnone]
      exact key (fun op => by cases op <;> rfl) (by simp only [binOp]) (by simp only [binOp]) (equal_run fun d => by simp [Op.equalIn, run_underlying hu, Sem.run_bind])
  · rename_i hu
    cases h
    rw [ren_iface, ren_nilIface]
    exact key (fun op => by cases op <;> rfl) (by simp only [binOp]) (by simp only [binOp]) (equal_run fun d => by simp [Op.equalIn, run_underlying hu, Sem.run_bind])
  · rename_i hu
    split at h
    · cases h
      rw [ren_nilIface]
      exact key (fun op => by cases op <;> cases x <;> rfl) (by simp only [binOp]) (by simp only [binOp]) (equal_run fun d => by simp [Op.equalIn, run_underlying hu, Sem.run_bind])
    · cases h
  · rename_i hu
    cases h
    rw [ren_func, ren_nilFunc]
    exact key (fun op => by cases op <;> rfl) (by simp only [binOp]) (by simp only [binOp]) (equal_run fun d => by simp [Op.equalIn, run_underlying hu, Sem.run_bind])
  · rename_i hu
    cases h
    rw [ren_nilFunc]
    exact key (fun op => by cases op <;> rfl) (by simp only [binOp]) (by simp only [binOp]) (equal_run fun d => by simp [Op.equalIn, run_underlying hu, Sem.run_bind])
  · cases h

theorem eqFieldsA_run (d : Nat) (xs ys : Array Value) : ∀ (fs : List Field) (r : Bool), eqFieldsA P xs ys fs = some r → (Op.eqFields (d + 1) (xs.map (ren F)) (ys.map (ren F)) fs).run P w = .ok r w
  | [], r, h => by cases h; simp [Op.eqFields]
  | f :: fs, r, h => by
    unfold eqFieldsA at h
    split at h
    · rename_i hc
      have hpart : ∀ (cs : Array Value) v, cs[f.offset]? = some v → (part f.type (cs.map (ren F)) f.offset).run P w = .ok (ren F v) w := fun cs v hv => by
        unfold part
        simp [Sem.run_bind, tyAgg_run hc.2, hv]
      have hne := hc.1
      split at h
      · rename_i k a k' b u r' hx hy hu hr
        split at h
        · rename_i hk
          subst hk
          cases h
          have := eqFieldsA_run d xs ys fs r' hr
          simp only [Op.eqFields, hne, ne_eq, not_false_eq_true, if_true, Sem.run_bind, hpart xs _ hx, hpart ys _ hy, Result.andThen_ok, ren_int, run_equalIn_int _ _ _ _ _ _ _ hu, Sem.run_ite]
          cases hab : (a == b) <;> simp [this]
        · cases h
      · rename_i a b r' hx hy hu hr
        cases h
        have := eqFieldsA_run d xs ys fs r' hr
        simp only [Op.eqFields, hne, ne_eq, not_false_eq_true, if_true, Sem.run_bind, hpart xs _ hx, hpart ys _ hy, Result.andThen_ok, ren_bool, run_equalIn_bool _ _ _ _ _ hu, Sem.run_ite]
        cases hab : (a == b) <;> simp [this]
      · rename_i a b r' hx hy hu hr
        cases h
        have := eqFieldsA_run d xs ys fs r' hr
        simp only [Op.eqFields, hne, ne_eq, not_false_eq_true, if_true, Sem.run_bind, hpart xs _ hx, hpart ys _ hy, Result.andThen_ok, ren_string, run_equalIn_string _ _ _ _ _ hu, Sem.run_ite, ← beq_toListBytes]
        cases hab : (a == b) <;> simp [this]
      · cases h
    · cases h

theorem eqFlatA_run {t : TypeId} {x y : Operand} {a b : Value} {r : Bool} (h : eqFlatA P t a b = some r) :
    ((do eqGuard .eql t x y (ren F a) (ren F b); binOp .eql t (ren F a) (ren F b) : Sem Value).run P w = .ok (.bool r) w) ∧ ((do eqGuard .neq t x y (ren F a) (ren F b); binOp .neq t (ren F a) (ren F b) : Sem Value).run P w = .ok (.bool !r) w) := by
  unfold eqFlatA at h
  split at h
  · rename_i xs ys
    split at h
    · rename_i fs hfs
      split at h
      · rename_i hok
        unfold tyEqOK at hok
        simp only [Bool.and_eq_true, Bool.not_eq_true'] at hok
        obtain ⟨fs', hu, rfl⟩ : ∃ fs' : Array Field, P.underlying t = some (.struct fs') ∧ fs'.toList = fs := by
          unfold tyFieldsL at hfs
          split at hfs
          · rename_i fs' hu; cases hfs; exact ⟨fs', hu, rfl⟩
          · cases hfs
        have hf : P.fieldsOf t = fs' := by unfold Program.fieldsOf; rw [hu]
        have key : (Op.equalIn 10000 t (.agg (xs.map (ren F))) (.agg (ys.map (ren F)))).run P w = .ok r w := by
          rw [run_equalIn_struct w 9999 t _ _ (by rw [hf]; exact hu) hok.1, hf]
          exact eqFieldsA_run 9998 xs ys _ r h
        rw [ren_agg, ren_agg]
        constructor
        · simp only [Sem.run_bind, run_eqGuard_agg w .eql t x y _ _ hok.2, Result.andThen_ok, run_eql_struct, key]
        · simp only [Sem.run_bind, run_eqGuard_agg w .neq t x y _ _ hok.2, Result.andThen_ok, run_neq_struct, key]
      · cases h
    · cases h
  · rename_i a b
    split at h
    · rename_i hb
      cases h
      have hu : P.underlying t = some .bool := by
        unfold tyBool at hb
        split at hb
        · assumption
        · cases hb
      have key : (Op.equal t (.bool a) (.bool b)).run P w = .ok (a == b) w := run_equalIn_bool w 9999 t a b hu
      rw [ren_bool, ren_bool]
      constructor
      · simp [eqGuard, binOp, key]
      · simp [eqGuard, binOp, key]
    · cases h
  · rename_i a b
    split at h
    · rename_i hb
      cases h
      have hu : P.underlying t = some .string := by
        unfold tyText at hb
        split at hb
        · assumption
        · cases hb
      have key : (Op.equal t (.string a) (.string b)).run P w = .ok (a == b) w := by
        rw [beq_toListBytes]; exact run_equalIn_string w 9999 t a b hu
      rw [ren_string, ren_string]
      constructor
      · simp [eqGuard, binOp, Op.stringOp, beq_toListBytes]
      · simp [eqGuard, binOp, Op.stringOp, beq_toListBytes]
    · cases h
  · cases h

theorem binOpA_run {op : BinOp} {t : TypeId} {x y : Operand} {a b v : Value} (h : binOpA P op t y a b = some v) :
    ((do eqGuard op t x y (ren F a) (ren F b); binOp op t (ren F a) (ren F b) : Sem Value).run P w = .ok (ren F v) w) := by
  unfold binOpA at h
  split at h
  · rename_i u hu
    cases h
    obtain ⟨h1, h2, h3, h4, h5⟩ := binA_run (P := P) (w := w) t hu
    rw [ren_plain F h2, ren_plain F h3, ren_plain F h4, h5]
    simpa [Sem.run_bind] using h1
  · split at h
    · rename_i hr
      split at h
      · cases h; rw [ren_bool]; exact (eqNilA_run hr).1
      · cases h; rw [ren_bool]; exact (eqNilA_run hr).2
      · cases h
    · split at h
      · cases h
        rw [ren_bool]
        exact (eqFlatA_run ‹_›).1
      · cases h
        rw [ren_bool]
        exact (eqFlatA_run ‹_›).2
      · cases h

theorem unA_run {op : UnOp} {x v : Value} (h : unA op x = some v) : (Op.unary op (ren F x)).run P w = .ok (ren F v) w := by
  unfold unA at h
  split at h <;> (try cases h) <;> simp [Op.unary, Op.intArith, Op.intBits]

theorem convertA_run {s d : TypeId} {x v : Value} (h : convertA P s d x = some v) : (convert s d (ren F x)).run P w = .ok (ren F v) w := by
  unfold convertA at h
  split at h
  · rename_i k n k' hc
    cases h
    unfold tyConv at hc
    split at hc
    · rename_i t k'' hs hd
      cases hc
      simp [convert, run_underlying hs, run_underlying hd, Conv.intToInt, Sem.run_bind]
    · cases hc
  · cases h

theorem tyField_run {t : TypeId} {i off : Nat} {ft : TypeId} (h : tyField P t i = some (off, ft)) : ∃ fs f, P.underlying t = some (.struct fs) ∧ fs[i]? = some f ∧ f.offset = off ∧ f.type = ft := by
  unfold tyField at h
  split at h
  · rename_i fs hu
    cases hf : fs[i]? with
    | none => rw [hf] at h; cases h
    | some f => rw [hf] at h; simp at h; exact ⟨fs, f, hu, hf, h.1, h.2⟩
  · cases h

theorem fieldA_run {t : TypeId} {x v : Value} {i : Nat} (h : fieldA P t x i = some v) : (Instr.field t (ren F x) i).run P w = .ok (ren F v) w := by
  unfold fieldA at h
  split at h
  · rename_i cs off ft hf
    obtain ⟨fs, f, hu, hi, rfl, rfl⟩ := tyField_run hf
    rw [ren_agg]
    simp only [Instr.field, Sem.run_bind, run_underlying hu, Result.andThen_ok, hi, asAgg, Sem.run_pure]
    exact partA_run F h w
  · cases h

theorem tyArray_run {t : TypeId} {n : Nat} {el : TypeId} (h : tyArray P t = some (n, el)) : P.underlying t = some (.array n el) := by
  unfold tyArray at h
  split at h
  · rename_i hu; cases h; exact hu
  · cases h
theorem tySlice_run {t el : TypeId} (h : tySlice P t = some el) : P.underlying t = some (.slice el) := by
  unfold tySlice at h
  split at h
  · rename_i hu; cases h; exact hu
  · cases h

theorem indexA_run {t : TypeId} {x i v : Value} (h : indexA P t x i = some v) : (Instr.index t (ren F x) (ren F i)).run P w = .ok (ren F v) w := by
  unfold indexA at h
  split at h
  · rename_i cs k n len el ha
    split at h
    · rename_i s hs
      split at h
      · rename_i hn
        simp only [ren_agg, ren_int, Instr.index, asIntOf, Sem.run_bind, Sem.run_pure, Result.andThen_ok, run_underlying (tyArray_run ha)]
        rw [if_pos hn]
        simp only [Sem.run_bind, tySize_run hs, Result.andThen_ok]
        exact partA_run F h w
      · cases h
    · cases h
  · rename_i s k n ha
    split at h
    · rename_i hu
      split at h
      · rename_i hn
        cases hs : s[n.toNat]? with
        | none => rw [hs] at h; cases h
        | some b =>
          rw [hs] at h
          cases h
          simp only [ren_string, ren_int, Instr.index, asIntOf, Sem.run_bind, Sem.run_pure, Result.andThen_ok, run_underlying hu, if_pos hn, hs]
      · cases h
    · cases h
  · cases h

theorem fieldAddrA_run {t : TypeId} {x v : Value} {i : Nat} (h : fieldAddrA P t x i = some v) : (Instr.fieldAt t (ren F x) i).run P w = .ok (ren F v) w := by
  unfold fieldAddrA at h
  split at h
  · rename_i a off ft hf
    split at h
    · rename_i s hs
      split at h
      · rename_i hsp
        cases h
        obtain ⟨fs, f, hu, hi, rfl, rfl⟩ := tyField_run hf
        simp only [ren_psome, Instr.fieldAt, Instr.sureAddr, fieldPlace, Sem.run_bind, Sem.run_pure, Result.andThen_ok, run_underlying hu, hi, tySize_run hs]
        simp only [Nat.succ_ne_zero, if_false, Sem.run_pure, Result.andThen_ok]
        obtain ⟨ab, ao, asp⟩ := a
        simp only at hsp
        subst hsp
        by_cases h0 : f.offset = 0
        · simp [Addr.add, adr, h0]
        · simp [Addr.add, adr, h0, Nat.add_assoc]
      · cases h
    · cases h
  · cases h

theorem add_plain (a : Addr) (k : Nat) (h : a.spot = none) : a.add k = ⟨a.block, a.off + k, none⟩ := by
  obtain ⟨ab, ao, asp⟩ := a
  simp only at h
  subst h
  unfold Addr.add
  split <;> simp_all

theorem indexAddrA_run {t : TypeId} {x i v : Value} (h : indexAddrA P t x i = some v) : (Instr.indexAt t (ren F x) (ren F i)).run P w = .ok (ren F v) w := by
  unfold indexAddrA at h
  split at h
  · rename_i a len c k n
    split at h
    · rename_i el hel
      split at h
      · rename_i s hs
        split at h
        · rename_i hc
          cases h
          simp only [ren_ssome, ren_int, ren_psome, Instr.indexAt, asIntOf, Sem.run_bind, Sem.run_pure, Result.andThen_ok, run_underlying (tySlice_run hel)]
          rw [if_pos hc.2]
          simp only [Sem.run_bind, tySize_run hs, Result.andThen_ok, Sem.run_pure]
          rw [add_plain _ _ (by simpa [adr] using hc.1)]
          simp [adr, Nat.add_assoc]
        · cases h
      · cases h
    · cases h
  · rename_i a k n
    split at h
    · rename_i len el hel
      split at h
      · rename_i s hs
        split at h
        · rename_i hc
          cases h
          simp only [ren_int, ren_psome, Instr.indexAt, Instr.sureAddr, asIntOf, Sem.run_bind, Sem.run_pure, Result.andThen_ok, run_underlying (tyArray_run hel)]
          rw [if_pos hc.2]
          simp only [Sem.run_bind, tySize_run hs, Result.andThen_ok, Sem.run_pure]
          rw [add_plain _ _ (by simpa [adr] using hc.1)]
          simp [adr, Nat.add_assoc]
        · cases h
      · cases h
    · cases h
  · cases h

theorem lenA_run {t ty : TypeId} {x v : Value} (h : lenA P t x = some v) : (Builtin.len_ #[t] ty #[ren F x]).run P w = .ok (ren F v) w := by
  unfold lenA at h
  split at h
  · rename_i a n c el hel
    cases h
    cases a <;> simp [Builtin.len_, run_underlying (tySlice_run hel), Sem.run_bind, goInt]
  · cases h

theorem minA_run : ∀ (l : List Value) (x v : Value), minA l x = some v → ((l.map (ren F)).foldlM Builtin.min2 (ren F x)).run P w = .ok (ren F v) w
  | [], x, v, h => by cases h; simp
  | y :: l, x, v, h => by
    unfold minA at h
    split at h
    · rename_i heq; cases heq
    · rename_i heq
      cases heq
      have := minA_run _ _ _ h
      simp only [List.map_cons, List.foldlM_cons, Sem.run_bind, ren_int, Builtin.min2, Sem.run_pure, Result.andThen_ok] at this ⊢
      exact this
    · cases h
theorem maxA_run : ∀ (l : List Value) (x v : Value), maxA l x = some v → ((l.map (ren F)).foldlM Builtin.max2 (ren F x)).run P w = .ok (ren F v) w
  | [], x, v, h => by cases h; simp
  | y :: l, x, v, h => by
    unfold maxA at h
    split at h
    · rename_i heq; cases heq
    · rename_i heq
      cases heq
      have := maxA_run _ _ _ h
      simp only [List.map_cons, List.foldlM_cons, Sem.run_bind, ren_int, Builtin.max2, Sem.run_pure, Result.andThen_ok] at this ⊢
      exact this
    · cases h

theorem arrayAtA_run {t : TypeId} {x v : Value} (h : arrayAtA P t x = some v) : (Instr.arrayAt t (ren F x)).run P w = .ok (ren F v) w := by
  unfold arrayAtA at h
  split at h
  · rename_i a len c n el ha
    split at h
    · cases h
    · rename_i hn
      cases h
      simp [Instr.arrayAt, Sem.run_bind, run_underlying (tyArray_run ha), hn]
  · cases h

theorem sliceBounds_run {b : Bool} {len cap l r : Nat} {lo hi : Option Value} (hl : boundA lo 0 = some l) (hr : boundA hi len = some r) (h1 : l ≤ r) (h2 : r ≤ cap) :
    (Instr.sliceBounds b len cap (lo.map (ren F)) (hi.map (ren F)) none).run P w = .ok (l, r, cap) w := by
  have hl' : ∀ {m : Nat}, l ≤ m → ∀ v, lo = some v → ∀ c, (Instr.sliceBound (ren F v) m c).run P w = .ok l w := by
    intro m hm v hv c
    subst hv
    unfold boundA at hl
    split at hl
    · rename_i heq; cases heq
    · rename_i k n heq
      cases heq
      split at hl
      · rename_i hn
        cases hl
        simp [Instr.sliceBound, asIntOf, hn, show n ≤ (m : Int) by omega]
      · cases hl
    · cases hl
  have hr' : ∀ v, hi = some v → ∀ c, (Instr.sliceBound (ren F v) cap c).run P w = .ok r w := by
    intro v hv c
    subst hv
    unfold boundA at hr
    split at hr
    · rename_i heq; cases heq
    · rename_i k n heq
      cases heq
      split at hr
      · rename_i hn
        cases hr
        simp [Instr.sliceBound, asIntOf, hn, show n ≤ (cap : Int) by omega]
      · cases hr
    · cases hr
  have hr0 : hi = none → r = len := by rintro rfl; simpa [boundA] using hr.symm
  have hl0 : lo = none → l = 0 := by rintro rfl; simpa [boundA] using hl.symm
  unfold Instr.sliceBounds
  cases hi with
  | none =>
    obtain rfl := hr0 rfl
    cases lo with
    | none => obtain rfl := hl0 rfl; simp
    | some v => simp [hl' h1 v rfl]
  | some u =>
    cases lo with
    | none => obtain rfl := hl0 rfl; simp [hr' u rfl]
    | some v => simp [hr' u rfl, hl' h1 v rfl]

theorem tyArray_none {t : TypeId} {el : TypeId} (h : tySlice P t = some el) : tyArray P t = none := by
  unfold tyArray; rw [tySlice_run h]

theorem sliceAt_slice {t el : TypeId} (h : tySlice P t = some el) (x : Value) (lo hi mx : Option Value) : (Instr.sliceAt t x lo hi mx).run P w = (Instr.slice t x lo hi mx).run P w := by
  simp [Instr.sliceAt, Sem.run_bind, run_underlying (tySlice_run h)]

theorem sliceA_run {h : AHeap} {t : TypeId} {x v : Value} {lo hi mx : Option Value} (H : Holds F h w) (hv : sliceA P h t x lo hi mx = some v) : (Instr.sliceAt t (ren F x) (lo.map (ren F)) (hi.map (ren F)) (mx.map (ren F))).run P w = .ok (ren F v) w := by
  unfold sliceA at hv
  split at hv
  · rename_i el a len cap hel
    split at hv
    · rename_i l r s hl hr hs
      split at hv
      · rename_i hc
        obtain ⟨h1, h2, h3⟩ := hc
        have hb := sliceBounds_run (P := P) (F := F) (w := w) (b := true) (cap := cap + F.slack a.block) hl hr h1 (by omega)
        rw [Option.map_none, sliceAt_slice hel]
        simp only [ren_ssome, Instr.slice, Sem.run_bind, run_underlying (tySlice_run hel), Result.andThen_ok, hb, tySize_run hs, Sem.run_pure]
        obtain ⟨ab, ao, asp⟩ := a
        simp only at h3
        subst h3
        split at hv
        · rename_i hlc
          split at hv
          · rename_i h0
            cases hv
            subst h0
            simp [adr, Addr.add]
          · rename_i h0
            cases hv
            have hne : ¬ (cap + F.slack ab = l) := by omega
            simp only [if_neg hne, Option.map_some, ren_ssome]
            rw [add_plain _ _ rfl]
            simp only [adr, Nat.add_assoc]
            congr 2
            omega
        · rename_i hlc
          split at hv
          · rename_i b hb'
            split at hv
            · rename_i hg
              cases hv
              obtain ⟨_, _, _, _, _, _, hsl, _⟩ := H.row _ _ hb'
              have hsl := hsl hg
              have he : cap + F.slack ab = l := by simp only at hsl; omega
              simp only [if_pos he, ren_ssome]
              congr 2
              · omega
              · simp only at hsl; omega
            · cases hv
          · cases hv
      · cases hv
    · cases hv
  · rename_i el hel
    split at hv
    · rename_i s hl hr hs
      cases hv
      have hb := sliceBounds_run (P := P) (F := F) (w := w) (b := true) (cap := 0) hl hr (Nat.le_refl _) (Nat.le_refl _)
      rw [Option.map_none, sliceAt_slice hel]
      simp [Instr.slice, Sem.run_bind, run_underlying (tySlice_run hel), hb, tySize_run hs]
    · cases hv
  · rename_i n el a hsl ha
    split at hv
    · rename_i l r s b hl hr hs hb'
      split at hv
      · rename_i hc
        obtain ⟨h1, h2, h3, hg⟩ := hc
        have hslk : F.slack a.block = 0 := by obtain ⟨_, _, _, _, _, _, hslk, _⟩ := H.row _ _ hb'; exact hslk hg
        have hb := sliceBounds_run (P := P) (F := F) (w := w) (b := false) hl hr h1 h2
        simp only [Option.map_none, ren_psome, Instr.sliceAt, Sem.run_bind, run_underlying (tyArray_run ha), Instr.sureAddr, Sem.run_pure, Result.andThen_ok, hb, tySize_run hs]
        obtain ⟨ab, ao, asp⟩ := a
        simp only at h3 hslk
        subst h3
        split at hv
        · rename_i h0
          cases hv
          simp only [if_pos h0, ren_ssome, hslk]
          congr 2 <;> omega
        · rename_i h0
          cases hv
          simp only [if_neg h0, ren_ssome, hslk]
          rw [add_plain _ _ rfl]
          simp [adr, Nat.add_assoc]
      · cases hv
    · cases hv
  · cases hv

theorem loadA_run {h : AHeap} {t : TypeId} {a : Addr} {v : Value} (H : Holds F h w) (hv : loadA P h t a = some v) : (Instr.loadAt t (.pointer (some (adr F a)))).run P w = .ok (ren F v) w := by
  unfold loadA at hv
  split at hv
  · rename_i b s hb ha hs
    have hv : (if a.spot = none ∧ a.off + s ≤ b.cells.length then some (Value.agg ((b.cells.drop a.off).take s).toArray) else none) = some v := by
      split at hv
      · rename_i hc
        rw [if_pos ⟨hc.1, by omega⟩, ← hv, hc.2.1, List.drop_zero, List.take_of_length_le (by omega)]
      · exact hv
    split at hv
    · rename_i hc
      cases hv
      obtain ⟨ab, ao, asp⟩ := a
      simp only at hc hb
      obtain ⟨rfl, hlen⟩ := hc
      have hagg := ha
      unfold tyAgg at hagg
      cases hu : P.underlying t with
      | none => rw [hu] at hagg; cases hagg
      | some d =>
        rw [hu] at hagg
        simp only [Option.map_some, Option.some.injEq] at hagg
        rw [show ren F (.agg ((b.cells.drop ao).take s).toArray) = .agg (((b.cells.drop ao).take s).map (ren F)).toArray by simp]
        refine run_loadAt_mid w (F.blk ab) (F.base ab + ao) t _ d (fun j v hj => ?_) hu (by cases d <;> simp_all [TypeDesc.isRow]) ?_
        · rw [Nat.add_assoc]
          have hj' := (List.getElem?_eq_some_iff.1 hj).1
          simp only [List.length_map, List.length_take, List.length_drop] at hj'
          simp only [List.getElem?_map, List.getElem?_take, List.getElem?_drop] at hj
          rw [if_pos (by omega)] at hj
          cases hx : b.cells[ao + j]? with
          | none => rw [hx] at hj; cases hj
          | some u =>
            rw [hx] at hj
            simp only [Option.map_some, Option.some.injEq] at hj
            subst hj
            exact H.cell hb hx
        · have : (((b.cells.drop ao).take s).map (ren F)).length = s := by simp; omega
          rw [this]; exact hs
    · cases hv
  · rename_i b s hb ha hs
    split at hv
    · rename_i hc
      obtain ⟨ab, ao, asp⟩ := a
      simp only at hc hb hv
      subst hc
      have hcell := H.cell hb hv
      simp only [Instr.loadAt, Instr.sureAddr, loadVar, Sem.run_bind, Sem.run_pure, Result.andThen_ok, tyAgg_run ha, Bool.false_eq_true, if_false]
      simp only [load, Sem.run, adr, hcell]
    · cases hv
  · cases hv
end
end Go.Proofs.Ytceddijolfpppaa
