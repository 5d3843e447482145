/-
  The abstract machine, part 2: what an operation does in the named heap, it does in every world that holds that heap.
  No condition: laws.
-/
import Derived.Test.YtjdbknnacaacaaaUMem
import Derived.Deep.MidRow
import Derived.Laws.StructEq
import Derived.Laws.AppendOwn
import Derived.Test.YtjdbknnacaacaaaULin
import Derived.Laws.MakeOwn
namespace Go.Proofs.Ytjdbknnacaacaaa
open Go
set_option linter.unusedSimpArgs false
set_option linter.unusedVariables false
structure Holds (F : Emb) (h : AHeap) (w : World) : Prop where
  row : ∀ n b, h.get n = some b → ∃ (pre post : Array Value) (fr : Nat × Nat), w.heap[F.blk n]? = some (.cells (pre ++ (b.cells.map (ren F)).toArray ++ post) b.elem fr) ∧ pre.size = F.base n ∧ (b.ro = false → fr = (0, 0)) ∧ (b.grow = some 0 → F.slack n = 0) ∧ (∀ s, b.grow = some (s + 1) → F.slack n * (s + 1) ≤ post.size)
  apart : ∀ n m b c, h.get n = some b → h.get m = some c → n ≠ m → b.ro = false → F.blk n ≠ F.blk m
theorem Holds.cell {F : Emb} {h : AHeap} {w : World} (H : Holds F h w) {n : Nat} {b : Blk} (hb : h.get n = some b) {i : Nat} {v : Value} (hv : b.cells[i]? = some v) :
    w.cell? ⟨F.blk n, F.base n + i, none⟩ = some (ren F v) := by
  obtain ⟨pre, post, fr, hr, hp, _⟩ := H.row n b hb
  have hi : i < b.cells.length := (List.getElem?_eq_some_iff.1 hv).1
  simp only [World.cell?, hr, Option.isSome_none, Bool.false_eq_true, if_false]
  rw [← hp, Array.append_assoc, Array.getElem?_append_right (by omega), Nat.add_sub_cancel_left, Array.getElem?_append_left (by simpa using hi)]
  simp [hv]
theorem tySize_run {P : Program} {t : TypeId} {s : Nat} (h : tySize P t = some s) (w : World) : (sizeOf t).run P w = .ok s w := by
  unfold tySize at h
  cases hi : P.info? t with
  | none => rw [hi] at h; cases h
  | some i => rw [hi] at h; simp at h; simp [sizeOf, typeInfo, hi, h]
theorem tyAgg_run {P : Program} {t : TypeId} {b : Bool} (h : tyAgg P t = some b) (w : World) : (isAgg t).run P w = .ok b w := by
  unfold tyAgg at h
  cases hi : P.underlying t with
  | none => rw [hi] at h; cases h
  | some d =>
    rw [hi] at h
    simp only [Option.map_some, Option.some.injEq] at h
    unfold isAgg
    rw [Sem.run_bind, run_underlying hi w]
    cases d <;> simp_all
theorem partA_run {P : Program} {t : TypeId} {cs : Array Value} {off : Nat} {v : Value} (F : Emb) (h : partA P t cs off = some v) (w : World) :
    (part t (cs.map (ren F)) off).run P w = .ok (ren F v) w := by
  unfold partA at h
  split at h
  · rename_i s ha hs
    cases h
    unfold part
    simp [Sem.run_bind, tyAgg_run ha, tySize_run hs]
  · rename_i s ha
    unfold part
    simp [Sem.run_bind, tyAgg_run ha, h]
  · cases h
section
variable {P : Program} {ρ : Operand → Value} {e : Operand → Value} {F : Emb} {w : World}
theorem binA_run {op : BinOp} {x y : Value} {v : Value} (t : TypeId) (h : binA op x y = some v) : (binOp op t x y).run P w = .ok v w ∧ plainB x = true ∧ plainB y = true ∧ plainB v = true ∧ (∀ a b, eqGuard op t a b x y = pure ()) := by
  unfold binA at h
  split at h
  · rename_i k a k' b
    refine ⟨?_, rfl, rfl, ?_, fun a b => by cases op <;> rfl⟩
    · cases op <;> simp only [shiftA, intA] at h <;> (try split at h) <;> (try split at h) <;> simp_all [binOp, Op.intArith, Op.intBits, Op.intCmp, Op.intDiv, Op.shift] <;> (intro hneg; omega)
    · cases op <;> simp only [shiftA, intA] at h <;> (try split at h) <;> (try split at h) <;> (try cases h) <;> rfl
  · cases h
theorem equal_run {t : TypeId} {x y : Value} {r : Bool} (h : ∀ d, (Op.equalIn (d + 1) t x y).run P w = .ok r w) : (Op.equal t x y).run P w = .ok r w := h 9999
theorem eqNilA_run {t : TypeId} {x y : Operand} {a b : Value} {r : Bool} (h : eqNilA P t y a b = some r) :
    ((do eqGuard .eql t x y (ren F a) (ren F b); binOp .eql t (ren F a) (ren F b) : Sem Value).run P w = .ok (.bool r) w) ∧ ((do eqGuard .neq t x y (ren F a) (ren F b); binOp .neq t (ren F a) (ren F b) : Sem Value).run P w = .ok (.bool !r) w) := by
  have key : ∀ {a' b' : Value}, (∀ op, eqGuard op t x y a' b' = pure ()) → binOp .eql t a' b' = (do pure (.bool (← Op.equal t a' b'))) → binOp .neq t a' b' = (do pure (.bool (!(← Op.equal t a' b')))) → (Op.equal t a' b').run P w = .ok r w →
      ((do eqGuard .eql t x y a' b'; binOp .eql t a' b' : Sem Value).run P w = .ok (.bool r) w) ∧ ((do eqGuard .neq t x y a' b'; binOp .neq t a' b' : Sem Value).run P w = .ok (.bool !r) w) := by
    intro a' b' hg h1 h2 h3
    constructor
    · rw [hg, h1]; simp [h3]
    · rw [hg, h2]; simp [h3]
  unfold eqNilA at h
  split at h
  · rename_i hu
    rename_i a n c n' c'
    cases h
    cases a
    · rw [ren_snone, ren_snone]
      exact key (fun op => by cases op <;> rfl) (by simp only [binOp]) (by simp only [binOp]) (equal_run fun d => by simp [Op.equalIn, run_underlying hu, Sem.run_bind])
    · rw [ren_ssome, ren_snone]
      exact key (fun op => by cases op <;> rfl) (by simp only [binOp]) (by simp only [binOp]) (equal_run fun d => by simp [Op.equalIn, run_underlying hu, Sem.run_bind])
  · rename_i a hu
    cases h
    cases a
    · rw [ren_pnone]
      exact key (fun op => by cases op <;> rfl) (by simp only [binOp]) (by simp only [binOp]) (equal_run fun d => by simp [Op.equalIn, run_underlying hu, Sem.run_bind])
    · rw [ren_psome, ren_pnone]
      exact key (fun op => by cases op <;> rfl) (by simp only [binOp]) (by simp only [binOp]) (equal_run fun d => by simp [Op.equalIn, run_underlying hu, Sem.run_bind])
  · rename_i hu
    cases h
    rw [ren_iface, ren_nilIface]
    exact key (fun op => by cases op <;> rfl) (by simp only [binOp]) (by simp only [binOp]) (equal_run fun d => by simp [Op.equalIn, run_underlying hu, Sem.run_bind])
  · rename_i hu
    split at h
    · cases h
      rw [ren_nilIface]
      exact key (fun op => by cases op <;> cases x <;> rfl) (by simp only [binOp]) (by simp only [binOp]) (equal_run fun d => by simp [Op.equalIn, run_underlying hu, Sem.run_bind])
    · cases h
  · rename_i hu
    cases h
    rw [ren_func, ren_nilFunc]
    exact key (fun op => by cases op <;> rfl) (by simp only [binOp]) (by simp only [binOp]) (equal_run fun d => by simp [Op.equalIn, run_underlying hu, Sem.run_bind])
  · rename_i hu
    cases h
    rw [ren_nilFunc]
    exact key (fun op => by cases op <;> rfl) (by simp only [binOp]) (by simp only [binOp]) (equal_run fun d => by simp [Op.equalIn, run_underlying hu, Sem.run_bind])
  · cases h
theorem eqFieldsA_run (d : Nat) (xs ys : Array Value) : ∀ (fs : List Field) (r : Bool), eqFieldsA P xs ys fs = some r → (Op.eqFields (d + 1) (xs.map (ren F)) (ys.map (ren F)) fs).run P w = .ok r w
  | [], r, h => by cases h; simp [Op.eqFields]
  | f :: fs, r, h => by
    unfold eqFieldsA at h
    split at h
    · rename_i hc
      have hpart : ∀ (cs : Array Value) v, cs[f.offset]? = some v → (part f.type (cs.map (ren F)) f.offset).run P w = .ok (ren F v) w := fun cs v hv => by
        unfold part
        simp [Sem.run_bind, tyAgg_run hc.2, hv]
      have hne := hc.1
      split at h
      · rename_i k a k' b u r' hx hy hu hr
        split at h
        · rename_i hk
          subst hk
          cases h
          have := eqFieldsA_run d xs ys fs r' hr
          simp only [Op.eqFields, hne, ne_eq, not_false_eq_true, if_true, Sem.run_bind, hpart xs _ hx, hpart ys _ hy, Result.andThen_ok, ren_int, run_equalIn_int _ _ _ _ _ _ _ hu, Sem.run_ite]
          cases hab : (a == b) <;> simp [this]
        · cases h
      · rename_i a b r' hx hy hu hr
        cases h
        have := eqFieldsA_run d xs ys fs r' hr
        simp only [Op.eqFields, hne, ne_eq, not_false_eq_true, if_true, Sem.run_bind, hpart xs _ hx, hpart ys _ hy, Result.andThen_ok, ren_bool, run_equalIn_bool _ _ _ _ _ hu, Sem.run_ite]
        cases hab : (a == b) <;> simp [this]
      · rename_i a b r' hx hy hu hr
        cases h
        have := eqFieldsA_run d xs ys fs r' hr
        simp only [Op.eqFields, hne, ne_eq, not_false_eq_true, if_true, Sem.run_bind, hpart xs _ hx, hpart ys _ hy, Result.andThen_ok, ren_string, run_equalIn_string _ _ _ _ _ hu, Sem.run_ite, ← beq_toListBytes]
        cases hab : (a == b) <;> simp [this]
      · cases h
    · cases h
theorem eqFlatA_run {t : TypeId} {x y : Operand} {a b : Value} {r : Bool} (h : eqFlatA P t a b = some r) :
    ((do eqGuard .eql t x y (ren F a) (ren F b); binOp .eql t (ren F a) (ren F b) : Sem Value).run P w = .ok (.bool r) w) ∧ ((do eqGuard .neq t x y (ren F a) (ren F b); binOp .neq t (ren F a) (ren F b) : Sem Value).run P w = .ok (.bool !r) w) := by
  unfold eqFlatA at h
  split at h
  · rename_i xs ys
    split at h
    · rename_i fs hfs
      split at h
      · rename_i hok
        unfold tyEqOK at hok
        simp only [Bool.and_eq_true, Bool.not_eq_true'] at hok
        obtain ⟨fs', hu, rfl⟩ : ∃ fs' : Array Field, P.underlying t = some (.struct fs') ∧ fs'.toList = fs := by
          unfold tyFieldsL at hfs
          split at hfs
          · rename_i fs' hu; cases hfs; exact ⟨fs', hu, rfl⟩
          · cases hfs
        have hf : P.fieldsOf t = fs' := by unfold Program.fieldsOf; rw [hu]
        have key : (Op.equalIn 10000 t (.agg (xs.map (ren F))) (.agg (ys.map (ren F)))).run P w = .ok r w := by
          rw [run_equalIn_struct w 9999 t _ _ (by rw [hf]; exact hu) hok.1, hf]
          exact eqFieldsA_run 9998 xs ys _ r h
        rw [ren_agg, ren_agg]
        constructor
        · simp only [Sem.run_bind, run_eqGuard_agg w .eql t x y _ _ hok.2, Result.andThen_ok, run_eql_struct, key]
        · simp only [Sem.run_bind, run_eqGuard_agg w .neq t x y _ _ hok.2, Result.andThen_ok, run_neq_struct, key]
      · cases h
    · cases h
  · rename_i a b
    split at h
    · rename_i hb
      cases h
      have hu : P.underlying t = some .bool := by
        unfold tyBool at hb
        split at hb
        · assumption
        · cases hb
      have key : (Op.equal t (.bool a) (.bool b)).run P w = .ok (a == b) w := run_equalIn_bool w 9999 t a b hu
      rw [ren_bool, ren_bool]
      constructor
      · simp [eqGuard, binOp, key]
      · simp [eqGuard, binOp, key]
    · cases h
  · rename_i a b
    split at h
    · rename_i hb
      cases h
      have hu : P.underlying t = some .string := by
        unfold tyText at hb
        split at hb
        · assumption
        · cases hb
      have key : (Op.equal t (.string a) (.string b)).run P w = .ok (a == b) w := by
        rw [beq_toListBytes]; exact run_equalIn_string w 9999 t a b hu
      rw [ren_string, ren_string]
      constructor
      · simp [eqGuard, binOp, Op.stringOp, beq_toListBytes]
      · simp [eqGuard, binOp, Op.stringOp, beq_toListBytes]
    · cases h
  · cases h
theorem binOpA_run {op : BinOp} {t : TypeId} {x y : Operand} {a b v : Value} (h : binOpA P op t y a b = some v) :
    ((do eqGuard op t x y (ren F a) (ren F b); binOp op t (ren F a) (ren F b) : Sem Value).run P w = .ok (ren F v) w) := by
  unfold binOpA at h
  split at h
  · rename_i u hu
    cases h
    obtain ⟨h1, h2, h3, h4, h5⟩ := binA_run (P := P) (w := w) t hu
    rw [ren_plain F h2, ren_plain F h3, ren_plain F h4, h5]
    simpa [Sem.run_bind] using h1
  · split at h
    · rename_i hr
      split at h
      · cases h; rw [ren_bool]; exact (eqNilA_run hr).1
      · cases h; rw [ren_bool]; exact (eqNilA_run hr).2
      · cases h
    · split at h
      · cases h
        rw [ren_bool]
        exact (eqFlatA_run ‹_›).1
      · cases h
        rw [ren_bool]
        exact (eqFlatA_run ‹_›).2
      · cases h
theorem unA_run {op : UnOp} {x v : Value} (h : unA op x = some v) : (Op.unary op (ren F x)).run P w = .ok (ren F v) w := by
  unfold unA at h
  split at h <;> (try cases h) <;> simp [Op.unary, Op.intArith, Op.intBits]
theorem convertA_run {s d : TypeId} {x v : Value} (h : convertA P s d x = some v) : (convert s d (ren F x)).run P w = .ok (ren F v) w := by
  unfold convertA at h
  split at h
  · rename_i k n k' hc
    cases h
    unfold tyConv at hc
    split at hc
    · rename_i t k'' hs hd
      cases hc
      simp [convert, run_underlying hs, run_underlying hd, Conv.intToInt, Sem.run_bind]
    · cases hc
  · cases h
theorem tyField_run {t : TypeId} {i off : Nat} {ft : TypeId} (h : tyField P t i = some (off, ft)) : ∃ fs f, P.underlying t = some (.struct fs) ∧ fs[i]? = some f ∧ f.offset = off ∧ f.type = ft := by
  unfold tyField at h
  split at h
  · rename_i fs hu
    cases hf : fs[i]? with
    | none => rw [hf] at h; cases h
    | some f => rw [hf] at h; simp at h; exact ⟨fs, f, hu, hf, h.1, h.2⟩
  · cases h
theorem fieldA_run {t : TypeId} {x v : Value} {i : Nat} (h : fieldA P t x i = some v) : (Instr.field t (ren F x) i).run P w = .ok (ren F v) w := by
  unfold fieldA at h
  split at h
  · rename_i cs off ft hf
    obtain ⟨fs, f, hu, hi, rfl, rfl⟩ := tyField_run hf
    rw [ren_agg]
    simp only [Instr.field, Sem.run_bind, run_underlying hu, Result.andThen_ok, hi, asAgg, Sem.run_pure]
    exact partA_run F h w
  · cases h
theorem tyArray_run {t : TypeId} {n : Nat} {el : TypeId} (h : tyArray P t = some (n, el)) : P.underlying t = some (.array n el) := by
  unfold tyArray at h
  split at h
  · rename_i hu; cases h; exact hu
  · cases h
theorem tySlice_run {t el : TypeId} (h : tySlice P t = some el) : P.underlying t = some (.slice el) := by
  unfold tySlice at h
  split at h
  · rename_i hu; cases h; exact hu
  · cases h
theorem indexA_run {t : TypeId} {x i v : Value} (h : indexA P t x i = some v) : (Instr.index t (ren F x) (ren F i)).run P w = .ok (ren F v) w := by
  unfold indexA at h
  split at h
  · rename_i cs k n len el ha
    split at h
    · rename_i s hs
      split at h
      · rename_i hn
        simp only [ren_agg, ren_int, Instr.index, asIntOf, Sem.run_bind, Sem.run_pure, Result.andThen_ok, run_underlying (tyArray_run ha)]
        rw [if_pos hn]
        simp only [Sem.run_bind, tySize_run hs, Result.andThen_ok]
        exact partA_run F h w
      · cases h
    · cases h
  · rename_i s k n ha
    split at h
    · rename_i hu
      split at h
      · rename_i hn
        cases hs : s[n.toNat]? with
        | none => rw [hs] at h; cases h
        | some b =>
          rw [hs] at h
          cases h
          simp only [ren_string, ren_int, Instr.index, asIntOf, Sem.run_bind, Sem.run_pure, Result.andThen_ok, run_underlying hu, if_pos hn, hs]
      · cases h
    · cases h
  · cases h
theorem fieldAddrA_run {t : TypeId} {x v : Value} {i : Nat} (h : fieldAddrA P t x i = some v) : (Instr.fieldAt t (ren F x) i).run P w = .ok (ren F v) w := by
  unfold fieldAddrA at h
  split at h
  · rename_i a off ft hf
    split at h
    · rename_i s hs
      split at h
      · rename_i hsp
        cases h
        obtain ⟨fs, f, hu, hi, rfl, rfl⟩ := tyField_run hf
        simp only [ren_psome, Instr.fieldAt, Instr.sureAddr, fieldPlace, Sem.run_bind, Sem.run_pure, Result.andThen_ok, run_underlying hu, hi, tySize_run hs]
        simp only [Nat.succ_ne_zero, if_false, Sem.run_pure, Result.andThen_ok]
        obtain ⟨ab, ao, asp⟩ := a
        simp only at hsp
        subst hsp
        by_cases h0 : f.offset = 0
        · simp [Addr.add, adr, h0]
        · simp [Addr.add, adr, h0, Nat.add_assoc]
      · cases h
    · cases h
  · cases h
theorem add_plain (a : Addr) (k : Nat) (h : a.spot = none) : a.add k = ⟨a.block, a.off + k, none⟩ := by
  obtain ⟨ab, ao, asp⟩ := a
  simp only at h
  subst h
  unfold Addr.add
  split <;> simp_all
theorem indexAddrA_run {t : TypeId} {x i v : Value} (h : indexAddrA P t x i = some v) : (Instr.indexAt t (ren F x) (ren F i)).run P w = .ok (ren F v) w := by
  unfold indexAddrA at h
  split at h
  · rename_i a len c k n
    split at h
    · rename_i el hel
      split at h
      · rename_i s hs
        split at h
        · rename_i hc
          cases h
          simp only [ren_ssome, ren_int, ren_psome, Instr.indexAt, asIntOf, Sem.run_bind, Sem.run_pure, Result.andThen_ok, run_underlying (tySlice_run hel)]
          rw [if_pos hc.2]
          simp only [Sem.run_bind, tySize_run hs, Result.andThen_ok, Sem.run_pure]
          rw [add_plain _ _ (by simpa [adr] using hc.1)]
          simp [adr, Nat.add_assoc]
        · cases h
      · cases h
    · cases h
  · rename_i a k n
    split at h
    · rename_i len el hel
      split at h
      · rename_i s hs
        split at h
        · rename_i hc
          cases h
          simp only [ren_int, ren_psome, Instr.indexAt, Instr.sureAddr, asIntOf, Sem.run_bind, Sem.run_pure, Result.andThen_ok, run_underlying (tyArray_run hel)]
          rw [if_pos hc.2]
          simp only [Sem.run_bind, tySize_run hs, Result.andThen_ok, Sem.run_pure]
          rw [add_plain _ _ (by simpa [adr] using hc.1)]
          simp [adr, Nat.add_assoc]
        · cases h
      · cases h
    · cases h
  · cases h
theorem lenA_run {t ty : TypeId} {x v : Value} (h : lenA P t x = some v) : (Builtin.len_ #[t] ty #[ren F x]).run P w = .ok (ren F v) w := by
  unfold lenA at h
  split at h
  · rename_i a n c el hel
    cases h
    cases a <;> simp [Builtin.len_, run_underlying (tySlice_run hel), Sem.run_bind, goInt]
  · cases h
theorem minA_run : ∀ (l : List Value) (x v : Value), minA l x = some v → ((l.map (ren F)).foldlM Builtin.min2 (ren F x)).run P w = .ok (ren F v) w
  | [], x, v, h => by cases h; simp
  | y :: l, x, v, h => by
    unfold minA at h
    split at h
    · rename_i heq; cases heq
    · rename_i heq
      cases heq
      have := minA_run _ _ _ h
      simp only [List.map_cons, List.foldlM_cons, Sem.run_bind, ren_int, Builtin.min2, Sem.run_pure, Result.andThen_ok] at this ⊢
      exact this
    · cases h
theorem maxA_run : ∀ (l : List Value) (x v : Value), maxA l x = some v → ((l.map (ren F)).foldlM Builtin.max2 (ren F x)).run P w = .ok (ren F v) w
  | [], x, v, h => by cases h; simp
  | y :: l, x, v, h => by
    unfold maxA at h
    split at h
    · rename_i heq; cases heq
    · rename_i heq
      cases heq
      have := maxA_run _ _ _ h
      simp only [List.map_cons, List.foldlM_cons, Sem.run_bind, ren_int, Builtin.max2, Sem.run_pure, Result.andThen_ok] at this ⊢
      exact this
    · cases h
theorem arrayAtA_run {t : TypeId} {x v : Value} (h : arrayAtA P t x = some v) : (Instr.arrayAt t (ren F x)).run P w = .ok (ren F v) w := by
  unfold arrayAtA at h
  split at h
  · rename_i a len c n el ha
    split at h
    · cases h
    · rename_i hn
      cases h
      simp [Instr.arrayAt, Sem.run_bind, run_underlying (tyArray_run ha), hn]
  · cases h
theorem sliceBounds_run {b : Bool} {len cap l r : Nat} {lo hi : Option Value} (hl : boundA lo 0 = some l) (hr : boundA hi len = some r) (h1 : l ≤ r) (h2 : r ≤ cap) :
    (Instr.sliceBounds b len cap (lo.map (ren F)) (hi.map (ren F)) none).run P w = .ok (l, r, cap) w := by
  have hl' : ∀ {m : Nat}, l ≤ m → ∀ v, lo = some v → ∀ c, (Instr.sliceBound (ren F v) m c).run P w = .ok l w := by
    intro m hm v hv c
    subst hv
    unfold boundA at hl
    split at hl
    · rename_i heq; cases heq
    · rename_i k n heq
      cases heq
      split at hl
      · rename_i hn
        cases hl
        simp [Instr.sliceBound, asIntOf, hn, show n ≤ (m : Int) by omega]
      · cases hl
    · cases hl
  have hr' : ∀ v, hi = some v → ∀ c, (Instr.sliceBound (ren F v) cap c).run P w = .ok r w := by
    intro v hv c
    subst hv
    unfold boundA at hr
    split at hr
    · rename_i heq; cases heq
    · rename_i k n heq
      cases heq
      split at hr
      · rename_i hn
        cases hr
        simp [Instr.sliceBound, asIntOf, hn, show n ≤ (cap : Int) by omega]
      · cases hr
    · cases hr
  have hr0 : hi = none → r = len := by rintro rfl; simpa [boundA] using hr.symm
  have hl0 : lo = none → l = 0 := by rintro rfl; simpa [boundA] using hl.symm
  unfold Instr.sliceBounds
  cases hi with
  | none =>
    obtain rfl := hr0 rfl
    cases lo with
    | none => obtain rfl := hl0 rfl; simp
    | some v => simp [hl' h1 v rfl]
  | some u =>
    cases lo with
    | none => obtain rfl := hl0 rfl; simp [hr' u rfl]
    | some v => simp [hr' u rfl, hl' h1 v rfl]
theorem sliceAt_slice {t el : TypeId} (h : tySlice P t = some el) (x : Value) (lo hi mx : Option Value) : (Instr.sliceAt t x lo hi mx).run P w = (Instr.slice t x lo hi mx).run P w := by
  simp [Instr.sliceAt, Sem.run_bind, run_underlying (tySlice_run h)]
theorem sliceA_run {h : AHeap} {t : TypeId} {x v : Value} {lo hi mx : Option Value} (H : Holds F h w) (hv : sliceA P h t x lo hi mx = some v) : (Instr.sliceAt t (ren F x) (lo.map (ren F)) (hi.map (ren F)) (mx.map (ren F))).run P w = .ok (ren F v) w := by
  unfold sliceA at hv
  split at hv
  · rename_i el a len cap hel
    split at hv
    · rename_i l r s hl hr hs
      split at hv
      · rename_i hc
        obtain ⟨h1, h2, h3⟩ := hc
        have hb := sliceBounds_run (P := P) (F := F) (w := w) (b := true) (cap := cap + F.slack a.block) hl hr h1 (by omega)
        rw [Option.map_none, sliceAt_slice hel]
        simp only [ren_ssome, Instr.slice, Sem.run_bind, run_underlying (tySlice_run hel), Result.andThen_ok, hb, tySize_run hs, Sem.run_pure]
        obtain ⟨ab, ao, asp⟩ := a
        simp only at h3
        subst h3
        split at hv
        · rename_i hlc
          split at hv
          · rename_i h0
            cases hv
            subst h0
            simp [adr, Addr.add]
          · rename_i h0
            cases hv
            have hne : ¬ (cap + F.slack ab = l) := by omega
            simp only [if_neg hne, Option.map_some, ren_ssome]
            rw [add_plain _ _ rfl]
            simp only [adr, Nat.add_assoc]
            congr 2
            omega
        · rename_i hlc
          split at hv
          · rename_i b hb'
            split at hv
            · rename_i hg
              cases hv
              obtain ⟨_, _, _, _, _, _, hsl, _⟩ := H.row _ _ hb'
              have hsl := hsl hg
              have he : cap + F.slack ab = l := by simp only at hsl; omega
              simp only [if_pos he, ren_ssome]
              congr 2
              · omega
              · simp only at hsl; omega
            · cases hv
          · cases hv
      · cases hv
    · cases hv
  · rename_i el hel
    split at hv
    · rename_i s hl hr hs
      cases hv
      have hb := sliceBounds_run (P := P) (F := F) (w := w) (b := true) (cap := 0) hl hr (Nat.le_refl _) (Nat.le_refl _)
      rw [Option.map_none, sliceAt_slice hel]
      simp [Instr.slice, Sem.run_bind, run_underlying (tySlice_run hel), hb, tySize_run hs]
    · cases hv
  · rename_i n el a hsl ha
    split at hv
    · rename_i l r s b hl hr hs hb'
      split at hv
      · rename_i hc
        obtain ⟨h1, h2, h3, hg⟩ := hc
        have hslk : F.slack a.block = 0 := by obtain ⟨_, _, _, _, _, _, hslk, _⟩ := H.row _ _ hb'; exact hslk hg
        have hb := sliceBounds_run (P := P) (F := F) (w := w) (b := false) hl hr h1 h2
        simp only [Option.map_none, ren_psome, Instr.sliceAt, Sem.run_bind, run_underlying (tyArray_run ha), Instr.sureAddr, Sem.run_pure, Result.andThen_ok, hb, tySize_run hs]
        obtain ⟨ab, ao, asp⟩ := a
        simp only at h3 hslk
        subst h3
        split at hv
        · rename_i h0
          cases hv
          simp only [if_pos h0, ren_ssome, hslk]
          congr 2 <;> omega
        · rename_i h0
          cases hv
          simp only [if_neg h0, ren_ssome, hslk]
          rw [add_plain _ _ rfl]
          simp [adr, Nat.add_assoc]
      · cases hv
    · cases hv
  · cases hv
theorem loadA_run {h : AHeap} {t : TypeId} {a : Addr} {v : Value} (H : Holds F h w) (hv : loadA P h t a = some v) : (Instr.loadAt t (.pointer (some (adr F a)))).run P w = .ok (ren F v) w := by
  unfold loadA at hv
  split at hv
  · rename_i b s hb ha hs
    have hv : (if a.spot = none ∧ a.off + s ≤ b.cells.length then some (Value.agg ((b.cells.drop a.off).take s).toArray) else none) = some v := by
      split at hv
      · rename_i hc
        rw [if_pos ⟨hc.1, by omega⟩, ← hv, hc.2.1, List.drop_zero, List.take_of_length_le (by omega)]
      · exact hv
    split at hv
    · rename_i hc
      cases hv
      obtain ⟨ab, ao, asp⟩ := a
      simp only at hc hb
      obtain ⟨rfl, hlen⟩ := hc
      have hagg := ha
      unfold tyAgg at hagg
      cases hu : P.underlying t with
      | none => rw [hu] at hagg; cases hagg
      | some d =>
        rw [hu] at hagg
        simp only [Option.map_some, Option.some.injEq] at hagg
        rw [show ren F (.agg ((b.cells.drop ao).take s).toArray) = .agg (((b.cells.drop ao).take s).map (ren F)).toArray by simp]
        refine run_loadAt_mid w (F.blk ab) (F.base ab + ao) t _ d (fun j v hj => ?_) hu (by cases d <;> simp_all [TypeDesc.isRow]) ?_
        · rw [Nat.add_assoc]
          have hj' := (List.getElem?_eq_some_iff.1 hj).1
          simp only [List.length_map, List.length_take, List.length_drop] at hj'
          simp only [List.getElem?_map, List.getElem?_take, List.getElem?_drop] at hj
          rw [if_pos (by omega)] at hj
          cases hx : b.cells[ao + j]? with
          | none => rw [hx] at hj; cases hj
          | some u =>
            rw [hx] at hj
            simp only [Option.map_some, Option.some.injEq] at hj
            subst hj
            exact H.cell hb hx
        · have : (((b.cells.drop ao).take s).map (ren F)).length = s := by simp; omega
          rw [this]; exact hs
    · cases hv
  · rename_i b s hb ha hs
    split at hv
    · rename_i hc
      obtain ⟨ab, ao, asp⟩ := a
      simp only at hc hb hv
      subst hc
      have hcell := H.cell hb hv
      simp only [Instr.loadAt, Instr.sureAddr, loadVar, Sem.run_bind, Sem.run_pure, Result.andThen_ok, tyAgg_run ha, Bool.false_eq_true, if_false]
      simp only [load, Sem.run, adr, hcell]
    · cases hv
  · cases hv
end
end Go.Proofs.Ytjdbknnacaacaaa
namespace Go.Proofs.Ytjdbknnacaacaaa
open Go
set_option linter.unusedSimpArgs false
set_option linter.unusedVariables false
theorem cells_ren (F : Emb) (v : Value) : (ren F v).cells = v.cells.map (ren F) := by
  cases v with
  | pointer a => cases a <;> simp [Value.cells]
  | slice a n c => cases a <;> simp [Value.cells]
  | agg cs => simp [Value.cells]
  | _ => simp [Value.cells, ren]
theorem spliceA_length (l : List Value) (off : Nat) (vs : List Value) (h : off + vs.length ≤ l.length) : (spliceA l off vs).length = l.length := by
  unfold spliceA; simp; omega
theorem spliceA_get (l : List Value) (off : Nat) (vs : List Value) (h : off + vs.length ≤ l.length) (j : Nat) : (spliceA l off vs)[j]? = if off ≤ j ∧ j < off + vs.length then vs[j - off]? else l[j]? := by
  unfold spliceA
  have hl : (l.take off).length = off := by simp; omega
  by_cases h1 : j < off
  · rw [List.append_assoc, List.getElem?_append_left (by omega), if_neg (by omega), List.getElem?_take_of_lt h1]
  · rw [List.append_assoc, List.getElem?_append_right (by omega), hl]
    by_cases h2 : j < off + vs.length
    · rw [List.getElem?_append_left (by omega), if_pos (by omega)]
    · rw [List.getElem?_append_right (by omega), if_neg (by omega), List.getElem?_drop]
      congr 1; omega
theorem set_splice (l : List Value) (i : Nat) (v : Value) (h : i < l.length) : l.set i v = spliceA l i [v] := by
  apply List.ext_getElem?
  intro j
  rw [spliceA_get l i [v] (by simp; omega), List.getElem?_set]
  by_cases hj : i = j
  · subst hj; simp [h]
  · rw [if_neg hj, if_neg (by simp only [List.length_cons, List.length_nil]; omega)]
theorem mid_get (pre m post : Array Value) (j : Nat) : (pre ++ m ++ post)[j]? = if j < pre.size then pre[j]? else if j - pre.size < m.size then m[j - pre.size]? else post[j - pre.size - m.size]? := by
  by_cases h1 : j < pre.size
  · rw [if_pos h1, Array.append_assoc, Array.getElem?_append_left h1]
  · rw [if_neg h1, Array.append_assoc, Array.getElem?_append_right (by omega)]
    by_cases h2 : j - pre.size < m.size
    · rw [if_pos h2, Array.getElem?_append_left h2]
    · rw [if_neg h2, Array.getElem?_append_right (by omega)]
theorem over_mid (pre post : Array Value) (cs vs : List Value) (off : Nat) (h : off + vs.length ≤ cs.length) : over (pre ++ cs.toArray ++ post) (pre.size + off) vs = pre ++ (spliceA cs off vs).toArray ++ post := by
  apply Array.ext_getElem?
  intro j
  have hlen := spliceA_length cs off vs h
  rw [over_get _ _ _ _ (by simp only [Array.size_append, List.size_toArray]; omega), mid_get, mid_get]
  simp only [List.size_toArray, List.getElem?_toArray, hlen, spliceA_get cs off vs h]
  by_cases h1 : j < pre.size
  · rw [if_neg (by omega), if_pos h1, if_pos h1]
  · rw [if_neg h1, if_neg h1]
    by_cases h2 : j - pre.size < cs.length
    · rw [if_pos h2, if_pos h2]
      by_cases h3 : off ≤ j - pre.size ∧ j - pre.size < off + vs.length
      · rw [if_pos (by omega), if_pos h3]
        congr 1; omega
      · rw [if_neg (by omega), if_neg h3]
    · rw [if_neg (by omega), if_neg h2, if_neg h2]
theorem fold_over (off : Nat) : ∀ (l : List Value) (k : Nat) (cells : Array Value), (l.zipIdx k).foldl (fun (cs : Array Value) (p : Value × Nat) => cs.setIfInBounds (off + p.2) p.1) cells = over cells (off + k) l
  | [], _, _ => rfl
  | v :: l, k, cells => by
    rw [List.zipIdx_cons, List.foldl_cons, fold_over off l (k + 1), over]
    rfl
theorem fillA_run {F : Emb} (place : Nat → Option (Nat × Nat)) : ∀ (ps : List (Nat × Value)) (cs cs' : List Value), fillA place cs ps = some cs' → Instr.fill place (cs.map (ren F)).toArray (ps.map fun p => (p.1, ren F p.2)) = some (cs'.map (ren F)).toArray
  | [], cs, cs', h => by cases h; rfl
  | (i, v) :: ps, cs, cs', h => by
    unfold fillA at h
    simp only [List.map_cons]
    unfold Instr.fill
    cases hp : place i with
    | none => rw [hp] at h; cases h
    | some q =>
      obtain ⟨off, size⟩ := q
      rw [hp] at h
      simp only at h ⊢
      split at h
      · cases h
      · rename_i hc
        rw [not_or] at hc
        have hsz : (ren F v).cells.size = v.cells.size := by rw [cells_ren]; simp
        rw [if_neg (by simp only [hsz, List.size_toArray, List.length_map, ne_eq, Bool.or_eq_true, decide_eq_true_eq, not_or]; exact ⟨hc.1, hc.2⟩)]
        rw [← fillA_run place ps _ _ h]
        congr 1
        rw [← Array.foldl_toList, Array.toList_zipIdx]
        rw [fold_over off (ren F v).cells.toList 0, cells_ren]
        have := over_mid #[] #[] (cs.map (ren F)) (v.cells.toList.map (ren F)) off (by simp only [List.length_map, Array.length_toList]; omega)
        simp only [Array.empty_append, Array.append_empty, List.size_toArray, List.length_nil, Nat.zero_add] at this
        rw [Array.toList_map, Nat.add_zero, this]
        congr 1
        simp [spliceA, List.map_take, List.map_drop]
theorem zerosL_get (z : List Value) : ∀ (n i : Nat), (zerosL z n)[i]? = if i < n * z.length then z[i % z.length]? else none
  | 0, i => by simp [zerosL]
  | n + 1, i => by
    unfold zerosL
    by_cases h : i < z.length
    · rw [List.getElem?_append_left h, if_pos (by rw [Nat.add_mul]; omega), Nat.mod_eq_of_lt h]
    · rw [List.getElem?_append_right (by omega), zerosL_get z n]
      have h1 : (i - z.length < n * z.length) ↔ (i < (n + 1) * z.length) := by rw [Nat.add_mul]; omega
      simp only [h1]
      split
      · rw [Nat.mod_eq_sub_mod (a := i) (b := z.length) (by omega)]
      · rfl
theorem zerosL_len (z : List Value) : ∀ n, (zerosL z n).length = n * z.length
  | 0 => by simp [zerosL]
  | n + 1 => by rw [zerosL, List.length_append, zerosL_len z n, Nat.add_mul]; omega
theorem zerosL_range (z : Array Value) (n s : Nat) (hs : z.size = s) : (Array.range (n * s)).map (fun i => z[i % z.size]!) = (zerosL z.toList n).toArray := by
  apply Array.ext_getElem?
  intro i
  rw [Array.getElem?_map, show (zerosL z.toList n).toArray[i]? = (zerosL z.toList n)[i]? by simp, zerosL_get, Array.length_toList, hs]
  by_cases h : i < n * s
  · have h0 : 0 < s := by rcases Nat.eq_zero_or_pos s with h0 | h0; (subst h0; simp at h); exact h0
    have hm : i % s < z.size := by rw [hs]; exact Nat.mod_lt _ h0
    rw [if_pos h]
    simp [h, hm]
  · rw [if_neg h]
    simp [Nat.le_of_not_lt h]
theorem zerosL_ren {F : Emb} {z : List Value} (h : z.map (ren F) = z) : ∀ n, (zerosL z n).map (ren F) = zerosL z n
  | 0 => rfl
  | n + 1 => by rw [zerosL, List.map_append, h, zerosL_ren h n]
section
variable {P : Program} {ρ : Operand → Value} {e : Operand → Value} {F : Emb} {w : World}
theorem tyZero_run {t : TypeId} {z : Value} (hz : tyZero P t = some z) : (zeroValue t).run P w = .ok z w := by
  unfold tyZero at hz
  cases hi : P.info? t with
  | none => rw [hi] at hz; cases hz
  | some i => rw [hi] at hz; simp at hz; simp [zeroValue, typeInfo, hi, hz, Sem.run_bind]
theorem plain_row {z : Value} (hp : plainB z = true) : z.cells.toList.map (ren F) = z.cells.toList := by
  rw [← Array.toList_map, ← cells_ren, ren_plain F hp]
theorem placesL_run : ∀ (fs : List Field) (l : List (Nat × Nat)), placesL P fs = some l → (fs.mapM fun f => (do pure (f.offset, ← sizeOf f.type) : Sem (Nat × Nat))).run P w = .ok l w
  | [], l, h => by cases h; simp
  | f :: fs, l, h => by
    unfold placesL at h
    split at h
    · rename_i s l' hs hl
      cases h
      have := placesL_run fs l' hl
      simp only [List.mapM_cons, Sem.run_bind, tySize_run hs, Result.andThen_ok, Sem.run_pure, this]
    · cases h
theorem buildA_run {t : TypeId} {ps : List (Nat × Value)} {v : Value} (h : buildA P t ps = some v) : (Instr.build t (ps.map fun p => (p.1, ren F p.2)).toArray).run P w = .ok (ren F v) w := by
  unfold buildA at h
  split at h
  · rename_i z pl hz hpl
    split at h
    · rename_i hp
      cases hf : fillA pl z.cells.toList ps with
      | none => rw [hf] at h; cases h
      | some cs =>
        rw [hf] at h
        cases h
        have hfill := fillA_run (F := F) pl ps _ _ hf
        rw [plain_row hp] at hfill
        unfold tyPlace at hpl
        split at hpl
        · rename_i fs hu
          cases hl : placesL P fs.toList with
          | none => rw [hl] at hpl; cases hpl
          | some l =>
            rw [hl] at hpl
            cases hpl
            have hm := placesL_run (w := w) _ _ hl
            have hm' : (fs.mapM fun f => (do pure (f.offset, ← sizeOf f.type) : Sem (Nat × Nat))).run P w = .ok l.toArray w := by
              rw [Array.mapM_eq_mapM_toList]
              simp only [map_eq_pure_bind, Sem.run_bind, hm, Result.andThen_ok, Sem.run_pure]
            have hg : (fun i : Nat => l.toArray[i]?) = fun i : Nat => l[i]? := by funext i; simp
            simp only [Instr.build, Sem.run_bind, tyZero_run hz, run_underlying hu, Result.andThen_ok, hm']
            rw [hg, show z.cells = z.cells.toList.toArray by simp, hfill]
            simp
        · rename_i n el hu
          cases hs : tySize P el with
          | none => rw [hs] at hpl; cases hpl
          | some s =>
            rw [hs] at hpl
            cases hpl
            simp only [Instr.build, Sem.run_bind, tyZero_run hz, run_underlying hu, Result.andThen_ok, tySize_run hs]
            rw [show z.cells = z.cells.toList.toArray by simp, hfill]
            simp
        · cases hpl
    · cases h
  · cases h
theorem methA_run {t : TypeId} {name : String} {f : FuncId} (h : methA P t name = some f) : ∃ i m el, P.info? t = some i ∧ i.methods.find? (·.name == name) = some m ∧ m.path = #[] ∧ m.func = some (f, true) ∧ P.underlying t = some (.pointer el) := by
  unfold methA at h
  split at h
  · rename_i i el hi hu
    split at h
    · rename_i m hm
      split at h
      · rename_i hp
        split at h
        · rename_i g hf
          cases h
          exact ⟨i, m, el, hi, hm, by simpa using hp, hf, hu⟩
        · cases h
      · cases h
    · cases h
  · cases h
theorem nilAhead_run {t : TypeId} {name : String} {f : FuncId} (h : methA P t name = some f) (n : Nat) (v : Value) : (nilAhead (n + 1) t v name).run P w = .ok (some false) w := by
  obtain ⟨i, m, el, hi, hm, hp, hf, hu⟩ := methA_run h
  unfold nilAhead
  simp [Sem.run_bind, typeInfo, hi, hm, hp, followBlind, hf]
theorem method_run {t : TypeId} {name : String} {f : FuncId} (h : methA P t name = some f) (n : Nat) (v : Value) : (method (n + 1) t v name).run P w = .ok (f, v) w := by
  obtain ⟨i, m, el, hi, hm, hp, hf, hu⟩ := methA_run h
  unfold method
  simp [Sem.run_bind, typeInfo, hi, hm, hp, follow, hf, receiverAt, run_underlying hu, Place.get]
theorem ren_get (xs : Array Value) (i : Nat) : (xs.map (ren F))[i]? = (xs[i]?).map (ren F) := by simp
theorem nilCheckA_run {o : Oper} {x : Operand} {v : Value} (ho : o.op = .nilCheck x) (hx : ρ x = ren F (e x)) (h : nilCheckA P (e x) = some v) : (execOp ρ o).run P w = .ok (.value (ren F v)) w := by
  unfold execOp
  simp only [ho]
  rw [hx]
  unfold nilCheckA at h
  split at h
  · rename_i hv
    cases h
    rw [hv]
    simp
  · rename_i hv
    cases h
    rw [hv]
    simp
  · rename_i name xs ys hv
    split at h
    · rename_i t p hx0
      split at h
      · rename_i f hm
        cases h
        rw [hv, ren_func]
        have h0 : (xs.map (ren F))[0]? = some (.iface t (ren F (.pointer p))) := by rw [ren_get, hx0]; simp
        simp only [h0, Sem.run_bind, program, Sem.run, Result.andThen_ok]
        rw [show P.types.size + Made.depth = (P.types.size + 99) + 1 from rfl, nilAhead_run hm]
        simp
      · cases h
    · cases h
  · rename_i hv
    cases h
    rw [hv]
    simp
  · cases h
theorem valA_run {h : AHeap} {o : Oper} {v : Value} (H : Holds F h w) (hok : ∀ x ∈ o.op.operands, ρ x = ren F (e x)) (hv : valA P e h o.op = some v) : (execOp ρ o).run P w = .ok (.value (ren F v)) w := by
  obtain ⟨dst, op, ty, pos, after, guard⟩ := o
  simp only at hok hv
  unfold valA at hv
  split at hv
  · rename_i x
    cases hv
    simp [execOp, hok x (by simp [Op.operands])]
  · rename_i x
    cases hv
    simp [execOp, hok x (by simp [Op.operands])]
  · rename_i c a b
    split at hv
    · rename_i t hc
      cases hv
      simp only [execOp, hok c (by simp [Op.operands]), hok a (by simp [Op.operands]), hok b (by simp [Op.operands]), hc, ren_bool, asBool, Sem.run_bind, Sem.run_pure, Result.andThen_ok]
      cases t <;> rfl
    · cases hv
  · rename_i t i
    split at hv
    · rename_i vs hvs
      have : (Instr.extract (ρ t) i) = pure (ren F v) := by
        rw [hok t (by simp [Op.operands]), hvs, ren_tuple]
        unfold Instr.extract
        simp only [ren_get, hv, Option.map_some]
      simp [execOp, this]
    · cases hv
  · rename_i op t x y u
    have := binOpA_run (P := P) (F := F) (w := w) (x := x) hv
    simp only [execOp, hok x (by simp [Op.operands]), hok y (by simp [Op.operands]), Sem.run_bind] at this ⊢
    rw [this]; rfl
  · rename_i op t x
    have := unA_run (P := P) (F := F) (w := w) hv
    simp only [execOp, hok x (by simp [Op.operands]), Sem.run_bind, this]; rfl
  · rename_i s d x
    have := convertA_run (P := P) (F := F) (w := w) hv
    simp only [execOp, hok x (by simp [Op.operands]), Sem.run_bind, this]; rfl
  · rename_i t x i
    have := fieldA_run (P := P) (F := F) (w := w) hv
    simp only [execOp, hok x (by simp [Op.operands]), Sem.run_bind, this]; rfl
  · rename_i t x i
    have := indexA_run (P := P) (F := F) (w := w) hv
    simp only [execOp, hok x (by simp [Op.operands]), hok i (by simp [Op.operands]), Sem.run_bind, this]; rfl
  · rename_i fn xs ys
    cases hv
    have h1 : xs.map ρ = (xs.map e).map (ren F) := by
      rw [Array.map_map]; exact Array.map_congr_left fun x hx => hok x (by simp [Op.operands, hx])
    have h2 : ys.map ρ = (ys.map e).map (ren F) := by
      rw [Array.map_map]; exact Array.map_congr_left fun x hx => hok x (by simp [Op.operands, hx])
    simp [execOp, Instr.makeFunc, h1, h2]
  · rename_i t x
    split at hv
    · cases hv
    · rename_i d hd hu
      cases hv
      simp only [execOp, hok x (by simp [Op.operands]), Sem.run_bind, Instr.makeInterface, run_underlying hu, Result.andThen_ok]
      cases d <;> simp_all
    · cases hv
  · rename_i x
    exact nilCheckA_run rfl (hok x (by simp [Op.operands])) hv
  · rename_i t x
    split at hv
    · rename_i a ha
      have := loadA_run H hv
      simp only [execOp, hok x (by simp [Op.operands]), ha, ren_psome, Sem.run_bind, this]; rfl
    · cases hv
  · rename_i t x i
    have := fieldAddrA_run (P := P) (F := F) (w := w) hv
    simp only [execOp, hok x (by simp [Op.operands]), Sem.run_bind, this]; rfl
  · rename_i t x i
    have := indexAddrA_run (P := P) (F := F) (w := w) hv
    simp only [execOp, hok x (by simp [Op.operands]), hok i (by simp [Op.operands]), Sem.run_bind, this]; rfl
  · rename_i c
    unfold builtA at hv
    obtain ⟨callee, args, ats⟩ := c
    split at hv
    · rename_i hc
      simp only at hc
      subst hc
      split at hv
      · rename_i x t hx ht
        simp only at hx ht
        obtain rfl : args = #[x] := by rw [← Array.toArray_toList (xs := args), hx]
        obtain rfl : ats = #[t] := by rw [← Array.toArray_toList (xs := ats), ht]
        have := lenA_run (P := P) (F := F) (w := w) (ty := ty) hv
        have hx := hok x (by simp [Op.operands, Call.operands])
        simp only [execOp, resolve, Sem.run_bind, Sem.run_pure, Result.andThen_ok, invoke, builtin]
        rw [show (#[x].map ρ) = #[ren F (e x)] by simp [hx]]
        rw [this]; rfl
      · cases hv
    · rename_i hc
      simp only at hc
      subst hc
      split at hv
      · rename_i x l hx
        simp only at hx
        obtain rfl : args = (x :: l).toArray := by rw [← Array.toArray_toList (xs := args), hx]
        have := minA_run (P := P) (F := F) (w := w) _ _ _ hv
        have hx : ((x :: l).toArray.map ρ).toList = ren F (e x) :: (l.map e).map (ren F) := by
          simp only [Array.toList_map, List.map_cons, List.map_map]
          rw [hok x (by simp [Op.operands, Call.operands])]
          congr 1
          exact List.map_congr_left fun y hy => hok y (by simp [Op.operands, Call.operands, hy])
        simp only [execOp, resolve, Sem.run_bind, Sem.run_pure, Result.andThen_ok, invoke, builtin, Builtin.min_, hx, this]
      · cases hv
    · rename_i hc
      simp only at hc
      subst hc
      split at hv
      · rename_i x l hx
        simp only at hx
        obtain rfl : args = (x :: l).toArray := by rw [← Array.toArray_toList (xs := args), hx]
        have := maxA_run (P := P) (F := F) (w := w) _ _ _ hv
        have hx : ((x :: l).toArray.map ρ).toList = ren F (e x) :: (l.map e).map (ren F) := by
          simp only [Array.toList_map, List.map_cons, List.map_map]
          rw [hok x (by simp [Op.operands, Call.operands])]
          congr 1
          exact List.map_congr_left fun y hy => hok y (by simp [Op.operands, Call.operands, hy])
        simp only [execOp, resolve, Sem.run_bind, Sem.run_pure, Result.andThen_ok, invoke, builtin, Builtin.max_, hx, this]
      · cases hv
    · cases hv
  · rename_i t ps
    have := buildA_run (P := P) (F := F) (w := w) hv
    have hp : (ps.map fun p => (p.1, ρ p.2)) = (((ps.toList.map fun p => (p.1, e p.2))).map fun p => (p.1, ren F p.2)).toArray := by
      apply Array.ext'
      simp only [Array.toList_map, List.map_map]
      exact List.map_congr_left fun p hp => by
        simp only [Function.comp_apply]
        rw [hok p.2 (by simp only [Op.operands, List.mem_toArray, List.mem_map]; exact ⟨p, hp, rfl⟩)]
    simp only [execOp]
    rw [show (ps.map fun x => match x with | (i, x) => (i, ρ x)) = (ps.map fun p => (p.1, ρ p.2)) from rfl, hp, Sem.run_bind, this]; rfl
  · rename_i t x lo hi mx
    have := sliceA_run (P := P) (F := F) H hv
    have hm : ∀ y : Option Operand, (∀ z, y = some z → z ∈ (Op.slice t x lo hi mx).operands) → y.map ρ = (y.map e).map (ren F) := by
      intro y hy
      cases y with
      | none => rfl
      | some z => simp [hok z (hy z rfl)]
    simp only [execOp, hok x (by simp [Op.operands])]
    rw [hm lo (by rintro z rfl; simp [Op.operands]), hm hi (by rintro z rfl; simp [Op.operands]), hm mx (by rintro z rfl; simp [Op.operands]), Sem.run_bind, this]; rfl
  · rename_i t x
    have := arrayAtA_run (P := P) (F := F) (w := w) hv
    simp only [execOp, hok x (by simp [Op.operands]), Sem.run_bind, this]; rfl
  · cases hv
theorem callFunc_run {f : FuncId} {fn : Func} {args : Array Value} (hf : P.funcs[f]? = some fn) (hb : fn.body.isSome = true) (hn : (fn.name == "runtime.NumGoroutine") = false) : (callFunc f args).run P w = .ok (.enter f args) w := by
  unfold callFunc
  simp only [Sem.run_bind, program, Sem.run, Result.andThen_ok, hf, hn, Bool.false_eq_true, if_false]
  cases h : fn.body with
  | none => rw [h] at hb; cases hb
  | some c => simp
theorem map_ren {xs : Array Operand} (h : ∀ x ∈ xs, ρ x = ren F (e x)) : xs.map ρ = (xs.map e).map (ren F) := by
  rw [Array.map_map]; exact Array.map_congr_left fun x hx => h x hx
theorem callA_run {o : Oper} {f : FuncId} {fn : Func} {args : Array Value} (hok : ∀ x ∈ o.op.operands, ρ x = ren F (e x)) (hv : callA P e o.op = some (f, args))
    (hf : P.funcs[f]? = some fn) (hb : fn.body.isSome = true) (hn : (fn.name == "runtime.NumGoroutine") = false) : (execOp ρ o).run P w = .ok (.enter f (args.map (ren F))) w := by
  obtain ⟨dst, op, ty, pos, after, guard⟩ := o
  simp only at hok hv
  unfold callA at hv
  split at hv
  · rename_i g zs ats
    split at hv
    · rename_i k xs ys hg
      cases hv
      have hg' := hok g (by simp [Op.operands, Call.operands])
      have ha := map_ren (ρ := ρ) (e := e) (F := F) (xs := zs) fun x hx => hok x (by simp [Op.operands, Call.operands, hx])
      simp only [execOp, resolve, Deferred.ofValue, hg', hg, ren_func, Sem.run_bind, Sem.run_pure, Result.andThen_ok, invoke, callFunc_run hf hb hn, ha]
      simp
    · rename_i name xs ys hg
      split at hv
      · rename_i t p hx
        split at hv
        · rename_i g' hm
          cases hv
          obtain rfl : xs = #[.iface t (.pointer p)] := by rw [← Array.toArray_toList (xs := xs), hx]
          have hg' := hok g (by simp [Op.operands, Call.operands])
          have ha := map_ren (ρ := ρ) (e := e) (F := F) (xs := zs) fun x hx => hok x (by simp [Op.operands, Call.operands, hx])
          simp only [execOp, resolve, Deferred.ofValue, hg', hg, ren_func, Sem.run_bind, Sem.run_pure, Result.andThen_ok, invoke, ha]
          have h0 : ((#[Value.iface t (.pointer p)] : Array Value).map (ren F) ++ (zs.map e).map (ren F))[0]? = some (.iface t (ren F (.pointer p))) := by rw [Array.getElem?_append_left (by simp)]; simp
          simp only [h0, callMethod, Sem.run_bind, program, Sem.run, Result.andThen_ok]
          rw [show P.types.size + Made.depth = (P.types.size + 99) + 1 from rfl, method_run hm]
          simp only [Result.andThen_ok, callFunc_run hf hb hn]
          congr 2
          apply Array.ext'
          simp [List.take_of_length_le]
        · cases hv
      · cases hv
    · cases hv
  · rename_i r name zs ats
    split at hv
    · rename_i t p hr
      split at hv
      · rename_i g hm
        cases hv
        have hr' := hok r (by simp [Op.operands, Call.operands])
        have ha := map_ren (ρ := ρ) (e := e) (F := F) (xs := zs) fun x hx => hok x (by simp [Op.operands, Call.operands, hx])
        simp only [execOp, resolve, hr', hr, ren_iface, Sem.run_bind, Sem.run_pure, Result.andThen_ok, invoke, ha]
        have h0 : (#[Value.iface t (ren F (.pointer p))] ++ (zs.map e).map (ren F))[0]? = some (.iface t (ren F (.pointer p))) := by rw [Array.getElem?_append_left (by simp)]; rfl
        simp only [h0, callMethod, Sem.run_bind, program, Sem.run, Result.andThen_ok]
        rw [show P.types.size + Made.depth = (P.types.size + 99) + 1 from rfl, method_run hm]
        simp only [Result.andThen_ok, callFunc_run hf hb hn]
        congr 2
        apply Array.ext'
        simp [List.take_of_length_le]
      · cases hv
    · cases hv
  · cases hv
structure Grew (w w' : World) (o : Obj) : Prop where
  heap : w'.heap = w.heap.push o
  os : w'.os = w.os
  tape : w'.tape = w.tape
  output : w'.output = w.output
theorem grew_alloc (w : World) (o : Obj) : Grew w (w.alloc o) o := ⟨rfl, rfl, rfl, rfl⟩
theorem grew_drew (w : World) (o : Obj) : Grew w (w.drew.alloc o) o := ⟨rfl, rfl, rfl, rfl⟩
theorem cellsA_run {h : AHeap} {s : Nat} {v : Value} {cs : List Value} (H : Holds F h w) (hv : cellsA h s v = some cs) : ∃ a n c, v = .slice a n c ∧ (Builtin.firstCells s n (ren F v)).run P w = .ok (cs.map (ren F)).toArray w ∧ cs.length = n * s := by
  unfold cellsA at hv
  split at hv
  · cases hv
    exact ⟨none, 0, 0, rfl, by simp [Builtin.firstCells], by simp⟩
  · rename_i a n c
    refine ⟨some a, n, c, rfl, ?_⟩
    split at hv
    · rename_i hn
      cases hv
      subst hn
      refine ⟨?_, by simp⟩
      rw [ren_ssome]
      exact run_firstCells_some w s 0 _ _ _ [] (by simp) (fun j v hj => by simp at hj)
    · split at hv
      · rename_i hsp
        split at hv
        · rename_i b hb
          split at hv
          · rename_i hl
            cases hv
            refine ⟨?_, by simp; omega⟩
            rw [ren_ssome]
            have := run_firstCells_some (P := P) w s n (adr F a) n (c + F.slack a.block) (((b.cells.drop a.off).take (n * s)).map (ren F)) (by simp; omega) (fun j v hj => by
              rw [List.getElem?_map] at hj
              have hj' : j < n * s := by
                cases hx : ((b.cells.drop a.off).take (n * s))[j]? with
                | none => rw [hx] at hj; cases hj
                | some u => have := (List.getElem?_eq_some_iff.1 hx).1; simp at this; omega
              rw [List.getElem?_take_of_lt hj', List.getElem?_drop] at hj
              obtain ⟨ab, ao, asp⟩ := a
              simp only at hsp hb hl hj
              subst hsp
              rw [add_plain _ _ rfl]
              cases hx : b.cells[ao + j]? with
              | none => rw [hx] at hj; cases hj
              | some u =>
                rw [hx] at hj
                simp only [Option.map_some, Option.some.injEq] at hj
                subst hj
                have := H.cell hb hx
                simp only [adr, Nat.add_assoc]
                exact this)
            exact this
          · cases hv
        · cases hv
      · cases hv
  · cases hv
theorem append_grow_run (t ty el : TypeId) (i : TypeInfo) (z : Value) (ht : P.underlying t = some (.slice el)) (hi : P.info? el = some i) (hz : i.zero = some z) (base : Option Addr) (sLen sCap n : Nat) (x : Value) (olds news : Array Value)
    (hx : Builtin.lenOf x = pure n) (ho : (Builtin.firstCells i.size sLen (.slice base sLen sCap)).run P w.drew = .ok olds w.drew) (hn : (Builtin.firstCells i.size n x).run P w.drew = .ok news w.drew)
    (hg : sCap < sLen + n) (h63 : sLen + n ≤ 16777216) (hfit : i.bytes ≤ 1048576) :
    (Builtin.append_ #[t, t] ty #[.slice base sLen sCap, x]).run P w = .ok (.slice (some ⟨w.heap.size, 0, none⟩) (sLen + n) (grownCap w (sLen + n) sCap el))
        (w.drew.alloc (.cells (olds ++ news ++ Builtin.zeroCells z.cells (grownCap w (sLen + n) sCap el - (sLen + n))) el)) := by
  have hn' : ¬ (sLen + n ≤ sCap) := by omega
  have h63' : ¬ (9223372036854775807 < ((sLen : Int) + (n : Int))) := by omega
  have hb : (sLen + n) * i.bytes ≤ 140737488355328 := Nat.le_trans (Nat.mul_le_mul h63 hfit) (by decide)
  have h48' : ¬ (281474976710656 < Builtin.nextslicecap (sLen + n) sCap * i.bytes) := by have := growslice_fits hg hb; omega
  simp [Builtin.append_, run_underlying ht, sizeOf, typeInfo, zeroValue, hi, hz, hx, hn', h63', h48', Question.forced, hn, ho, newRow, grownCap]
theorem tySize_info {t : TypeId} {s : Nat} (h : tySize P t = some s) : ∃ i, P.info? t = some i ∧ i.size = s := by
  unfold tySize at h
  cases hi : P.info? t with
  | none => rw [hi] at h; cases h
  | some i => rw [hi] at h; simp at h; exact ⟨i, rfl, h⟩
theorem Holds.drew {h : AHeap} (H : Holds F h w) : Holds F h w.drew := ⟨H.row, H.apart⟩
theorem appendA_grow {h : AHeap} {t : TypeId} {x y : Value} {cs : List Value} {el : TypeId} {need : Nat} {q : Bool} (H : Holds F h w) (hv : appendA P h t x y = some (cs, el, need, q)) :
    ∃ (a : Option Addr) (sl sc : Nat) (b : Option Addr) (n c s : Nat) (olds news : List Value), x = .slice a sl sc ∧ y = .slice b n c ∧ need = sl + n ∧ sc < need ∧ cs = olds ++ news ∧ tySlice P t = some el ∧ tySize P el = some (s + 1) ∧ cs.length = need * (s + 1) ∧ olds.length = sl * (s + 1) ∧ news.length = n * (s + 1) ∧
      cellsA h (s + 1) x = some olds ∧ cellsA h (s + 1) y = some news ∧
      (∀ (ty : TypeId) (cap : Nat), cap < need → ∃ w' sl' post, (Builtin.append_ #[t, t] ty #[.slice (a.map (adr F)) sl cap, ren F y]).run P w = .ok (.slice (some ⟨w.heap.size, 0, none⟩) need (need + sl')) w' ∧ Grew w w' (.cells ((cs.map (ren F)).toArray ++ post) el (0, 0)) ∧ sl' * (s + 1) ≤ post.size) ∧
      ((a = none ∧ q = true) ∨ ∃ ad bk, a = some ad ∧ h.get ad.block = some bk ∧ ((bk.grow = some 0 ∧ q = true) ∨ (bk.ro = false ∧ bk.grow = some (s + 1) ∧ bk.elem = el ∧ ad.spot = none ∧ ad.off + sc * (s + 1) = bk.cells.length ∧ sl ≤ sc ∧ news.all cellB = true ∧ q = false))) := by
  unfold appendA at hv
  split at hv
  · rename_i el' hel
    split at hv
    · rename_i s bs z olds news a sl sc b n c hs hbs hz hold hnew
      rw [hs] at hold hnew
      simp only [Option.getD_some] at hold hnew
      split at hv
      · rename_i hc
        obtain ⟨hp, hzs, hbl, hlt, hle⟩ := hc
        obtain ⟨a1, n1, c1, e1, r1, l1⟩ := cellsA_run (P := P) H.drew hold
        obtain ⟨a2, n2, c2, e2, r2, l2⟩ := cellsA_run (P := P) H.drew hnew
        cases e1; cases e2
        obtain ⟨i, hi, his⟩ := tySize_info hs
        have hiz : i.zero = some z := by unfold tyZero at hz; rw [hi] at hz; simpa using hz
        have hib : i.bytes ≤ 1048576 := by unfold tyBytes at hbs; rw [hi] at hbs; simp at hbs; omega
        have hrun : ∀ (ty : TypeId) (cap : Nat), cap < sl + n → ∃ w' sl' post, (Builtin.append_ #[t, t] ty #[.slice (a.map (adr F)) sl cap, ren F (.slice b n c)]).run P w = .ok (.slice (some ⟨w.heap.size, 0, none⟩) (sl + n) ((sl + n) + sl')) w' ∧ Grew w w' (.cells (((olds ++ news).map (ren F)).toArray ++ post) el' (0, 0)) ∧ sl' * (s + 1) ≤ post.size := by
          intro ty cap hcap
          have hge := grownCap_ge w (sl + n) cap el'
          have hol : (Builtin.firstCells i.size sl (.slice (a.map (adr F)) sl cap)).run P w.drew = .ok (olds.map (ren F)).toArray w.drew := by
            rw [his, ← r1]
            cases a <;> simp [Builtin.firstCells]
          have hln : Builtin.lenOf (ren F (.slice b n c)) = pure n := by cases b <;> simp [Builtin.lenOf]
          have := append_grow_run (P := P) (w := w) t ty el' i z (tySlice_run hel) hi hiz (a.map (adr F)) sl cap n (ren F (.slice b n c)) _ _ hln hol (by rw [his]; exact r2) hcap hle hib
          refine ⟨w.drew.alloc (.cells ((olds.map (ren F)).toArray ++ (news.map (ren F)).toArray ++ Builtin.zeroCells z.cells (grownCap w (sl + n) cap el' - (sl + n))) el'), grownCap w (sl + n) cap el' - (sl + n), Builtin.zeroCells z.cells (grownCap w (sl + n) cap el' - (sl + n)), ?_, ?_, ?_⟩
          · rw [this, Nat.add_sub_cancel' hge]
          · have := grew_drew w (.cells (((olds ++ news).map (ren F)).toArray ++ Builtin.zeroCells z.cells (grownCap w (sl + n) cap el' - (sl + n))) el' (0, 0))
            rw [List.map_append, ← List.append_toArray] at this
            rw [List.map_append, ← List.append_toArray]
            exact this
          · rw [size_zeroCells, hzs]
            exact Nat.le_refl _
        split at hv
        · cases hv
          exact ⟨none, sl, sc, b, n, c, s, olds, news, rfl, rfl, rfl, hlt, rfl, hel, hs, by rw [List.length_append, l1, l2, Nat.add_mul], l1, l2, hold, hnew, hrun, .inl ⟨rfl, rfl⟩⟩
        · rename_i ad
          split at hv
          · rename_i bk hbk
            split at hv
            · rename_i hg
              cases hv
              exact ⟨some ad, sl, sc, b, n, c, s, olds, news, rfl, rfl, rfl, hlt, rfl, hel, hs, by rw [List.length_append, l1, l2, Nat.add_mul], l1, l2, hold, hnew, hrun, .inr ⟨ad, bk, rfl, hbk, .inl ⟨hg, rfl⟩⟩⟩
            · split at hv
              · rename_i hc
                cases hv
                exact ⟨some ad, sl, sc, b, n, c, s, olds, news, rfl, rfl, rfl, hlt, rfl, hel, hs, by rw [List.length_append, l1, l2, Nat.add_mul], l1, l2, hold, hnew, hrun, .inr ⟨ad, bk, rfl, hbk, .inr ⟨hc.1, hc.2.1, hc.2.2.1, hc.2.2.2.1, hc.2.2.2.2.1, hc.2.2.2.2.2.1, hc.2.2.2.2.2.2, rfl⟩⟩⟩
              · cases hv
          · cases hv
      · cases hv
    · cases hv
  · cases hv
theorem parts_run {ps : Array (Nat × Operand)} (hok : ∀ p ∈ ps.toList, ρ p.2 = ren F (e p.2)) : (ps.map fun x => match x with | (i, x) => (i, ρ x)) = (((ps.toList.map fun p => (p.1, e p.2))).map fun p => (p.1, ren F p.2)).toArray := by
  apply Array.ext'
  simp only [Array.toList_map, List.map_map]
  exact List.map_congr_left fun p hp => by
    simp only [Function.comp_apply]
    rw [hok p hp]
theorem newA_run {o : Oper} {h : AHeap} {n : Nat} {v : Value} {ob : Option Blk} (H : Holds F h w) (hok : ∀ x ∈ o.op.operands, ρ x = ren F (e x)) (hv : newA P e h n o.op = some (v, ob)) :
    ∃ (u : Value) (w' : World) (bk bs sl : Nat), (execOp ρ o).run P w = .ok (.value u) w' ∧ (∀ F' : Emb, F'.blk n = bk → F'.base n = bs → F'.slack n = sl → ren F' v = u) ∧
      ((ob = none ∧ w' = w) ∨ ∃ (b : Blk) (post : Array Value), ob = some b ∧ b.ro = false ∧ bk = w.heap.size ∧ bs = 0 ∧ Grew w w' (.cells ((b.cells.map (ren F)).toArray ++ post) b.elem (0, 0)) ∧ (b.grow = some 0 → sl = 0) ∧ (∀ s, b.grow = some (s + 1) → sl * (s + 1) ≤ post.size)) := by
  obtain ⟨dst, op, ty, pos, after, guard⟩ := o
  simp only at hok hv
  unfold newA at hv
  split at hv
  · rename_i t
    split at hv
    · rename_i z hz
      split at hv
      · rename_i hp
        cases hv
        refine ⟨.pointer (some ⟨w.heap.size, 0, none⟩), _, w.heap.size, 0, 0, ?_, fun F' h1 h2 _ => by simp [adr, h1, h2], .inr ⟨_, #[], rfl, rfl, rfl, rfl, grew_alloc w _, fun _ => rfl, fun s hs => by cases hs⟩⟩
        simp only [execOp, Instr.alloc, Sem.run_bind, tyZero_run hz, Result.andThen_ok, newVar, newRow, newObj, Sem.run, Sem.run_pure, plain_row hp, Array.append_empty]
        rfl
      · cases hv
    · cases hv
  · rename_i t x
    cases hv
    refine ⟨.pointer (some ⟨w.heap.size, 0, none⟩), _, w.heap.size, 0, 0, ?_, fun F' h1 h2 _ => by simp [adr, h1, h2], .inr ⟨_, #[], rfl, rfl, rfl, rfl, grew_alloc w _, fun _ => rfl, fun s hs => by cases hs⟩⟩
    have hc : ((e x).cells.toList.map (ren F)).toArray = (ren F (e x)).cells := by
      rw [← Array.toList_map, ← cells_ren]
    simp only [execOp, hok x (by simp [Op.operands]), Instr.box, Sem.run_bind, Result.andThen_ok, newVar, newRow, newObj, Sem.run, Sem.run_pure, hc, Array.append_empty]
    rfl
  · rename_i t len ps
    split at hv
    · rename_i el hel
      split at hv
      · rename_i s z hs hz
        split at hv
        · rename_i hc
          obtain ⟨hp, hzs, hl⟩ := hc
          cases hf : fillA (fun i => some (i * s, s)) (zerosL z.cells.toList len) (ps.toList.map fun p => (p.1, e p.2)) with
          | none => rw [hf] at hv; cases hv
          | some cs =>
            rw [hf] at hv
            cases hv
            refine ⟨.slice (some ⟨w.heap.size, 0, none⟩) len len, _, w.heap.size, 0, 0, ?_, fun F' h1 h2 h3 => by simp [adr, h1, h2, h3], .inr ⟨_, #[], rfl, rfl, rfl, rfl, grew_alloc w _, fun _ => rfl, fun s hs => by cases hs⟩⟩
            have hfill := fillA_run (F := F) (fun i => some (i * s, s)) _ _ _ hf
            rw [zerosL_ren (plain_row hp)] at hfill
            have hpz : (ps.map fun x => match x with | (i, x) => (i, ρ x)) = _ := parts_run (e := e) (F := F) (ρ := ρ) (ps := ps) fun p hp => hok p.2 (by simp only [Op.operands, List.mem_toArray, List.mem_map]; exact ⟨p, hp, rfl⟩)
            have hzr : (Array.range (len * s)).map (fun i => (z.cells)[i % z.cells.size]!) = (zerosL z.cells.toList len).toArray := zerosL_range z.cells len s hzs
            have h24 : ¬ (len * s > 2 ^ 24) := by omega
            simp only [execOp, Instr.buildSlice, hpz, Sem.run_bind, run_underlying (tySlice_run hel), Result.andThen_ok, tySize_run hs, if_neg h24, Array.append_empty]
            by_cases h0 : len * s = 0
            · have hnil : zerosL z.cells.toList len = [] := List.eq_nil_of_length_eq_zero (by rw [zerosL_len, Array.length_toList, hzs]; exact h0)
              rw [hnil] at hfill
              have hr0 : Array.map (fun x : Nat => (#[] : Array Value)[x % (#[] : Array Value).size]!) (Array.range (len * s)) = #[] := by rw [h0]; simp
              simp only [if_pos h0, Sem.run_pure, Result.andThen_ok, hr0, hfill, newRow, newObj, Sem.run_bind, Sem.run]
              rfl
            · simp only [if_neg h0, Sem.run_bind, tyZero_run hz, Sem.run_pure, Result.andThen_ok, hzr, hfill, newRow, newObj, Sem.run]
              rfl
        · cases hv
      · cases hv
    · cases hv
  · rename_i t l c
    split at hv
    · rename_i el k n k' m hel hl hc
      split at hv
      · rename_i s z bs hs hz hbs
        split at hv
        · rename_i hcond
          obtain ⟨hp, hzs, hb, h0, hlc, hc24⟩ := hcond
          cases hv
          refine ⟨.slice (some ⟨w.heap.size, 0, none⟩) n.toNat m.toNat, _, w.heap.size, 0, 0, ?_, fun F' h1 h2 h3 => by simp [adr, h1, h2, h3], .inr ⟨_, #[], rfl, rfl, rfl, rfl, grew_alloc w _, fun _ => rfl, fun s hs => by cases hs⟩⟩
          obtain ⟨i, hi, his⟩ := tySize_info hs
          have hib : i.bytes = bs := by unfold tyBytes at hbs; rw [hi] at hbs; simpa using hbs
          have hiz : i.zero = some z := by unfold tyZero at hz; rw [hi] at hz; simpa using hz
          have hmul : (bs : Int) * m ≤ 1048576 * 16777216 := Int.mul_le_mul (by omega) hc24 (by omega) (by omega)
          have := run_make (P := P) w t el i z (tySlice_run hel) hi hiz k k' n m h0 hlc (by rw [hib]; omega) (by omega)
          have hzr : madeCells z.cells (m.toNat * s) = (zerosL z.cells.toList m.toNat).toArray := by
            rw [← zerosL_range z.cells m.toNat s hzs]; rfl
          rw [his, hzr] at this
          simp only [execOp, hok l (by simp [Op.operands]), hok c (by simp [Op.operands]), hl, hc, ren_int, Sem.run_bind, this, zerosL_ren (plain_row hp), Array.append_empty]
          rfl
        · cases hv
      · cases hv
    · cases hv
  · rename_i args argTypes
    split at hv
    · rename_i x y t t' hargs hts
      split at hv
      · rename_i htt
        subst htt
        split at hv
        · rename_i news el need hap
          cases hv
          obtain ⟨a, sl, sc, b, n', c, s, olds, ns, hx, hy, hneed, hlt, hcs, hel, hs, hlen, hol, hnl, _, _, hrun, hq⟩ := appendA_grow H hap
          obtain rfl : args = #[x, y] := by rw [← Array.toArray_toList (xs := args), hargs]
          obtain rfl : argTypes = #[t, t] := by rw [← Array.toArray_toList (xs := argTypes), hts]
          have hcap : ∃ cap, cap < need ∧ ren F (e x) = .slice (a.map (adr F)) sl cap := by
            rw [hx]
            rcases hq with ⟨rfl, _⟩ | ⟨ad, bk, rfl, hbk, ⟨hg, _⟩ | hq⟩
            · exact ⟨sc, hlt, by simp⟩
            · refine ⟨sc, hlt, ?_⟩
              obtain ⟨_, _, _, _, _, _, hsl, _⟩ := H.row _ _ hbk
              simp [hsl hg]
            · exact absurd hq.2.2.2.2.2.2.2 (by simp)
          obtain ⟨cap, hcap, hxe⟩ := hcap
          obtain ⟨w', sl', post, hr, hgrew, hpost⟩ := hrun ty cap hcap
          refine ⟨.slice (some ⟨w.heap.size, 0, none⟩) need (need + sl'), w', w.heap.size, 0, sl', ?_, fun F' h1 h2 h3 => ?_, .inr ⟨_, post, rfl, rfl, rfl, rfl, hgrew, fun hg => ?_, fun s' hg => ?_⟩⟩
          · have ha : (#[x, y].map ρ) = #[.slice (a.map (adr F)) sl cap, ren F (e y)] := by simp [hok x (by simp [Op.operands, Call.operands]), hok y (by simp [Op.operands, Call.operands]), hxe]
            simp only [execOp, resolve, Sem.run_bind, Sem.run_pure, Result.andThen_ok, invoke, builtin, ha, hr]
          · simp [adr, h1, h2, h3]
          · rw [hs] at hg; cases hg
          · rw [hs] at hg; cases hg; exact hpost
        · cases hv
      · cases hv
    · cases hv
  · rename_i t x lo hi
    unfold endA at hv
    split at hv
    · rename_i el a len cap hel hx
      split at hv
      · rename_i l r s hl hr hs
        split at hv
        · rename_i hc
          obtain ⟨h1, h2, h3, h4, h5⟩ := hc
          cases hv
          have hb := sliceBounds_run (P := P) (F := F) (w := w) (b := true) (cap := cap + F.slack a.block) hl hr (by omega) (by omega)
          refine ⟨.slice (some (if cap + F.slack a.block = l then adr F a else (adr F a).add (l * s))) 0 (F.slack a.block), w, F.blk a.block, (if cap + F.slack a.block = l then F.base a.block + a.off else F.base a.block + a.off + l * s), F.slack a.block, ?_, fun F' e1 e2 e3 => ?_, .inl ⟨rfl, rfl⟩⟩
          · have hm : ∀ y : Option Operand, (∀ z, y = some z → z ∈ (Op.slice t x lo hi none).operands) → y.map ρ = (y.map e).map (ren F) := by
              intro y hy
              cases y with
              | none => rfl
              | some z => simp [hok z (hy z rfl)]
            simp only [execOp, hok x (by simp [Op.operands]), hx]
            rw [hm lo (by rintro z rfl; simp [Op.operands]), hm hi (by rintro z rfl; simp [Op.operands]), Option.map_none, Sem.run_bind, sliceAt_slice hel]
            simp only [ren_ssome, Instr.slice, Sem.run_bind, run_underlying (tySlice_run hel), Result.andThen_ok, hb, tySize_run hs, Sem.run_pure]
            have e4 : r - l = 0 := by omega
            have e5 : cap + F.slack a.block - l = F.slack a.block := by omega
            rw [e4, e5]
            split <;> simp
          · have hsp : (adr F a).spot = none := h4
            rw [add_plain _ _ hsp]
            split at e2 <;> rename_i hcc
            · simp only [ren_ssome, adr, e1, e2, e3, if_pos hcc]
              simp [h4]
            · simp only [ren_ssome, adr, e1, e2, e3, if_neg hcc]
              simp
        · cases hv
      · cases hv
    · cases hv
  · cases hv
end
theorem cellB_one (F : Emb) {v : Value} (h : cellB v = true) : (ren F v).oneCell' = true := by
  cases v with
  | pointer a => cases a <;> simp [Value.oneCell']
  | slice a n c => cases a <;> simp [Value.oneCell']
  | agg cs => cases h
  | tuple cs => cases h
  | _ => simp [Value.oneCell', ren]
def wrote (w : World) (b : Nat) (c : Array Value) : World := { w with heap := w.heap.modify b fun | .cells _ t fr => .cells c t fr | o => o }
theorem storeCells_run {P : Program} {w : World} {B off : Nat} {c : Array Value} {el : TypeId} (hb : w.heap[B]? = some (.cells c el (0, 0))) (l : List Value) (hl : off + l.length ≤ c.size) (hone : ∀ x ∈ l, x.oneCell' = true) :
    (storeCells ⟨B, off, none⟩ l).run P w = .ok () (wrote w B (over c off l)) := by
  have hcell : ∀ j, j < l.length → (w.cell? ⟨B, off + 0 + j, none⟩).isSome = true := by
    intro j hj
    have : off + j < c.size := by omega
    simp [World.cell?, hb, this]
  have hfree : ∀ j, j < l.length → w.frozen? ⟨B, off + 0 + j, none⟩ = false := by
    intro j _
    simp only [World.frozen?, hb]; simp
  have hst := run_storeCells_cells (P := P) B off l 0 w hcell hfree hone
  rw [Nat.add_zero] at hst
  rw [hst, setCells_over]
  congr 1
  unfold wrote
  congr 1
  apply Array.ext_getElem?
  intro j
  simp only [Array.getElem?_modify]
  split
  · rename_i hj
    subst hj
    rw [hb]
    rfl
  · rfl
theorem storeVar_run {P : Program} {F : Emb} {h : AHeap} {w : World} {t : TypeId} {a : Addr} {b : Blk} {vs : List Value} {u : Value} {s : Nat} (H : Holds F h w) (hb : h.get a.block = some b) (hs : tySize P t = some s) (hsp : a.spot = none) (hro : b.ro = false)
    (hu : u.cells.toList = vs.map (ren F)) (hl : vs.length = s) (hoff : a.off + s ≤ b.cells.length) (hone : vs.all cellB = true) :
    ∃ (pre post : Array Value), w.heap[F.blk a.block]? = some (.cells (pre ++ (b.cells.map (ren F)).toArray ++ post) b.elem (0, 0)) ∧ pre.size = F.base a.block ∧ (b.grow = some 0 → F.slack a.block = 0) ∧ (∀ s, b.grow = some (s + 1) → F.slack a.block * (s + 1) ≤ post.size) ∧
      (Instr.storeAt t (.pointer (some (adr F a))) u).run P w = .ok () (wrote w (F.blk a.block) (pre ++ ((spliceA b.cells a.off vs).map (ren F)).toArray ++ post)) := by
  obtain ⟨pre, post, fr, hr, hp, hfr, hg0, hg1⟩ := H.row _ _ hb
  obtain rfl := hfr hro
  refine ⟨pre, post, hr, hp, hg0, hg1, ?_⟩
  obtain ⟨ab, ao, asp⟩ := a
  simp only at hsp hb hoff hr hp
  subst hsp
  have hsz : u.cells.size = s := by rw [← Array.length_toList, hu]; simpa using hl
  have hone' : ∀ x ∈ u.cells.toList, x.oneCell' = true := by
    intro x hx
    rw [hu] at hx
    obtain ⟨y, hy, rfl⟩ := List.mem_map.1 hx
    exact cellB_one F (List.all_eq_true.1 hone y hy)
  have hst := storeCells_run (P := P) hr (off := F.base ab + ao) u.cells.toList (by rw [Array.length_toList, hsz]; simp; omega) hone'
  simp only [Instr.storeAt, Instr.sureAddr, adr, storeVar, Sem.run_bind, Sem.run_pure, Result.andThen_ok, tySize_run hs, hsz, ne_eq, not_true_eq_false, if_false]
  rw [hst, hu, ← hp, over_mid pre post (b.cells.map (ren F)) (vs.map (ren F)) ao (by simp; omega)]
  simp [spliceA, List.map_take, List.map_drop]
theorem storeA_spec {P : Program} {h : AHeap} {t : TypeId} {a : Addr} {v : Value} {h' : AHeap} (hv : storeA P h t a v = some h') :
    ∃ (b : Blk) (s : Nat), h.get a.block = some b ∧ tySize P t = some s ∧ a.spot = none ∧ b.ro = false ∧ v.cells.toList.length = s ∧ a.off + s ≤ b.cells.length ∧ v.cells.toList.all cellB = true ∧ h' = h.put a.block { b with cells := spliceA b.cells a.off v.cells.toList } := by
  unfold storeA at hv
  split at hv
  · rename_i b s hb hs
    split at hv
    · rename_i hc
      split at hv
      · rename_i cs
        split at hv
        · rename_i hcs
          cases hv
          exact ⟨b, s, hb, hs, hc.1, hc.2, by simpa [Value.cells] using hcs.1, hcs.2.1, hcs.2.2, rfl⟩
        · cases hv
      · cases hv
      · rename_i h1 h2
        split at hv
        · rename_i hcs
          cases hv
          have hcell : v.cells = #[v] := by
            cases v with
            | agg cs => exact absurd rfl (h1 cs)
            | _ => rfl
          have hone : cellB v = true := by
            cases v with
            | agg cs => exact absurd rfl (h1 cs)
            | tuple cs => exact absurd rfl (h2 cs)
            | _ => rfl
          refine ⟨b, s, hb, hs, hc.1, hc.2, by rw [hcell, hcs.1]; rfl, by omega, by rw [hcell]; simp [hone], ?_⟩
          rw [hcell]
          simp only [set_splice _ _ _ hcs.2]
        · cases hv
    · cases hv
  · cases hv
inductive Wrote (F : Emb) (e : Operand → Value) (xs : Array Operand) (h : AHeap) (w : World) : Value → AHeap → Value → World → Prop
  | same {v} (hv : v = .slice none 0 0 ∨ ∃ x ∈ xs, v = e x) : Wrote F e xs h w v h (ren F v) w
  | put {v n b cs pre post} (hv : v = undef ∨ ∃ a sl c sc x, x ∈ xs ∧ e x = .slice (some a) sl sc ∧ v = .slice (some a) c sc) (hb : h.get n = some b) (hro : b.ro = false) (hl : cs.length = b.cells.length)
      (hc : ∀ c ∈ cs, c ∈ b.cells ∨ (∃ x ∈ xs, c ∈ (e x).cells.toList) ∨ ∃ m b', h.get m = some b' ∧ c ∈ b'.cells)
      (hr : w.heap[F.blk n]? = some (.cells (pre ++ (b.cells.map (ren F)).toArray ++ post) b.elem (0, 0))) (hp : pre.size = F.base n) (h0 : b.grow = some 0 → F.slack n = 0) (h1 : ∀ s, b.grow = some (s + 1) → F.slack n * (s + 1) ≤ post.size) :
      Wrote F e xs h w v (h.put n { b with cells := cs }) (ren F v) (wrote w (F.blk n) (pre ++ (cs.map (ren F)).toArray ++ post))
  | grew {n b cs s bs sl need pre post post'} {c : Array Value} (hb : h.get n = some b) (hro : b.ro = false) (hg : b.grow = some (s + 1))
      (hc : ∀ c ∈ cs, ∃ m b', h.get m = some b' ∧ c ∈ b'.cells)
      (hr : w.heap[F.blk n]? = some (.cells c b.elem (0, 0))) (hn : pre ++ (cs.map (ren F)).toArray ++ post' = post) (hp : pre.size = bs) (h1 : sl * (s + 1) ≤ post'.size) :
      Wrote F e xs h w (.slice (some ⟨h.next, 0, none⟩) need need) ((h.putO n none).addO (some ⟨cs, b.elem, false, some (s + 1)⟩)) (.slice (some ⟨F.blk n, bs, none⟩) need (need + sl)) (wrote w (F.blk n) post)
  | fresh {n b cs s sl need w' post} (hb : h.get n = some b) (hro : b.ro = false) (hg : b.grow = some (s + 1))
      (hc : ∀ c ∈ cs, ∃ m b', h.get m = some b' ∧ c ∈ b'.cells)
      (hw : Grew w w' (.cells ((cs.map (ren F)).toArray ++ post) b.elem (0, 0))) (h1 : sl * (s + 1) ≤ post.size) :
      Wrote F e xs h w (.slice (some ⟨h.next, 0, none⟩) need need) ((h.putO n none).addO (some ⟨cs, b.elem, false, some (s + 1)⟩)) (.slice (some ⟨w.heap.size, 0, none⟩) need (need + sl)) w'
theorem cellsA_mem {h : AHeap} {s : Nat} {v : Value} {cs : List Value} (hv : cellsA h s v = some cs) : ∀ c ∈ cs, ∃ m b', h.get m = some b' ∧ c ∈ b'.cells := by
  unfold cellsA at hv
  intro c hc
  split at hv
  · cases hv; cases hc
  · split at hv
    · cases hv; cases hc
    · split at hv
      · split at hv
        · rename_i b hb
          split at hv
          · cases hv
            exact ⟨_, b, hb, List.mem_of_mem_drop (List.mem_of_mem_take hc)⟩
          · cases hv
        · cases hv
      · cases hv
  · cases hv
theorem cellsA_eq {h : AHeap} {s n c : Nat} {a : Addr} {b : Blk} {cs : List Value} (hb : h.get a.block = some b) (hv : cellsA h s (.slice (some a) n c) = some cs) : cs = (b.cells.drop a.off).take (n * s) := by
  unfold cellsA at hv
  simp only [hb] at hv
  split at hv
  · rename_i h0
    cases hv
    rw [h0]; simp
  · split at hv
    · split at hv
      · cases hv; rfl
      · cases hv
    · cases hv
section
variable {P : Program} {ρ : Operand → Value} {e : Operand → Value} {F : Emb} {w : World}
theorem append_room_run (t ty el : TypeId) (i : TypeInfo) (ht : P.underlying t = some (.slice el)) (hi : P.info? el = some i) (ad : Addr) (sLen sCap n : Nat) (x : Value) (news : Array Value) {w' : World}
    (hx : Builtin.lenOf x = pure n) (hn : (Builtin.firstCells i.size n x).run P w = .ok news w) (hg : sLen + n ≤ sCap) (hst : (storeCells (ad.add (sLen * i.size)) news.toList).run P w = .ok () w') :
    (Builtin.append_ #[t, t] ty #[.slice (some ad) sLen sCap, x]).run P w = .ok (.slice (some ad) (sLen + n) sCap) w' := by
  simp [Builtin.append_, run_underlying ht, sizeOf, typeInfo, hi, hx, hg, hn, hst]
theorem append_nil_run (t ty el : TypeId) (i : TypeInfo) (ht : P.underlying t = some (.slice el)) (hi : P.info? el = some i) (x : Value) (news : Array Value) 
    (hx : Builtin.lenOf x = pure 0) (hn : (Builtin.firstCells i.size 0 x).run P w = .ok news w) :
    (Builtin.append_ #[t, t] ty #[.slice none 0 0, x]).run P w = .ok (.slice none 0 0) w := by
  simp [Builtin.append_, run_underlying ht, sizeOf, typeInfo, hi, hx, hn]
theorem lenOf_ren (F : Emb) (b : Option Addr) (n c : Nat) : Builtin.lenOf (ren F (.slice b n c)) = pure n := by cases b <;> simp [Builtin.lenOf]
theorem firstCells_zero (F : Emb) (w : World) (s : Nat) (b : Option Addr) (c : Nat) : (Builtin.firstCells s 0 (ren F (.slice b 0 c))).run P w = .ok #[] w := by
  cases b with
  | none => simp [Builtin.firstCells]
  | some b => rw [ren_ssome]; exact run_firstCells_some w s 0 _ _ _ [] (by simp) (fun j v hj => by simp at hj)
theorem wrA_run {o : Oper} {h h' : AHeap} {v : Value} (H : Holds F h w) (hok : ∀ x ∈ o.op.operands, ρ x = ren F (e x)) (hv : wrA P e h o.op = some (v, h')) :
    ∃ (u : Value) (w' : World), ((execOp ρ o).run P w = .ok (.value u) w' ∨ ((execOp ρ o).run P w = .ok .skip w' ∧ u = undef)) ∧ Wrote F e o.op.operands h w v h' u w' := by
  obtain ⟨dst, op, ty, pos, after, guard⟩ := o
  simp only at hok hv ⊢
  unfold wrA at hv
  split at hv
  · rename_i t x y
    split at hv
    · rename_i a hx
      cases hs : storeA P h t a (e y) with
      | none => rw [hs] at hv; cases hv
      | some h1 =>
        rw [hs] at hv
        cases hv
        obtain ⟨b, s, hb, hsz, hsp, hro, hl, hoff, hone, rfl⟩ := storeA_spec hs
        obtain ⟨pre, post, hrow, hp, h0, h1, hrun⟩ := storeVar_run (P := P) (u := ren F (e y)) H hb hsz hsp hro (by rw [cells_ren]; simp) hl hoff hone
        have := Wrote.put (e := e) (xs := (Op.store t x y).operands) (v := undef) (cs := spliceA b.cells a.off (e y).cells.toList) (.inl rfl) hb hro (spliceA_length _ _ _ (by rw [hl]; exact hoff)) (fun c hc => by
          simp only [spliceA, List.mem_append] at hc
          rcases hc with (hc | hc) | hc
          · exact .inl (List.mem_of_mem_take hc)
          · exact .inr (.inl ⟨y, by simp [Op.operands], hc⟩)
          · exact .inl (List.mem_of_mem_drop hc)) hrow hp h0 h1
        rw [ren_undef] at this
        refine ⟨undef, _, .inr ⟨?_, rfl⟩, this⟩
        simp only [execOp, hok x (by simp [Op.operands]), hok y (by simp [Op.operands]), hx, ren_psome, Sem.run_bind, hrun]; rfl
    · cases hv
  · rename_i args argTypes
    split at hv
    · rename_i x y t t' hargs hts
      split at hv
      · rename_i htt
        subst htt
        obtain rfl : args = #[x, y] := by rw [← Array.toArray_toList (xs := args), hargs]
        obtain rfl : argTypes = #[t, t] := by rw [← Array.toArray_toList (xs := argTypes), hts]
        have hex : ∀ {u : Value} {w' : World}, (Builtin.append_ #[t, t] ty #[ren F (e x), ren F (e y)]).run P w = .ok u w' → (execOp ρ { dst := dst, op := .call { callee := .builtin .append, args := #[x, y], argTypes := #[t, t] }, type := ty, pos := pos, after := after, guard := guard }).run P w = .ok (.value u) w' := by
          intro u w' h
          have ha : (#[x, y].map ρ) = #[ren F (e x), ren F (e y)] := by simp [hok x (by simp [Op.operands, Call.operands]), hok y (by simp [Op.operands, Call.operands])]
          simp only [execOp, resolve, Sem.run_bind, Sem.run_pure, Result.andThen_ok, invoke, builtin, ha, h]
        have hxm : x ∈ (Op.call { callee := .builtin .append, args := #[x, y], argTypes := #[t, t] }).operands := by simp [Op.operands, Call.operands]
        split at hv
        · rename_i el b c hx hel hy
          split at hv
          · rename_i s hs
            cases hv
            obtain ⟨i, hi, his⟩ := tySize_info hs
            have hrun := append_nil_run (P := P) (w := w) t ty el i (tySlice_run hel) hi (ren F (e y)) #[] (by rw [hy]; exact lenOf_ren F _ _ _) (by rw [hy]; exact firstCells_zero F w i.size _ _)
            refine ⟨ren F (.slice none 0 0), w, .inl (hex ?_), .same (.inl rfl)⟩
            rw [hx, ren_snone]
            exact hrun
          · cases hv
        · rename_i a sl sc el b n c hx hel hy
          split at hv
          · rename_i s hs
            obtain ⟨i, hi, his⟩ := tySize_info hs
            split at hv
            · rename_i hle
              split at hv
              · cases hv
                have hrun := append_room_run (P := P) (w := w) t ty el i (tySlice_run hel) hi (adr F a) sl (sc + F.slack a.block) 0 (ren F (e y)) #[] (w' := w) (by rw [hy]; exact lenOf_ren F _ _ _) (by rw [hy]; exact firstCells_zero F w i.size _ _) (by omega) (by simp [storeCells])
                have hS := Wrote.same (F := F) (e := e) (xs := (Op.call { callee := .builtin .append, args := #[x, y], argTypes := #[t, t] }).operands) (h := h) (w := w) (v := .slice (some a) sl sc) (.inr ⟨x, hxm, hx.symm⟩)
                refine ⟨_, w, .inl (hex ?_), hS⟩
                rw [hx, ren_ssome]
                exact hrun
              · rename_i n _ _ _ news bk hn0 hbk hnews
                split at hv
                · rename_i hc
                  obtain ⟨hro, hsp, hroom, hlen, hone⟩ := hc
                  cases hv
                  obtain ⟨pre, post, fr, hrow, hp, hfr, h0, h1⟩ := H.row _ _ hbk
                  obtain rfl := hfr hro
                  obtain ⟨b2, n2, c2, e2, r2, l2⟩ := cellsA_run (P := P) H hnews
                  cases e2
                  obtain ⟨ab, ao, asp⟩ := a
                  simp only at hsp hroom hbk hrow hp h0 h1
                  subst hsp
                  have hst := storeCells_run (P := P) hrow (off := F.base ab + ao + sl * i.size) (news.map (ren F)) (by simp; rw [his, hp]; omega) (fun z hz => by obtain ⟨y', hy', rfl⟩ := List.mem_map.1 hz; exact cellB_one F (List.all_eq_true.1 hone y' hy'))
                  have hrun := append_room_run (P := P) (w := w) t ty el i (tySlice_run hel) hi (adr F ⟨ab, ao, none⟩) sl (sc + F.slack ab) n (ren F (e y)) (news.map (ren F)).toArray (by rw [hy]; exact lenOf_ren F _ _ _) (by rw [hy, his]; exact r2) (by omega) (by rw [add_plain _ _ rfl]; exact hst)
                  have hov := over_mid pre post (bk.cells.map (ren F)) (news.map (ren F)) (ao + sl * i.size) (by simp; rw [his]; omega)
                  rw [hp, ← Nat.add_assoc] at hov
                  rw [hov] at hrun
                  have hsp' : spliceA (bk.cells.map (ren F)) (ao + sl * i.size) (news.map (ren F)) = (spliceA bk.cells (ao + sl * s) news).map (ren F) := by rw [his]; simp [spliceA, List.map_take, List.map_drop]
                  rw [hsp'] at hrun
                  have hS := Wrote.put (F := F) (e := e) (xs := (Op.call { callee := .builtin .append, args := #[x, y], argTypes := #[t, t] }).operands) (h := h) (w := w) (v := .slice (some ⟨ab, ao, none⟩) (sl + n) sc) (cs := spliceA bk.cells (ao + sl * s) news) (pre := pre) (post := post) (n := ab) (.inr ⟨⟨ab, ao, none⟩, sl, sl + n, sc, x, hxm, hx, rfl⟩) hbk hro (spliceA_length _ _ _ hroom) (fun c' hc' => by
                    simp only [spliceA, List.mem_append] at hc'
                    rcases hc' with (hc' | hc') | hc'
                    · exact .inl (List.mem_of_mem_take hc')
                    · exact .inr (.inr (cellsA_mem hnews c' hc'))
                    · exact .inl (List.mem_of_mem_drop hc')) hrow hp h0 h1
                  refine ⟨_, _, .inl (hex ?_), hS⟩
                  rw [hx, ren_ssome, ren_ssome]
                  exact hrun
                · cases hv
              · cases hv
            · rename_i hle
              split at hv
              · rename_i cs el' need hap
                cases hv
                obtain ⟨a', sl', sc', b', n', c', s', olds, news, hx', hy', hneed, hlt, hcs, hel', hs', hlen, hol, hnl, hco, hcn, hrun, hq⟩ := appendA_grow H hap
                rw [hx] at hx'
                rw [hy] at hy'
                cases hx'
                cases hy'
                rw [hel] at hel'
                cases hel'
                rcases hq with ⟨h0, _⟩ | ⟨ad, bk, h0, hbk, ⟨_, h0'⟩ | ⟨hro, hg, hbe, hsp, hend, hle', hone, _⟩⟩
                · cases h0
                · cases h0'
                · cases h0
                  have hmem : ∀ c ∈ cs, ∃ m b', h.get m = some b' ∧ c ∈ b'.cells := by
                    intro c hc
                    rw [hcs] at hc
                    rcases List.mem_append.1 hc with hc | hc
                    · exact cellsA_mem hco c hc
                    · exact cellsA_mem hcn c hc
                  rw [hs']
                  by_cases hreal : need ≤ sc + F.slack a.block
                  · obtain ⟨pre, post, fr, hrow, hp, hfr, _, h1⟩ := H.row _ _ hbk
                    obtain rfl := hfr hro
                    have h1 := h1 _ hg
                    rw [hx] at hco
                    have hoe := cellsA_eq hbk hco
                    obtain ⟨b2, n2, c2, e2, r2, l2⟩ := cellsA_run (P := P) H hcn
                    rw [hy] at e2
                    cases e2
                    obtain ⟨ab, ao, asp⟩ := a
                    simp only at hsp hbk hrow hp hend h1 hreal hoe
                    subst hsp
                    have hhi : need * (s' + 1) ≤ (sc + F.slack ab) * (s' + 1) := Nat.mul_le_mul_right _ hreal
                    rw [Nat.add_mul] at hhi
                    have hsc : sl * (s' + 1) ≤ sc * (s' + 1) := Nat.mul_le_mul_right _ hle'
                    have hnd : need * (s' + 1) = sl * (s' + 1) + n * (s' + 1) := by rw [hneed, Nat.add_mul]
                    have hss : i.size = s' + 1 := by rw [hs] at hs'; cases hs'; exact his
                    have hsz : (pre ++ (bk.cells.map (ren F)).toArray ++ post).size = F.base ab + bk.cells.length + post.size := by simp [hp, Nat.add_assoc]
                    have hst := storeCells_run (P := P) hrow (off := F.base ab + ao + sl * i.size) (news.map (ren F)) (by rw [hsz, List.length_map, hnl, hss]; omega) (fun z hz => by obtain ⟨y', hy', rfl⟩ := List.mem_map.1 hz; exact cellB_one F (List.all_eq_true.1 hone y' hy'))
                    have hrun := append_room_run (P := P) (w := w) t ty el i (tySlice_run hel) hi (adr F ⟨ab, ao, none⟩) sl (sc + F.slack ab) n (ren F (e y)) (news.map (ren F)).toArray (by rw [hy]; exact lenOf_ren F _ _ _) (by rw [hss]; exact r2) (by omega) (by rw [add_plain _ _ rfl]; exact hst)
                    have hgetk : ∀ {A : Array Value} {j : Nat} (k : Nat) (hk : k < A.size), k = j → some A[k] = A[j]? := by
                      rintro A j k hk rfl
                      exact (Array.getElem?_eq_getElem hk).symm
                    have hpost : (pre ++ (bk.cells.map (ren F)).toArray ++ post).extract 0 (F.base ab + ao) ++ (cs.map (ren F)).toArray ++ (pre ++ (bk.cells.map (ren F)).toArray ++ post).extract (F.base ab + ao + need * (s' + 1)) (F.base ab + bk.cells.length + post.size) = over (pre ++ (bk.cells.map (ren F)).toArray ++ post) (F.base ab + ao + sl * i.size) (news.map (ren F)) := by
                      apply Array.ext_getElem?
                      intro j
                      rw [over_get _ _ _ _ (by rw [hsz, List.length_map, hnl, hss]; omega), mid_get]
                      have e1 : ((pre ++ (bk.cells.map (ren F)).toArray ++ post).extract 0 (F.base ab + ao)).size = F.base ab + ao := by rw [Array.size_extract, hsz]; omega
                      have e2 : ((cs.map (ren F)).toArray).size = need * (s' + 1) := by rw [List.size_toArray, List.length_map, hlen]
                      rw [e1, e2, hss, List.length_map, hnl]
                      by_cases j1 : j < F.base ab + ao
                      · rw [if_pos j1, if_neg (by omega), Array.getElem?_extract_of_lt (by omega)]
                        exact hgetk _ _ (by omega)
                      · rw [if_neg j1]
                        by_cases j2 : j - (F.base ab + ao) < need * (s' + 1)
                        · rw [if_pos j2, List.getElem?_toArray, List.getElem?_map, hcs]
                          by_cases j3 : j - (F.base ab + ao) < sl * (s' + 1)
                          · rw [if_neg (by omega), List.getElem?_append_left (by omega), hoe, List.getElem?_take_of_lt (by omega), List.getElem?_drop, mid_get, if_neg (by omega), if_pos (by simp; omega), hp]
                            simp only [List.getElem?_toArray, List.getElem?_map]
                            congr 2
                            omega
                          · rw [if_pos (by omega), List.getElem?_append_right (by omega), List.getElem?_map, hol]
                            congr 2
                            omega
                        · rw [if_neg j2, if_neg (by omega)]
                          by_cases j4 : j < F.base ab + bk.cells.length + post.size
                          · rw [Array.getElem?_extract_of_lt (by omega)]
                            exact hgetk _ _ (by omega)
                          · rw [Array.getElem?_eq_none (by rw [Array.size_extract, hsz]; omega), Array.getElem?_eq_none (by rw [hsz]; omega)]
                    have hS := Wrote.grew (F := F) (e := e) (xs := (Op.call { callee := .builtin .append, args := #[x, y], argTypes := #[t, t] }).operands) (h := h) (w := w) (n := ab) (cs := cs) (need := need) (sl := sc + F.slack ab - need) (bs := F.base ab + ao) hbk hro hg hmem hrow hpost (by rw [Array.size_extract, hsz]; omega) (by
                      rw [Array.size_extract, hsz, Nat.sub_mul, Nat.add_mul]; omega)
                    rw [hbe] at hS
                    refine ⟨_, _, .inl (hex ?_), hS⟩
                    rw [hx, ren_ssome]
                    rw [Nat.add_sub_cancel' hreal, hneed]
                    exact hrun
                  · obtain ⟨w', sl2, post, hr, hgrew, hpost⟩ := hrun ty (sc + F.slack a.block) (by omega)
                    rw [← hbe] at hgrew
                    have hS := Wrote.fresh (F := F) (e := e) (xs := (Op.call { callee := .builtin .append, args := #[x, y], argTypes := #[t, t] }).operands) (h := h) (w := w) (n := a.block) (cs := cs) (need := need) hbk hro hg hmem hgrew hpost
                    rw [hbe] at hS
                    refine ⟨_, w', .inl (hex ?_), hS⟩
                    rw [hx, ren_ssome]
                    simpa using hr
              · cases hv
          · cases hv
        · cases hv
      · cases hv
    · cases hv
  · cases hv
theorem wrA_next {P : Program} {e : Operand → Value} {h h' : AHeap} {o : Op} {v : Value} (hv : wrA P e h o = some (v, h')) : h.next ≤ h'.next := by
  unfold wrA at hv
  repeat' split at hv
  all_goals first
    | (cases hv; done)
    | (cases hv; exact Nat.le_refl _)
    | (cases hv; exact Nat.le_succ _)
    | (rename_i a _; cases hs : storeA P h _ a _ with
        | none => rw [hs] at hv; cases hv
        | some h1 =>
          rw [hs] at hv
          cases hv
          obtain ⟨b, s, _, _, _, _, _, _, _, rfl⟩ := storeA_spec hs
          exact Nat.le_refl _)
end
end Go.Proofs.Ytjdbknnacaacaaa
