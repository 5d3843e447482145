/-
  The abstract machine over this program's memories and direct ports: each of their functions does what the state says.
  Conditions: where a step count is told, it is below 10^12.
-/
import Derived.Test.YtceddijolfpppaaMemX
namespace Go.Proofs.Ytceddijolfpppaa
open Go Go.RowKit
set_option linter.unusedSimpArgs false
set_option linter.unusedVariables false

theorem prim_calls {f : FuncId} {args : Array Value} {S S' : St} {v : Value} {F : Emb} {w : World} (h : Prim f args S v S') (R : Rep F S w) : Calls Try.prog f (args.map (ren F)) w (Turned F S S' v w) := by
  have hp : ∀ {k : Nat} {ob : Ob}, S[k]? = some ob → ren F (hndV k) = .pointer (some ⟨F.blk (VB + k), 0, none⟩) := fun hk => ren_hnd (R.base _ _ hk)
  cases h with
  | pure h ha hv =>
    rw [plain_args F ha]
    exact (h w).mono (by rintro e w' ⟨rfl, hx⟩; exact turned_still R (ren_plain F hv) hx)
  | @word k ws bs S n h =>
    obtain ⟨pw, pb, hM⟩ := R.at' _ _ h
    simp only [List.map_toArray, List.map_cons, List.map_nil, hp h, ren_int]
    refine (mWord_any _ ws bs n w hM).mono ?_
    rintro e w' ⟨rfl, h1, hx⟩
    obtain ⟨r1, r2, r3⟩ := R.turn (S' := S) (T := [k]) hx rfl (fun x hx => by
        simp only [List.mem_cons, List.not_mem_nil, or_false] at hx
        subst hx
        exact ⟨k, by simp, _, h, by simp [obBlk]⟩) (fun _ _ => rfl) (fun k ob ob' h1 h2 => by rw [h1] at h2; cases h2; rfl) (fun _ h => h) (fun k' hk ob hob => by
        simp only [List.mem_cons, List.not_mem_nil, or_false] at hk
        subst hk
        rw [h] at hob; cases hob; exact ⟨_, _, h1⟩)
    exact ⟨F, Same.refl _ _, by simp, r1, r2, fun b hb => .inl (r3 b hb)⟩
  | @do' k ws bs S c n A B h h1 h4 =>
    obtain ⟨pw, pb, hM⟩ := R.at' _ _ h
    simp only [List.map_toArray, List.map_cons, List.map_nil, hp h, accV, ren_agg, ren_int]
    refine (do_word _ ws bs c c n A B w hM rfl h1 h4).mono ?_
    rintro e w' ⟨rfl, hnew, hx⟩
    have hlt := (List.getElem?_eq_some_iff.1 h).1
    have g2 : (S.set k (.mem (wS c n A B ws) bs))[k]? = some (.mem (wS c n A B ws) bs) := List.getElem?_set_self hlt
    obtain ⟨r1, r2, r3⟩ := R.turn (S' := S.set k (.mem (wS c n A B ws) bs)) (T := [k]) hx (by simp) (fun x hx => by
        simp only [List.mem_cons, List.not_mem_nil, or_false] at hx
        subst hx
        exact ⟨k, by simp, _, h, by simp [obBlk]⟩) (fun k' hk => List.getElem?_set_ne (fun e => hk (by simp [e]))) (fun k' ob ob' q1 q2 => by
        by_cases e : k' = k
        · rw [e, g2] at q2; rw [e, h] at q1; cases q1; cases q2; rfl
        · rw [List.getElem?_set_ne (Ne.symm e), q1] at q2; cases q2; rfl) (fun k' ⟨ws1, bs1, q1⟩ => by
        by_cases e : k' = k
        · rw [e]; exact ⟨_, _, g2⟩
        · exact ⟨ws1, bs1, by rw [List.getElem?_set_ne (Ne.symm e)]; exact q1⟩) (fun k' hk ob hob => by
        simp only [List.mem_cons, List.not_mem_nil, or_false] at hk
        subst hk
        rw [g2] at hob; cases hob; exact ⟨_, _, hnew⟩)
    exact ⟨F, Same.refl _ _, by simp, r1, r2, fun b hb => .inl (r3 b hb)⟩
  | @load p m me steps ws bs S n h hm hs =>
    obtain ⟨⟨td, hD⟩, _⟩ := R.at' _ _ h
    obtain ⟨pw, pb, hM⟩ := R.at' _ _ hm
    simp only [List.map_toArray, List.map_cons, List.map_nil, hp h, ren_int]
    refine (pLoad_any _ ⟨F.blk (VB + m), aux (F.slack (VB + m)) 1, aux (F.slack (VB + m)) 2, pw, pb⟩ me _ steps ws bs n w hD hM hs).mono ?_
    rintro e w' ⟨rfl, hq⟩
    exact turned_acc R h hm (by simp) (.inl hq)
  | @store p m me steps ws bs S n A h hm hs =>
    obtain ⟨⟨td, hD⟩, _⟩ := R.at' _ _ h
    obtain ⟨pw, pb, hM⟩ := R.at' _ _ hm
    simp only [List.map_toArray, List.map_cons, List.map_nil, hp h, ren_int]
    refine (pStore_any _ ⟨F.blk (VB + m), aux (F.slack (VB + m)) 1, aux (F.slack (VB + m)) 2, pw, pb⟩ me _ steps ws bs n A w hD hM hs).mono ?_
    rintro e w' ⟨rfl, hq⟩
    exact turned_acc R h hm (by simp) (.inl hq)
  | @cas p m me steps ws bs S n A B h hm hs =>
    obtain ⟨⟨td, hD⟩, _⟩ := R.at' _ _ h
    obtain ⟨pw, pb, hM⟩ := R.at' _ _ hm
    simp only [List.map_toArray, List.map_cons, List.map_nil, hp h, ren_int]
    refine (pCAS_any _ ⟨F.blk (VB + m), aux (F.slack (VB + m)) 1, aux (F.slack (VB + m)) 2, pw, pb⟩ me _ steps ws bs n A B w hD hM hs).mono ?_
    rintro e w' ⟨rfl, hq⟩
    exact turned_acc R h hm (by simp) (.inl hq)
  | @add p m me steps ws bs S n A h hm hs =>
    obtain ⟨⟨td, hD⟩, _⟩ := R.at' _ _ h
    obtain ⟨pw, pb, hM⟩ := R.at' _ _ hm
    simp only [List.map_toArray, List.map_cons, List.map_nil, hp h, ren_int]
    refine (pAdd_any _ ⟨F.blk (VB + m), aux (F.slack (VB + m)) 1, aux (F.slack (VB + m)) 2, pw, pb⟩ me _ steps ws bs n A w hD hM hs).mono ?_
    rintro e w' ⟨rfl, hq⟩
    exact turned_acc R h hm (by simp) (.inl hq)
  | @self p m me steps S h =>
    obtain ⟨⟨td, hD⟩, _⟩ := R.at' _ _ h
    simp only [List.map_toArray, List.map_cons, List.map_nil, hp h]
    refine (pSelf_any _ me w hD.c1).mono ?_
    rintro e w' ⟨rfl, hx⟩
    exact turned_still R (by simp) hx
  | @steps p m me steps S h =>
    obtain ⟨⟨td, hD⟩, _⟩ := R.at' _ _ h
    simp only [List.map_toArray, List.map_cons, List.map_nil, hp h]
    refine (pSteps_any _ _ me _ steps w hD).mono ?_
    rintro e w' ⟨rfl, hx⟩
    exact turned_still R (by simp) hx
  | @byte k ws bs S n h =>
    obtain ⟨pw, pb, hM⟩ := R.at' _ _ h
    simp only [List.map_toArray, List.map_cons, List.map_nil, hp h, ren_int]
    refine (mByte_any _ ws bs n w hM).mono ?_
    rintro e w' ⟨rfl, hx⟩
    exact turned_still R (by simp) hx
  | @dget k ws bs S n A B h =>
    obtain ⟨pw, pb, hM⟩ := R.at' _ _ h
    simp only [List.map_toArray, List.map_cons, List.map_nil, hp h, accV, ren_agg, ren_int]
    refine (do_get5 _ ws bs n A B w hM).mono ?_
    rintro e w' ⟨rfl, _, hx⟩
    exact turned_still R (by simp) hx
  | @dput k ws bs S n A B h =>
    obtain ⟨pw, pb, hM⟩ := R.at' _ _ h
    simp only [List.map_toArray, List.map_cons, List.map_nil, hp h, accV, ren_agg, ren_int]
    refine (do_put6 _ ws bs n A B w hM).mono ?_
    rintro e w' ⟨rfl, hnew, hx⟩
    have hlt := (List.getElem?_eq_some_iff.1 h).1
    have g2 : (S.set k (.mem ws (bS n A.toUInt8 bs)))[k]? = some (.mem ws (bS n A.toUInt8 bs)) := List.getElem?_set_self hlt
    obtain ⟨r1, r2, r3⟩ := R.turn (S' := S.set k (.mem ws (bS n A.toUInt8 bs))) (T := [k]) hx (by simp) (fun x hx => by
        simp only [List.mem_cons, List.not_mem_nil, or_false] at hx
        subst hx
        exact ⟨k, by simp, _, h, by simp [obBlk]⟩) (fun k' hk => List.getElem?_set_ne (fun e => hk (by simp [e]))) (fun k' ob ob' q1 q2 => by
        by_cases e : k' = k
        · rw [e, g2] at q2; rw [e, h] at q1; cases q1; cases q2; rfl
        · rw [List.getElem?_set_ne (Ne.symm e), q1] at q2; cases q2; rfl) (fun k' ⟨ws1, bs1, q1⟩ => by
        by_cases e : k' = k
        · rw [e]; exact ⟨_, _, g2⟩
        · exact ⟨ws1, bs1, by rw [List.getElem?_set_ne (Ne.symm e)]; exact q1⟩) (fun k' hk ob hob => by
        simp only [List.mem_cons, List.not_mem_nil, or_false] at hk
        subst hk
        rw [g2] at hob; cases hob; exact ⟨_, _, hnew⟩)
    exact ⟨F, Same.refl _ _, by simp, r1, r2, fun b hb => .inl (r3 b hb)⟩
  | @get p m me steps ws bs S n h hm hs =>
    obtain ⟨⟨td, hD⟩, _⟩ := R.at' _ _ h
    obtain ⟨pw, pb, hM⟩ := R.at' _ _ hm
    simp only [List.map_toArray, List.map_cons, List.map_nil, hp h, ren_int]
    refine (pGet_any _ ⟨F.blk (VB + m), aux (F.slack (VB + m)) 1, aux (F.slack (VB + m)) 2, pw, pb⟩ me _ steps ws bs n w hD hM hs).mono ?_
    rintro e w' ⟨rfl, h1, h2, h3⟩
    exact turned_acc R h hm (by simp) (.inr ⟨h1, h2, h3⟩)
  | @put p m me steps ws bs S n b h hm hs =>
    obtain ⟨⟨td, hD⟩, _⟩ := R.at' _ _ h
    obtain ⟨pw, pb, hM⟩ := R.at' _ _ hm
    simp only [List.map_toArray, List.map_cons, List.map_nil, hp h, ren_int]
    refine (pPut_any _ ⟨F.blk (VB + m), aux (F.slack (VB + m)) 1, aux (F.slack (VB + m)) 2, pw, pb⟩ me _ steps ws bs n b w hD hM hs).mono ?_
    rintro e w' ⟨rfl, h1, h2, h3⟩
    exact turned_acc R h hm (by simp) (.inr ⟨h1, h2, h3⟩)
  | @tell p m me steps S cs h hc =>
    obtain ⟨⟨td, hD⟩, _⟩ := R.at' _ _ h
    simp only [List.map_toArray, List.map_cons, List.map_nil, hp h, ren_plain F hc]
    refine (pTell_any _ _ me td steps cs w hD).mono ?_
    rintro e w' ⟨rfl, b, _, _, hD', hx⟩
    exact turned_port R h rfl (by simp) (hx.mono (by simp)) ⟨_, hD'⟩
  | @fresh p m me steps S h =>
    obtain ⟨⟨td, hD⟩, _⟩ := R.at' _ _ h
    simp only [List.map_toArray, List.map_cons, List.map_nil, hp h]
    refine (pFresh_any _ _ me td steps w hD).mono ?_
    rintro e w' ⟨rfl, hD', hx⟩
    exact turned_port R h rfl (by simp) hx ⟨_, hD'⟩
  | @pnew m me ws bs S h =>
    simp only [List.map_toArray, List.map_cons, List.map_nil, hp h, ren_int]
    refine (pNew_any _ me w).mono ?_
    rintro e w' ⟨D, rfl, hD, hx, h1, h2⟩
    have hlt := (List.getElem?_eq_some_iff.1 h).1
    have hmore := R.more (ob := .port m me 0) (b2 := 0) hx h1 h2 (fun ⟨_, _, h⟩ => by cases h) ⟨by
      have e1 : (F.more (VB + S.length) D.d D.v 0).blk (VB + m) = F.blk (VB + m) := by simp [Emb.more]; omega
      rw [e1]
      simp only [Emb.more, if_true, aux_1]
      exact ⟨_, hD⟩, ws, bs, by rw [List.getElem?_append_left hlt]; exact h⟩
    exact ⟨_, hmore.1, by rw [ren_hnd (by simp [Emb.more])]; simp [Emb.more], hmore.2⟩
  | @mcopy k ws bs S h =>
    obtain ⟨pw, pb, hM⟩ := R.at' _ _ h
    simp only [List.map_toArray, List.map_cons, List.map_nil, hp h]
    refine (mCopy_any _ ws bs w hM).mono ?_
    rintro e w' ⟨M, rfl, hM', hx, h1, h2, h3⟩
    have hmore := R.more (ob := .mem ws bs) hx h1 h2 (fun _ => h3) ⟨M.pw, M.pb, by simp only [Emb.more, if_true, aux_1, aux_2]; exact hM'⟩
    exact ⟨_, hmore.1, by rw [ren_hnd (by simp [Emb.more])]; simp [Emb.more], hmore.2⟩
  | @msame k j ws us bs cs S h h' =>
    obtain ⟨pw, pb, hM⟩ := R.at' _ _ h
    obtain ⟨pw', pb', hM'⟩ := R.at' _ _ h'
    simp only [List.map_toArray, List.map_cons, List.map_nil, hp h, hp h']
    refine (mSame_any _ _ ws us bs cs w hM hM').mono ?_
    rintro e w' ⟨rfl, hx⟩
    exact turned_still R (by simp) hx
  | @mnew S a b ha hb =>
    simp only [List.map_toArray, List.map_cons, List.map_nil, ren_int]
    refine (mNew_any a b w ha hb).mono ?_
    rintro e w' ⟨M, rfl, hM, hx, h1, h2, h3⟩
    have hmore := R.more (ob := .mem (List.replicate a 0) (List.replicate b 0)) hx h1 h2 (fun _ => h3) ⟨M.pw, M.pb, by simp only [Emb.more, if_true, aux_1, aux_2]; exact hM⟩
    exact ⟨_, hmore.1, by simp only [ren_tuple, List.map_toArray, List.map_cons, List.map_nil, ren_int]; rw [ren_hnd (by simp [Emb.more])]; simp [Emb.more], hmore.2⟩

/-- The program's memories and ports, for the abstract machine. -/
def OF : Face Try.prog St where
  mix := Try.mix
  cnt := List.length
  rep := Rep
  fp := fpS
  prim := Prim
  rep_same := fun _ _ _ _ hs h => h.same hs
  rep_kept := fun F S w w' R _ hk => ⟨R.base, fun k ob hob => obAt_kept (R.at' k ob hob) (fun b hb => hk b ⟨k, ob, hob, hb⟩), R.apart⟩
  fp_low := fun F S w b R ⟨k, ob, hk, hb⟩ => by
    obtain ⟨o, ho⟩ := obAt_block (R.at' k ob hk) b hb
    exact blk_lt ho
  prim_hand := fun _ _ _ _ _ h => ⟨h.len, h.hand⟩
  prim_ok := fun _ _ _ _ _ _ _ h R => prim_calls h R

theorem pclo {n k : Nat} {S : St} (h : k < S.length) : Clo (Kn n (OF.cnt S)) (prtV k) := prt_clo n S.length k h
theorem hclo {n k : Nat} {S : St} (h : k < S.length) : Clo (Kn n (OF.cnt S)) (hndV k) := hnd_clo n S.length k h
end Go.Proofs.Ytceddijolfpppaa
