/-
  Layer 8: PoolPlay.
  No condition.
-/
import Derived.Test.YtceddijolfpppaaUFresh
namespace Go.Proofs.Ytceddijolfpppaa
open Go Go.RowKit
set_option linter.unusedSimpArgs false
set_option linter.unusedVariables false
set_option maxHeartbeats 20000000 in
set_option maxRecDepth 10000 in
theorem poolPlay_law (pg th : Nat) (sl : Option Addr) (c : Nat) (l : List Act8) (ob : Option Blk) (hcl : SlAt 0 sl) (hrow : RowIs a8C 0 sl l ob) (hlen : l.length ≤ 9223372036854775807) (hpg : pg ≤ 255) (hth : th ≤ 255) (hbd : ∀ y ∈ l, Bd8 y) :
    Law 7 #[.int .u8 pg, .int .u8 th, .slice sl l.length c] [ob] := by
  refine Law.mk Try.func7 rfl rfl (clo3 iclo iclo (hcl.clo (by simp))) ?_
  rw [Try.ntmps7]; simp only [List.size_toArray, List.length_cons, List.length_nil, List.replicate, List.cons_append, List.nil_append]
  by_cases h80 : l.length > 80
  · refine via ?_
    ((first | refine qp1 rfl rfl fun K hK => ?_ | refine qp3 rfl rfl fun K hK => ?_); simp (disch := (first | omega | (simp only [sz] <;> omega) | fail)) only [go_sem]; refine ⟨_, _, qpu fun w => awake8_any w, ?_⟩; (try simp only [go_sem]); with_reducible refine hK _ _ ?_; clear hK K)
    refine via ?_
    exact Goes.law rfl rfl
  refine via ?_
  ((first | refine qc1 rfl rfl fun K hK => ?_ | refine qc3 rfl rfl fun K hK => ?_); simp (disch := (first | omega | (simp only [sz] <;> omega) | fail)) only [go_sem]; refine ⟨_, _, of8_does _ pg th (by omega) (by omega), ?_⟩; (try simp only [go_sem]); with_reducible refine hK _ _ ?_; clear hK K)
  obtain ⟨N, hN⟩ : ∃ N, N = 1 + pg % 3 := ⟨_, rfl⟩
  obtain ⟨T, hT⟩ : ∃ T, T = 1 + th % 4 := ⟨_, rfl⟩
  rw [← hN, ← hT]
  have hN1 : 1 ≤ N := by omega
  have hN3 : N ≤ 3 := by omega
  have hT1 : 1 ≤ T := by omega
  have hT4 : T ≤ 4 := by omega
  have hM := gM_small hN3 hT4
  clear hN hT
  obtain ⟨v0, S0, ⟨rfl, st0, ws0, W0, bs, rfl, hW0, hP0, hr0⟩, hd0⟩ := memory8_does [] N T hN1 (by omega) (by omega) hT1 (gb19_small hN1 hN3 hT1 hT4)
  simp only [List.length_nil, List.nil_append] at hd0
  refine via ?_
  ((first | refine qc1 rfl rfl fun K hK => ?_ | refine qc3 rfl rfl fun K hK => ?_); simp (disch := (first | omega | (simp only [sz] <;> omega) | fail)) only [go_sem]; refine ⟨_, _, hd0, ?_⟩; (try simp only [go_sem]); with_reducible refine hK _ _ ?_; clear hK K)
  refine via ?_
  ((first | refine qp1 rfl rfl fun K hK => ?_ | refine qp3 rfl rfl fun K hK => ?_); simp (disch := (first | omega | (simp only [sz] <;> omega) | fail)) only [go_sem]; refine ⟨_, _, qpu fun w => gThreads_any N T w, ?_⟩; (try simp only [go_sem]); with_reducible refine hK _ _ ?_; clear hK K)
  refine viaD ?_
  rw [gap_of]
  simp only [List.length_cons, List.length_nil, Nat.zero_add, Nat.reduceAdd]
  refine Goes.drawR [] (by kernel_rfl) ?_
  refine via ?_
  ((first | refine qp1 rfl rfl fun K hK => ?_ | refine qp3 rfl rfl fun K hK => ?_); simp (disch := (first | omega | (simp only [sz] <;> omega) | fail)) only [go_sem]; refine ⟨_, _, qpu fun w => gNodes_any N T w hN1 (by omega) (by omega), ?_⟩; (try simp only [go_sem]); with_reducible refine hK _ _ ?_; clear hK K)
  refine via ?_
  ((first | refine qp1 rfl rfl fun K hK => ?_ | refine qp3 rfl rfl fun K hK => ?_); simp (disch := (first | omega | (simp only [sz] <;> omega) | fail)) only [go_sem]; refine ⟨_, _, qpu fun w => gThreads_any N T w, ?_⟩; (try simp only [go_sem]); with_reducible refine hK _ _ ?_; clear hK K)
  refine via ?_
  obtain ⟨l1, q1, aF1, aH1, aG1, hl1, hq1, hF1, hH1, hG1, hd1⟩ := rnew_fresh [Ob.mem ws0 bs, Ob.port 0 0 st0] (T := T) (M := gM N T) hT1 (by omega) (by omega)
  ((first | refine qr1 (by first | assumption | omega | simp) rfl rfl fun K hK => ?_ | refine qr3 (by first | assumption | omega | simp) rfl rfl fun K hK => ?_); simp (disch := (first | omega | (simp only [sz] <;> omega) | fail)) only [go_sem]; refine ⟨_, _, _, _, hd1, by (try simp only [sz, List.length_cons, List.length_nil]); omega, fun lf hF => ?_⟩; (try simp only [go_sem]); with_reducible refine hK _ _ _ _ ?_; clear hK K)
  rw [ren_plV hF1 hH1 hG1 hl1 (by unfold VB; omega)]
  have hF2 := hF1.fresh hF hl1
  have hH2 := hH1.fresh hF hl1 (by unfold VB; omega)
  have hG2 := hG1.fresh hF hl1 (by unfold VB; omega)
  obtain ⟨hlf1, hge1, _⟩ := hF
  have hgeo : lf[1]? = some (some { cells := (geoC N T).toList, elem := 26 }) := hge1 1 _ rfl
  simp only [List.length_nil, Nat.add_zero] at hlf1 hF2 hH2 hG2 ⊢
  unfold plV
  refine viaF hgeo ?_
  refine Goes.folds (by omega) fun lf2 hlf2 hge2 hrow => ?_
  simp only [List.length_cons, List.length_nil, Nat.zero_add] at hlf2
  have hbox : lf2[2 + q1]? = _ := hrow 0
  simp only [List.getElem?_cons_zero] at hbox
  have hge3 := hge1.trans hge2
  refine Goes.wh (fun z tmps h S => ∃ (i qq : Nat) (lf : List (Option Blk)) (aF aH aG ao : Option Addr) (nF : Nat) (ws : List UInt64) (W : Nat → Nat → UInt64) (free out : List Nat) (ver : Nat) (H : Nat → Nat → Nat) (G : Nat → List Nat) (R : St), z = l.length - i ∧ i ≤ l.length ∧ PlayI N T (2 + q1) (30000 + 10000 * i) (20 * i) ob qq lf aF aH aG ao nF ws W free out ver H G ∧ S = .mem ws bs :: R ∧ h = heapJ lf qq [] ∧ tmps.length = 378 ∧
      tmps.getD 2 undef = .slice sl l.length c ∧ tmps.getD 6 undef = .bool false ∧ tmps.getD 7 undef = .pointer (some ⟨1, 0, none⟩) ∧ tmps.getD 8 undef = hndV 0 ∧ tmps.getD 9 undef = .pointer (some ⟨2 + q1, 0, none⟩) ∧ tmps.getD 10 undef = .slice ao out.length out.length ∧ tmps.getD 11 undef = .int .i64 i) (m := l.length)
      ⟨0, 2 + q1 + 1, lf2, shA 2 aF1, shA 2 aH1, shA 2 aG1, none, gM N T, ws0, W0, upto 1 (gM N T), [], 0, fun _ _ => 0, fun _ => [], [.port 0 0 st0], rfl, by omega, ?_, rfl, rfl, rfl, rfl, rfl, rfl, rfl, rfl, rfl, rfl⟩ ?_
  · refine ⟨by omega, by omega, by omega, ?_, hge3 1 _ rfl, hbox, hF2.ge hge2, hH2.ge hge2, ?_, .inl ⟨rfl, .inl rfl⟩, fun n g ps _ _ p _ => (by by_cases e : p.1 = none; exact .inl e; exact .inr e), hW0, hP0, fun t ht => by simp, ?_, by simp, by omega⟩
    · rintro b rfl; exact hge3 0 _ rfl
    · rw [show gns (fun _ => []) T = List.replicate T [] from ?_]
      · exact hG2.ge hge2
      · refine List.ext_getElem? fun j => ?_
        rw [List.getElem?_replicate]
        split
        · rename_i h; rw [gns_get _ h]; rfl
        · rename_i h; exact List.getElem?_eq_none (by rw [gns_len]; omega)
    · rw [List.append_nil]; exact hP0.nd
  clear hF1 hH1 hG1 hd1 hF2 hH2 hG2 hlf1 hge1 hlf2 hge2 hrow hbox hge3 hgeo
  rintro z tmps h S ih ⟨i, qq, lf, aF, aH, aG, ao, nF, ws, W, free, out, ver, H, G, R, rfl, hi, hI, rfl, rfl, hl, f2, f6, f7, f8, f9, f10, f11⟩
  obtain ⟨V, hV, hT⟩ := frame_lit hl; replace hT : _ = ([V 0, V 1, V 2, V 3, V 4, V 5, V 6, V 7, V 8, V 9, V 10, V 11, V 12, V 13, V 14, V 15, V 16, V 17, V 18, V 19, V 20, V 21, V 22, V 23, V 24, V 25, V 26, V 27, V 28, V 29, V 30, V 31, V 32, V 33, V 34, V 35, V 36, V 37, V 38, V 39, V 40, V 41, V 42, V 43, V 44, V 45, V 46, V 47, V 48, V 49, V 50, V 51, V 52, V 53, V 54, V 55, V 56, V 57, V 58, V 59, V 60, V 61, V 62, V 63, V 64, V 65, V 66, V 67, V 68, V 69, V 70, V 71, V 72, V 73, V 74, V 75, V 76, V 77, V 78, V 79, V 80, V 81, V 82, V 83, V 84, V 85, V 86, V 87, V 88, V 89, V 90, V 91, V 92, V 93, V 94, V 95, V 96, V 97, V 98, V 99, V 100, V 101, V 102, V 103, V 104, V 105, V 106, V 107, V 108, V 109, V 110, V 111, V 112, V 113, V 114, V 115, V 116, V 117, V 118, V 119, V 120, V 121, V 122, V 123, V 124, V 125, V 126, V 127, V 128, V 129, V 130, V 131, V 132, V 133, V 134, V 135, V 136, V 137, V 138, V 139, V 140, V 141, V 142, V 143, V 144, V 145, V 146, V 147, V 148, V 149, V 150, V 151, V 152, V 153, V 154, V 155, V 156, V 157, V 158, V 159, V 160, V 161, V 162, V 163, V 164, V 165, V 166, V 167, V 168, V 169, V 170, V 171, V 172, V 173, V 174, V 175, V 176, V 177, V 178, V 179, V 180, V 181, V 182, V 183, V 184, V 185, V 186, V 187, V 188, V 189, V 190, V 191, V 192, V 193, V 194, V 195, V 196, V 197, V 198, V 199, V 200, V 201, V 202, V 203, V 204, V 205, V 206, V 207, V 208, V 209, V 210, V 211, V 212, V 213, V 214, V 215, V 216, V 217, V 218, V 219, V 220, V 221, V 222, V 223, V 224, V 225, V 226, V 227, V 228, V 229, V 230, V 231, V 232, V 233, V 234, V 235, V 236, V 237, V 238, V 239, V 240, V 241, V 242, V 243, V 244, V 245, V 246, V 247, V 248, V 249, V 250, V 251, V 252, V 253, V 254, V 255, V 256, V 257, V 258, V 259, V 260, V 261, V 262, V 263, V 264, V 265, V 266, V 267, V 268, V 269, V 270, V 271, V 272, V 273, V 274, V 275, V 276, V 277, V 278, V 279, V 280, V 281, V 282, V 283, V 284, V 285, V 286, V 287, V 288, V 289, V 290, V 291, V 292, V 293, V 294, V 295, V 296, V 297, V 298, V 299, V 300, V 301, V 302, V 303, V 304, V 305, V 306, V 307, V 308, V 309, V 310, V 311, V 312, V 313, V 314, V 315, V 316, V 317, V 318, V 319, V 320, V 321, V 322, V 323, V 324, V 325, V 326, V 327, V 328, V 329, V 330, V 331, V 332, V 333, V 334, V 335, V 336, V 337, V 338, V 339, V 340, V 341, V 342, V 343, V 344, V 345, V 346, V 347, V 348, V 349, V 350, V 351, V 352, V 353, V 354, V 355, V 356, V 357, V 358, V 359, V 360, V 361, V 362, V 363, V 364, V 365, V 366, V 367, V 368, V 369, V 370, V 371, V 372, V 373, V 374, V 375, V 376, V 377] : List Value) := hT; rw [hV] at f2 f6 f7 f8 f9 f10 f11; subst hT; simp only [f2, f6, f7, f8, f9, f10, f11]; clear hV hl
  obtain ⟨hbx, hq2, hlen', hrow0, hgeo, hbox, hF, hH, hG, hOO, hA, hW, hP, hgl, hnd, hrng, hver⟩ := id hI
  have hO := hOO.isN
  by_cases hlt : i < l.length
  case neg =>
    refine via ?_
    ((first | refine qp1 rfl rfl fun K hK => ?_ | refine qp3 rfl rfl fun K hK => ?_); simp (disch := (first | omega | (simp only [sz] <;> omega) | fail)) only [go_sem]; refine ⟨_, _, qpu fun w => awake8_any w, ?_⟩; (try simp only [go_sem]); with_reducible refine hK _ _ ?_; clear hK K)
    refine via ?_
    exact Goes.law rfl rfl
  obtain ⟨rfl, el, rfl⟩ := hrow (by omega)
  have hr0 := hrow0 _ rfl
  obtain ⟨x, hx⟩ : ∃ x, x = l[i] := ⟨_, rfl⟩
  have hlk : l[i]? = some x := by rw [hx]; exact List.getElem?_eq_getElem hlt
  obtain ⟨hb1, hb2, ⟨hb3, hb4⟩, hb5, hb6⟩ := hbd x (by rw [hx]; exact List.getElem_mem hlt)
  have hcL := rowC_len a8C_len l
  have g0 : (rowC a8C l)[i * 4]? = some (.int .u8 x.d) := rowC_get (j := 0) a8C_len hlk (by decide)
  have g1 : (rowC a8C l)[i * 4 + 1]? = some (.int .u8 x.t) := rowC_get a8C_len hlk (by decide)
  have g2 : (rowC a8C l)[i * 4 + 2]? = some (.int .i64 x.s) := rowC_get a8C_len hlk (by decide)
  have g3 : (rowC a8C l)[i * 4 + 3]? = some (.int .i64 x.x) := rowC_get a8C_len hlk (by decide)
  obtain ⟨t, ht⟩ : ∃ t, t = x.t % T := ⟨_, rfl⟩
  have htT : t < T := by rw [ht]; exact Nat.mod_lt _ (by omega)
  have htm : (x.t : Int).tmod (T : Int) = (t : Int) := by rw [ht]; exact tmod_n x.t T
  have hlx := (List.getElem?_eq_some_iff.1 hbox).1
  have hq0 : 0 < qq := by omega
  have hq00 : 1 < qq := by omega
  have hsum : free.length + (flat T G).length + out.length ≤ gM N T := by
    have := all_le hnd fun y hy => by
      rcases List.mem_append.1 hy with hy | hy
      · exact hP.rng y hy
      · exact hrng y hy
    simpa only [List.length_append] using this
  refine viaF (And.intro hr0 (And.intro g1 hgeo)) ?_
  ((first | refine qp1 rfl rfl fun K hK => ?_ | refine qp3 rfl rfl fun K hK => ?_); simp (disch := (first | omega | (simp only [sz] <;> omega) | fail)) only [go_sem]; refine ⟨_, _, qpu fun w => gThreads_any N T w, ?_⟩; (try simp only [go_sem]); with_reducible refine hK _ _ ?_; clear hK K)
  refine viaF htm ?_
  ((first | refine qp1 rfl rfl fun K hK => ?_ | refine qp3 rfl rfl fun K hK => ?_); simp (disch := (first | omega | (simp only [sz] <;> omega) | fail)) only [go_sem]; refine ⟨_, _, .pnew (m := 0) rfl, ?_⟩; (try simp only [go_sem]); with_reducible refine hK _ _ ?_; clear hK K)
  refine via ?_
  refine Goes.wh (fun z tmps h S => ∃ (k : Nat) (hs : Int), z = out.length - k ∧ k ≤ out.length ∧ HasAt out x.x k hs ∧ S = .mem ws bs :: (R ++ [.port 0 t 0]) ∧ h = heapJ lf qq [] ∧ tmps.length = 378 ∧
      tmps.getD 2 undef = .slice (some ⟨0, 0, none⟩) l.length c ∧ tmps.getD 6 undef = .bool false ∧ tmps.getD 7 undef = .pointer (some ⟨1, 0, none⟩) ∧ tmps.getD 8 undef = hndV 0 ∧ tmps.getD 9 undef = .pointer (some ⟨2 + q1, 0, none⟩) ∧ tmps.getD 10 undef = .slice ao out.length out.length ∧ tmps.getD 11 undef = .int .i64 i ∧
      tmps.getD 12 undef = .int .i64 t ∧ tmps.getD 13 undef = hndV (R.length + 1) ∧ tmps.getD 14 undef = .int .i64 hs ∧ tmps.getD 15 undef = .int .i64 k) (m := out.length)
      ⟨0, -1, rfl, by omega, .inl ⟨rfl, fun j y hj => by omega⟩, rfl, rfl, rfl, rfl, rfl, rfl, rfl, rfl, rfl, rfl, rfl, rfl, rfl, rfl⟩ ?_
  rintro z tmps h S ih2 ⟨k, hs, rfl, hk, hhas, rfl, rfl, hl, f2, f6, f7, f8, f9, f10, f11, f12, f13, f14, f15⟩
  obtain ⟨V, hV, hT⟩ := frame_lit hl; replace hT : _ = ([V 0, V 1, V 2, V 3, V 4, V 5, V 6, V 7, V 8, V 9, V 10, V 11, V 12, V 13, V 14, V 15, V 16, V 17, V 18, V 19, V 20, V 21, V 22, V 23, V 24, V 25, V 26, V 27, V 28, V 29, V 30, V 31, V 32, V 33, V 34, V 35, V 36, V 37, V 38, V 39, V 40, V 41, V 42, V 43, V 44, V 45, V 46, V 47, V 48, V 49, V 50, V 51, V 52, V 53, V 54, V 55, V 56, V 57, V 58, V 59, V 60, V 61, V 62, V 63, V 64, V 65, V 66, V 67, V 68, V 69, V 70, V 71, V 72, V 73, V 74, V 75, V 76, V 77, V 78, V 79, V 80, V 81, V 82, V 83, V 84, V 85, V 86, V 87, V 88, V 89, V 90, V 91, V 92, V 93, V 94, V 95, V 96, V 97, V 98, V 99, V 100, V 101, V 102, V 103, V 104, V 105, V 106, V 107, V 108, V 109, V 110, V 111, V 112, V 113, V 114, V 115, V 116, V 117, V 118, V 119, V 120, V 121, V 122, V 123, V 124, V 125, V 126, V 127, V 128, V 129, V 130, V 131, V 132, V 133, V 134, V 135, V 136, V 137, V 138, V 139, V 140, V 141, V 142, V 143, V 144, V 145, V 146, V 147, V 148, V 149, V 150, V 151, V 152, V 153, V 154, V 155, V 156, V 157, V 158, V 159, V 160, V 161, V 162, V 163, V 164, V 165, V 166, V 167, V 168, V 169, V 170, V 171, V 172, V 173, V 174, V 175, V 176, V 177, V 178, V 179, V 180, V 181, V 182, V 183, V 184, V 185, V 186, V 187, V 188, V 189, V 190, V 191, V 192, V 193, V 194, V 195, V 196, V 197, V 198, V 199, V 200, V 201, V 202, V 203, V 204, V 205, V 206, V 207, V 208, V 209, V 210, V 211, V 212, V 213, V 214, V 215, V 216, V 217, V 218, V 219, V 220, V 221, V 222, V 223, V 224, V 225, V 226, V 227, V 228, V 229, V 230, V 231, V 232, V 233, V 234, V 235, V 236, V 237, V 238, V 239, V 240, V 241, V 242, V 243, V 244, V 245, V 246, V 247, V 248, V 249, V 250, V 251, V 252, V 253, V 254, V 255, V 256, V 257, V 258, V 259, V 260, V 261, V 262, V 263, V 264, V 265, V 266, V 267, V 268, V 269, V 270, V 271, V 272, V 273, V 274, V 275, V 276, V 277, V 278, V 279, V 280, V 281, V 282, V 283, V 284, V 285, V 286, V 287, V 288, V 289, V 290, V 291, V 292, V 293, V 294, V 295, V 296, V 297, V 298, V 299, V 300, V 301, V 302, V 303, V 304, V 305, V 306, V 307, V 308, V 309, V 310, V 311, V 312, V 313, V 314, V 315, V 316, V 317, V 318, V 319, V 320, V 321, V 322, V 323, V 324, V 325, V 326, V 327, V 328, V 329, V 330, V 331, V 332, V 333, V 334, V 335, V 336, V 337, V 338, V 339, V 340, V 341, V 342, V 343, V 344, V 345, V 346, V 347, V 348, V 349, V 350, V 351, V 352, V 353, V 354, V 355, V 356, V 357, V 358, V 359, V 360, V 361, V 362, V 363, V 364, V 365, V 366, V 367, V 368, V 369, V 370, V 371, V 372, V 373, V 374, V 375, V 376, V 377] : List Value) := hT; rw [hV] at f2 f6 f7 f8 f9 f10 f11 f12 f13 f14 f15; subst hT; simp only [f2, f6, f7, f8, f9, f10, f11, f12, f13, f14, f15]; clear hV hl
  by_cases hkl : k < out.length
  · obtain ⟨_, ⟨_, h2⟩ | ⟨no, go, rfl, hno, hbo⟩⟩ := id hO
    · exfalso; rw [← ints_len, h2] at hkl; simp at hkl
    have ho := List.getElem?_eq_getElem hkl
    have go : (numRow .i64 (ints out))[k]? = some (.int .i64 (out[k] : Int)) := by simp [numRow, ints, ho]
    have hk1 := Nat.mul_one k
    by_cases he : (out[k] : Int) = x.x
    · repeat (first | refine Goes.reg ?_ | refine Goes.ctl2 rfl ?_ | ((first | refine qv1 rfl rfl rfl fun K hK => ?_ | refine qv3 rfl rfl rfl fun K hK => ?_ | refine qv2 rfl rfl rfl rfl rfl rfl fun K hK => ?_ | refine qv4 rfl rfl rfl rfl rfl rfl fun K hK => ?_ | refine qn1 rfl rfl rfl fun K hK => ?_ | refine qn3 rfl rfl rfl fun K hK => ?_ | refine qt1 rfl rfl rfl fun K hK => ?_ | refine qt3 rfl rfl rfl fun K hK => ?_); simp (disch := (first | omega | (simp only [sz] <;> omega) | fail)) only [go_sem, hk1, hbo, hr0, go, g3, he]; with_reducible refine hK _ _ ?_; clear hK K) | refine At.nil rfl ?_ | refine RG.nil rfl ?_ | ((first | refine AtL.skipg rfl rfl rfl rfl rfl ?_ | refine RGL.skipg rfl rfl rfl rfl rfl ?_ | refine AtL.skipu rfl rfl rfl rfl ?_ | refine RGL.skipu rfl rfl rfl rfl ?_); simp only [putL, List.set_cons_zero, List.set_cons_succ]) | refine Goes.yes rfl ?_ | refine Goes.no rfl ?_ | refine Goes.drawR [] (by kernel_rfl) ?_)
      exact ih2 _ _ _ _ (by omega) ⟨k + 1, k, rfl, by omega, .inr ⟨k, _, by omega, rfl, ho, he⟩, rfl, rfl, rfl, rfl, rfl, rfl, rfl, rfl, rfl, rfl, rfl, rfl, rfl, by push_cast; rfl⟩
    · repeat (first | refine Goes.reg ?_ | refine Goes.ctl2 rfl ?_ | ((first | refine qv1 rfl rfl rfl fun K hK => ?_ | refine qv3 rfl rfl rfl fun K hK => ?_ | refine qv2 rfl rfl rfl rfl rfl rfl fun K hK => ?_ | refine qv4 rfl rfl rfl rfl rfl rfl fun K hK => ?_ | refine qn1 rfl rfl rfl fun K hK => ?_ | refine qn3 rfl rfl rfl fun K hK => ?_ | refine qt1 rfl rfl rfl fun K hK => ?_ | refine qt3 rfl rfl rfl fun K hK => ?_); simp (disch := (first | omega | (simp only [sz] <;> omega) | fail)) only [go_sem, hk1, hbo, hr0, go, g3, he]; with_reducible refine hK _ _ ?_; clear hK K) | refine At.nil rfl ?_ | refine RG.nil rfl ?_ | ((first | refine AtL.skipg rfl rfl rfl rfl rfl ?_ | refine RGL.skipg rfl rfl rfl rfl rfl ?_ | refine AtL.skipu rfl rfl rfl rfl ?_ | refine RGL.skipu rfl rfl rfl rfl ?_); simp only [putL, List.set_cons_zero, List.set_cons_succ]) | refine Goes.yes rfl ?_ | refine Goes.no rfl ?_ | refine Goes.drawR [] (by kernel_rfl) ?_)
      refine ih2 _ _ _ _ (by omega) ⟨k + 1, hs, rfl, by omega, ?_, rfl, rfl, rfl, rfl, rfl, rfl, rfl, rfl, rfl, rfl, rfl, rfl, rfl, by push_cast; rfl⟩
      rcases hhas with ⟨h1, h3⟩ | ⟨j, y, h1, h3⟩
      · refine .inl ⟨h1, fun j y hj hy => ?_⟩
        by_cases e : j = k
        · subst e; rw [ho] at hy; cases hy; exact he
        · exact h3 j y (by omega) hy
      · exact .inr ⟨j, y, by omega, h3⟩
  obtain rfl : k = out.length := by omega
  clear ih2
  have hp0 : ∀ (ws : List UInt64) (st : Nat), (Ob.mem ws bs :: (R ++ [Ob.port 0 t st]))[R.length + 1]? = some (.port 0 t st) := fun ws st => by simp
  have hm0 : ∀ (ws : List UInt64) (st : Nat), (Ob.mem ws bs :: (R ++ [Ob.port 0 t st]))[0]? = some (.mem ws bs) := fun ws st => rfl
  have hacc : ∀ (ws ws' : List UInt64) (st st' : Nat), accS (Ob.mem ws bs :: (R ++ [Ob.port 0 t st])) (R.length + 1) 0 t st' ws' bs = Ob.mem ws' bs :: (R ++ [Ob.port 0 t st']) := fun ws ws' st st' => by simp [accS]
  have hMl := gM_lt (N := N) (T := T) (by omega) (by omega)
  refine viaF (And.intro hr0 (And.intro g3 hgeo)) ?_
  ((first | refine qp1 rfl rfl fun K hK => ?_ | refine qp3 rfl rfl fun K hK => ?_); simp (disch := (first | omega | (simp only [sz] <;> omega) | fail)) only [go_sem]; refine ⟨_, _, qpu fun w => gPool_any N T w (by omega) (by omega), ?_⟩; (try simp only [go_sem]); with_reducible refine hK _ _ ?_; clear hK K)
  refine via ?_
  ((first | refine qp1 rfl rfl fun K hK => ?_ | refine qp3 rfl rfl fun K hK => ?_); simp (disch := (first | omega | (simp only [sz] <;> omega) | fail)) only [go_sem]; refine ⟨_, _, .load _ (hp0 _ _) (hm0 _ _) (by omega), ?_⟩; (try simp only [go_sem]); with_reducible refine hK _ _ ?_; clear hK K)
  rw [load_same, hW.tells4, hP.top, hacc]
  refine via ?_
  ((first | refine qc1 rfl rfl fun K hK => ?_ | refine qc3 rfl rfl fun K hK => ?_); simp (disch := (first | omega | (simp only [sz] <;> omega) | fail)) only [go_sem]; refine ⟨_, _, refOf_rU _ (hP.head (by omega)) (by omega), ?_⟩; (try simp only [go_sem]); with_reducible refine hK _ _ ?_; clear hK K)
  unfold refV
  obtain ⟨d6, hd6⟩ : ∃ d6, d6 = x.d % 6 := ⟨_, rfl⟩
  have hdm : (x.d : Int).tmod (6 : Int) = (d6 : Int) := by rw [hd6]; exact tmod_n x.d 6
  have h6 : d6 < 6 := by omega
  refine via ?_
  refine At.folds hlen' fun lw hlw hgew hroww => ?_
  simp only [List.length_cons, List.length_nil, Nat.zero_add] at hlw
  have hw : lw[qq]? = _ := hroww 0
  simp only [List.getElem?_cons_zero] at hw
  have hIw := hI.ge (Bq' := 30001 + 10000 * i) hgew (by omega) (q' := qq + 1) (by omega) (Nat.le_refl _)
  have hqb : 2 + q1 ≠ qq := by have := (List.getElem?_eq_some_iff.1 hbox).1; omega
  clear hI hlen' hrow0 hgeo hbox hF hH hG hO hOO hA hr0 hroww
  obtain ⟨_, _, hlen', hrow0, hgeo, hbox, hF, hH, hG, hO, hA, _, _, _, _, _, _⟩ := id hIw
  have hr0 := hrow0 _ rfl
  have hlw0 : 0 < qq + 1 := by omega
  have hlw1 : 1 < qq + 1 := by omega
  have hlwb := (List.getElem?_eq_some_iff.1 hbox).1
  simp only [List.length_cons, List.length_nil, Nat.zero_add]
  refine viaF (And.intro hr0 (And.intro g0 hdm)) ?_
  apply share (P := fun todo : List Item => ∀ (tmps : List Value) (qq' : Nat) (lf' : List (Option Blk)) (aF' aH' aG' ao' : Option Addr) (nF' : Nat) (ws' : List UInt64) (W' : Nat → Nat → UInt64) (free' out' : List Nat) (ver' : Nat) (H' : Nat → Nat → Nat) (G' : Nat → List Nat) (st' : Nat), tmps.length = 378 →
    tmps.getD 2 undef = .slice (some ⟨0, 0, none⟩) l.length c → tmps.getD 6 undef = .bool false → tmps.getD 7 undef = .pointer (some ⟨1, 0, none⟩) → tmps.getD 8 undef = hndV 0 → tmps.getD 9 undef = .pointer (some ⟨2 + q1, 0, none⟩) → tmps.getD 10 undef = .slice ao' out'.length out'.length → tmps.getD 11 undef = .int .i64 i →
    tmps.getD 12 undef = .int .i64 t → tmps.getD 13 undef = hndV (R.length + 1) → tmps.getD 17 undef = .pointer (some ⟨qq, 0, none⟩) → tmps.getD 249 undef = hndV (R.length + 1) → PlayI N T (2 + q1) (35000 + 10000 * i) (20 * i + 20) (some ⟨rowC a8C l, el, true, none⟩) qq' lf' aF' aH' aG' ao' nF' ws' W' free' out' ver' H' G' →
    lf'[qq]? = some (some { cells := [.int .i64 (free.headD 0 : Nat), .bool false, .int .u32 ver], elem := 78 }) → (free'.headD 0 ≠ free.headD 0 → ver' ≠ ver) → st' ≤ 5000 →
    Goes OF Try.f7 (fun x => ∃ h1 S', x = .done (.bool true) h1 S') (.run todo tmps (heapJ lf' qq' []) (.mem ws' bs :: (R ++ [.port 0 t st']))))
  · intro inner
    have hd6' : d6 = 0 ∨ d6 = 1 ∨ d6 = 2 ∨ d6 = 3 ∨ d6 = 4 ∨ d6 = 5 := by omega
    rcases hd6' with rfl | rfl | rfl | rfl | rfl | rfl
    · refine viaF hgeo ?_
      rcases free with _ | ⟨y, fr⟩
      · have hn0 : nF = 0 := hF.1
        subst hn0
        ((first | refine qc1 rfl rfl fun K hK => ?_ | refine qc3 rfl rfl fun K hK => ?_); simp (disch := (first | omega | (simp only [sz] <;> omega) | fail)) only [go_sem]; refine ⟨_, _, acquire_none _ _ 0 t 1 ws bs N T (hp0 _ _) (hm0 _ _) (by omega) hN1 (by omega) (by omega) hW (by omega) hP.top, ?_⟩; (try simp only [go_sem]); with_reducible refine hK _ _ ?_; clear hK K)
        rw [hacc]
        refine viaF hbox ?_
        obtain ⟨v1, hh1, S1, ⟨rfl, l1, q2, rfl, rfl, hge1, hl1, hqa, hqc⟩, hd⟩ := racq_none (Ob.mem ws bs :: (R ++ [Ob.port 0 t 2])) (l := lw) (q := qq + 1) (aF := aF) (aH := aH) (aG := aG) (T := T) (M := gM N T) hlen' (by omega)
        have hbox1 := hge1 _ _ hbox
        have hw1 := hge1 _ _ hw
        have hlq := (List.getElem?_eq_some_iff.1 hbox1).1
        unfold plV at hd
        ((first | refine qd1 rfl rfl fun K hK => ?_ | refine qd3 rfl rfl fun K hK => ?_); simp (disch := (first | omega | (simp only [sz] <;> omega) | fail)) only [go_sem]; (first | refine ⟨_, _, _, hd, ⟨by simp only [sz]; omega, by simp only [sz]; unfold VB; omega, by first | exact heapL_low _ | exact gap_low _ _ _⟩, ?_⟩ | refine ⟨_, _, _, hd, ?_⟩); (try simp only [go_sem]); with_reducible refine hK _ _ _ ?_; clear hK K)
        refine viaDF hbox1 ?_
        exact inner _ q2 _ aF aH aG ao 0 ws W [] out ver H G 2 rfl rfl rfl rfl rfl rfl rfl rfl rfl rfl rfl rfl (hIw.act (Bq' := 35000 + 10000 * i) (Bv' := 20 * i + 20) hge1 hl1 (by omega) (hF.ge hge1) (hH.ge hge1) (hG.ge hge1) (hO.ge hge1) (Inner.ge hH hA hge1) hW hP hgl hnd hrng (by omega)) (by rw [List.getElem?_set_ne hqb]; exact hw1) (fun h => absurd rfl h) (by omega)
      · have hy := hP.rng y (by simp)
        ((first | refine qc1 rfl rfl fun K hK => ?_ | refine qc3 rfl rfl fun K hK => ?_); simp (disch := (first | omega | (simp only [sz] <;> omega) | fail)) only [go_sem]; refine ⟨_, _, acquire_some _ _ 0 t 1 ws bs N T (top := y) (b := fr.headD 0) (v := 0) (mk := false) (ver := ver) (hp0 _ _) (hm0 _ _) (by omega) hN1 (by omega) (by omega) hW (by omega) hP.top hy.1 hy.2 hP.ch.1 (hP.acquire.head (by omega)) (by omega), ?_⟩; (try simp only [go_sem]); with_reducible refine hK _ _ ?_; clear hK K)
        rw [hacc]
        refine viaF hbox ?_
        obtain ⟨v1, hh1, S1, ⟨rfl, l1, q2, aF1, rfl, rfl, hge1, hl1, hqa, hqc, hN1'⟩, hd⟩ := racq_does (Ob.mem (wS 3 (gat N T 4 0) (rU y false ver) (rU (fr.headD 0) false (ver + 1)) ws) bs :: (R ++ [Ob.port 0 t 4])) (l := lw) (q := qq + 1) (aF := aF) (aH := aH) (aG := aG) (nF := nF) (T := T) (F := ints fr.reverse) (M := gM N T) (x := (y : Int)) hlen' (by omega) (by have h9 := hF; rw [List.reverse_cons, ints_app, ints_one] at h9; exact h9) (by rw [ints_len, List.length_reverse]; simp only [List.length_cons] at hsum; omega)
        have hbox1 := hge1 _ _ hbox
        have hw1 := hge1 _ _ hw
        have hlq := (List.getElem?_eq_some_iff.1 hbox1).1
        unfold plV at hd
        ((first | refine qd1 rfl rfl fun K hK => ?_ | refine qd3 rfl rfl fun K hK => ?_); simp (disch := (first | omega | (simp only [sz] <;> omega) | fail)) only [go_sem]; (first | refine ⟨_, _, _, hd, ⟨by simp only [sz]; omega, by simp only [sz]; unfold VB; omega, by first | exact heapL_low _ | exact gap_low _ _ _⟩, ?_⟩ | refine ⟨_, _, _, hd, ?_⟩); (try simp only [go_sem]); with_reducible refine hK _ _ _ ?_; clear hK K)
        refine viaF hbox1 ?_
        refine At.named fun l2 hl2 => ?_
        have hn2 := named_len hl2
        have hw2 : l2[qq]? = some (some { cells := [.int .i64 ((y :: fr).headD 0 : Nat), .bool false, .int .u32 ver], elem := 78 }) := by rw [hl2, List.getElem?_set_ne hqb]; exact hw1
        have hI2 : PlayI N T (2 + q1) (34000 + 10000 * i) (20 * i + 20) (some ⟨rowC a8C l, el, true, none⟩) q2 l2 aF1 aH aG ao (nF - 1) (wS 3 (gat N T 4 0) (rU y false ver) (rU (fr.headD 0) false (ver + 1)) ws) (up2 W 4 0 (rU (fr.headD 0) false (ver + 1))) fr out (ver + 1) H G := by
          rw [hl2]
          exact (hIw.act (Bq' := 34000 + 10000 * i) (Bv' := 20 * i + 20) hge1 hl1 (by omega) hN1' (hH.ge hge1) (hG.ge hge1) (hO.ge hge1) (Inner.ge hH hA hge1) (hW.cas4 hN1 hP.top _) hP.acquire hgl (List.nodup_cons.1 (show (y :: (fr ++ flat T G ++ out)).Nodup from hnd)).2 hrng (by omega))
        have hnd2 := acq_nd hnd
        have hrng2 : ∀ z ∈ out ++ [y], 1 ≤ z ∧ z ≤ gM N T := fun z hz => by
          rcases List.mem_append.1 hz with h | h
          · exact hrng z h
          · rw [List.mem_singleton.1 h]; exact hy
        have hl22 : l2.length ≤ q2 := by omega
        rcases hI2.ou with ⟨rfl, rfl | ⟨no, rfl, hbo⟩⟩ | ⟨no, rfl, hne, hbo⟩
        · (refine At.appE rfl rfl rfl rfl (app_nil_new appT_int (cells_gap 0 rfl rfl (by decide)) (by decide) (by decide)) (by simp (disch := (first | omega | (simp only [sz] <;> omega) | fail)) only [go_sem]; (try simp only [sz]); unfold VB; omega) fun K hK => ?_; simp (disch := (first | omega | (simp only [sz] <;> omega) | fail)) only [go_sem]; with_reducible refine hK _ _ ?_; clear hK K)
          refine viaD ?_
          refine Goes.folds hl22 fun l3 hl3 hge3 hrow3 => ?_
          simp only [List.length_cons, List.length_nil] at hl3
          exact inner _ _ l3 aF1 aH aG (some ⟨q2 + 1, 0, none⟩) (nF - 1) _ _ fr ([] ++ [y]) (ver + 1) H G 4 rfl rfl rfl rfl rfl rfl rfl rfl rfl rfl rfl rfl (hI2.outs hge3 (by simp only [List.length_cons, List.length_nil]; omega) (by simp only [List.length_cons, List.length_nil]; omega) (by omega) (.inr ⟨q2 + 1, rfl, by simp, (hrow3 1).trans rfl⟩) hnd2 hrng2) (hge3 _ _ hw2) (fun _ => by omega) (by omega)
        · have hkg : ∀ ys, (heapJ l2 q2 ys).get no = some ⟨[], 3, false, some 0⟩ := fun ys => by
            rw [gap_lo (by have := (List.getElem?_eq_some_iff.1 hbo).1; omega), hbo]; rfl
          (refine At.appE rfl rfl rfl rfl (app_new appT_int cellsA_zero (cells_gap 0 rfl rfl (by decide)) (by decide) (by decide) (fun x hx => by cases hx; exact ⟨_, hkg _, rfl⟩)) (by simp (disch := (first | omega | (simp only [sz] <;> omega) | fail)) only [go_sem]; (try simp only [sz]); unfold VB; omega) fun K hK => ?_; simp (disch := (first | omega | (simp only [sz] <;> omega) | fail)) only [go_sem]; with_reducible refine hK _ _ ?_; clear hK K)
          refine viaD ?_
          refine Goes.folds hl22 fun l3 hl3 hge3 hrow3 => ?_
          simp only [List.length_cons, List.length_nil] at hl3
          exact inner _ _ l3 aF1 aH aG (some ⟨q2 + 1, 0, none⟩) (nF - 1) _ _ fr ([] ++ [y]) (ver + 1) H G 4 rfl rfl rfl rfl rfl rfl rfl rfl rfl rfl rfl rfl (hI2.outs hge3 (by simp only [List.length_cons, List.length_nil]; omega) (by simp only [List.length_cons, List.length_nil]; omega) (by omega) (.inr ⟨q2 + 1, rfl, by simp, (hrow3 1).trans rfl⟩) hnd2 hrng2) (hge3 _ _ hw2) (fun _ => by omega) (by omega)
        · have hkl := (List.getElem?_eq_some_iff.1 hbo).1
          have hkg : ∀ ys, (heapJ l2 q2 ys).get no = some ⟨numRow .i64 (ints out), 3, false, some 1⟩ := fun ys => by
            rw [gap_lo (by omega), hbo]; rfl
          (refine At.appE rfl rfl rfl rfl (app_grow appT_int (hkg _) rfl rfl (by rw [numRow_len, ints_len]; omega) (cells_gap 0 rfl rfl (by decide)) rfl (by decide) (by omega)) (by simp (disch := (first | omega | (simp only [sz] <;> omega) | fail)) only [go_sem]; (try simp only [sz]); unfold VB; omega) fun K hK => ?_; simp (disch := (first | omega | (simp only [sz] <;> omega) | fail)) only [go_sem]; with_reducible refine hK _ _ ?_; clear hK K)
          refine viaD ?_
          refine Goes.folds (by rw [List.length_set]; exact hl22) fun l3 hl3 hge3 hrow3 => ?_
          simp only [List.length_cons, List.length_nil] at hl3
          exact inner _ _ l3 aF1 aH aG (some ⟨q2 + 1, 0, none⟩) (nF - 1) _ _ fr (out ++ [y]) (ver + 1) H G 4 rfl rfl rfl rfl rfl rfl (by rw [List.length_append]; rfl) rfl rfl rfl rfl rfl ((hI2.gone hne (fun b hb => by cases hb; rfl)).outs hge3 (by simp only [List.length_cons, List.length_nil]; omega) (by simp only [List.length_cons, List.length_nil]; omega) (by rw [List.length_set]; omega) (.inr ⟨q2 + 1, rfl, by simp, by rw [ints_app, ← numRow_app]; exact hrow3 1⟩) hnd2 hrng2) (hge3 _ _ (set_at hbo hw2 (by simp))) (fun _ => by omega) (by omega)
    · rcases hhas with ⟨rfl, hno⟩ | ⟨j, y, hj, rfl, hoj, hyx⟩
      · by_cases hr : 1 ≤ x.x ∧ x.x ≤ gM N T
        · refine viaF hgeo ?_
          ((first | refine qp1 rfl rfl fun K hK => ?_ | refine qp3 rfl rfl fun K hK => ?_); simp (disch := (first | omega | (simp only [sz] <;> omega) | fail)) only [go_sem]; refine ⟨_, _, qpu fun w => gNodes_any N T w hN1 (by omega) (by omega), ?_⟩; (try simp only [go_sem]); with_reducible refine hK _ _ ?_; clear hK K)
          refine via ?_
          exact ih _ _ _ _ (by omega) ⟨i + 1, qq + 1, lw, aF, aH, aG, ao, nF, ws, W, free, out, ver, H, G, R ++ [.port 0 t 1], rfl, by omega, hIw.ge (Ge.refl _) hlen' (by omega) (by omega), rfl, rfl, rfl, rfl, rfl, rfl, rfl, rfl, rfl, by push_cast; rfl⟩
        · by_cases h1 : x.x < 1
          · refine viaF (And.intro hr0 (And.intro g0 hdm)) ?_
            refine viaF hgeo ?_
            ((first | refine qc1 rfl rfl fun K hK => ?_ | refine qc3 rfl rfl fun K hK => ?_); simp (disch := (first | omega | (simp only [sz] <;> omega) | fail)) only [go_sem]; refine ⟨_, _, give_none _ _ 0 t 1 N T x.x (hp0 _ _) hN1 (by omega) (by omega) hb5 hb6 hr, ?_⟩; (try simp only [go_sem]); with_reducible refine hK _ _ ?_; clear hK K)
            refine viaF hbox ?_
            obtain ⟨v1, hh1, S1, ⟨rfl, l1, q2, rfl, rfl, hge1, hl1, hqa, hqc⟩, hd⟩ := rgive_none (Ob.mem ws bs :: (R ++ [Ob.port 0 t 1])) (l := lw) (q := qq + 1) (aF := aF) (aH := aH) (aG := aG) (nF := nF) (T := T) (M := gM N T) (x := x.x) hlen' (by omega) hr
            have hbox1 := hge1 _ _ hbox
            have hw1 := hge1 _ _ hw
            have hlq := (List.getElem?_eq_some_iff.1 hbox1).1
            unfold plV at hd
            ((first | refine qd1 rfl rfl fun K hK => ?_ | refine qd3 rfl rfl fun K hK => ?_); simp (disch := (first | omega | (simp only [sz] <;> omega) | fail)) only [go_sem]; (first | refine ⟨_, _, _, hd, ⟨by simp only [sz]; omega, by simp only [sz]; unfold VB; omega, by first | exact heapL_low _ | exact gap_low _ _ _⟩, ?_⟩ | refine ⟨_, _, _, hd, ?_⟩); (try simp only [go_sem]); with_reducible refine hK _ _ _ ?_; clear hK K)
            refine viaDF hbox1 ?_
            exact inner _ q2 _ aF aH aG ao nF ws W free out ver H G 1 rfl rfl rfl rfl rfl rfl rfl rfl rfl rfl rfl rfl (hIw.act (Bq' := 35000 + 10000 * i) (Bv' := 20 * i + 20) hge1 hl1 (by omega) (hF.ge hge1) (hH.ge hge1) (hG.ge hge1) (hO.ge hge1) (Inner.ge hH hA hge1) hW hP hgl hnd hrng (by omega)) (by rw [List.getElem?_set_ne hqb]; exact hw1) (fun h => absurd rfl h) (by omega)
          · refine viaF hgeo ?_
            ((first | refine qp1 rfl rfl fun K hK => ?_ | refine qp3 rfl rfl fun K hK => ?_); simp (disch := (first | omega | (simp only [sz] <;> omega) | fail)) only [go_sem]; refine ⟨_, _, qpu fun w => gNodes_any N T w hN1 (by omega) (by omega), ?_⟩; (try simp only [go_sem]); with_reducible refine hK _ _ ?_; clear hK K)
            refine viaF (And.intro hr0 (And.intro g0 hdm)) ?_
            refine viaF hgeo ?_
            ((first | refine qc1 rfl rfl fun K hK => ?_ | refine qc3 rfl rfl fun K hK => ?_); simp (disch := (first | omega | (simp only [sz] <;> omega) | fail)) only [go_sem]; refine ⟨_, _, give_none _ _ 0 t 1 N T x.x (hp0 _ _) hN1 (by omega) (by omega) hb5 hb6 hr, ?_⟩; (try simp only [go_sem]); with_reducible refine hK _ _ ?_; clear hK K)
            refine viaF hbox ?_
            obtain ⟨v1, hh1, S1, ⟨rfl, l1, q2, rfl, rfl, hge1, hl1, hqa, hqc⟩, hd⟩ := rgive_none (Ob.mem ws bs :: (R ++ [Ob.port 0 t 1])) (l := lw) (q := qq + 1) (aF := aF) (aH := aH) (aG := aG) (nF := nF) (T := T) (M := gM N T) (x := x.x) hlen' (by omega) hr
            have hbox1 := hge1 _ _ hbox
            have hw1 := hge1 _ _ hw
            have hlq := (List.getElem?_eq_some_iff.1 hbox1).1
            unfold plV at hd
            ((first | refine qd1 rfl rfl fun K hK => ?_ | refine qd3 rfl rfl fun K hK => ?_); simp (disch := (first | omega | (simp only [sz] <;> omega) | fail)) only [go_sem]; (first | refine ⟨_, _, _, hd, ⟨by simp only [sz]; omega, by simp only [sz]; unfold VB; omega, by first | exact heapL_low _ | exact gap_low _ _ _⟩, ?_⟩ | refine ⟨_, _, _, hd, ?_⟩); (try simp only [go_sem]); with_reducible refine hK _ _ _ ?_; clear hK K)
            refine viaDF hbox1 ?_
            exact inner _ q2 _ aF aH aG ao nF ws W free out ver H G 1 rfl rfl rfl rfl rfl rfl rfl rfl rfl rfl rfl rfl (hIw.act (Bq' := 35000 + 10000 * i) (Bv' := 20 * i + 20) hge1 hl1 (by omega) (hF.ge hge1) (hH.ge hge1) (hG.ge hge1) (hO.ge hge1) (Inner.ge hH hA hge1) hW hP hgl hnd hrng (by omega)) (by rw [List.getElem?_set_ne hqb]; exact hw1) (fun h => absurd rfl h) (by omega)
      · rcases hO with ⟨rfl, _⟩ | ⟨no, rfl, hne, hbo⟩
        · simp at hoj
        have hno := (List.getElem?_eq_some_iff.1 hbo).1
        have hnd2 := cut_nd hoj hnd
        have hnd3 := (List.nodup_cons.1 hnd2).2
        have hrng3 : ∀ z ∈ (out.take j ++ out.drop (j + 1)), 1 ≤ z ∧ z ≤ gM N T := fun z hz => hrng z (cut_mem hz)
        have hcl := cut_len hj
        have hkg : ∀ ys, (heapJ lw (qq + 1) ys).get no = some ⟨numRow .i64 (ints out), 3, false, some 1⟩ := fun ys => by
          rw [gap_lo (by omega), hbo]; rfl
        apply share (P := fun todo : List Item => ∀ (tmps : List Value) (q3 : Nat) (l3 : List (Option Blk)) (ao3 : Option Addr) (n3 : Nat), tmps.length = 378 → tmps.getD 2 undef = .slice (some ⟨0, 0, none⟩) l.length c → tmps.getD 6 undef = .bool false → tmps.getD 7 undef = .pointer (some ⟨1, 0, none⟩) → tmps.getD 8 undef = hndV 0 → tmps.getD 9 undef = .pointer (some ⟨2 + q1, 0, none⟩) → tmps.getD 10 undef = .slice ao3 n3 n3 → tmps.getD 11 undef = .int .i64 i → tmps.getD 12 undef = .int .i64 t → tmps.getD 13 undef = hndV (R.length + 1) → tmps.getD 16 undef = .int .i64 x.x → tmps.getD 17 undef = .pointer (some ⟨qq, 0, none⟩) → n3 = (out.take j ++ out.drop (j + 1)).length → PlayI N T (2 + q1) (31000 + 10000 * i) (20 * i) (some ⟨rowC a8C l, el, true, none⟩) q3 l3 aF aH aG ao3 nF ws W free (out.take j ++ out.drop (j + 1)) ver H G →
          l3[qq]? = some (some { cells := [.int .i64 (free.headD 0 : Nat), .bool false, .int .u32 ver], elem := 78 }) →
          Goes OF Try.f7 (fun x => ∃ h1 S', x = .done (.bool true) h1 S') (.run todo tmps (heapJ l3 q3 []) (.mem ws bs :: (R ++ [.port 0 t 1]))))
        · intro inner2
          refine viaD ?_
          refine Goes.drawR [9] (by kernel_rfl) ?_
          by_cases j0 : j = 0
          · subst j0
            refine via ?_
            (refine RG.app0 (by first | exact heapL_low _ | exact gap_low _ _ _) rfl rfl rfl rfl rfl (fun h => app_keep appT_int (Nat.le_refl _)) fun K hK => ?_; simp (disch := (first | omega | (simp only [sz] <;> omega) | fail)) only [go_sem]; with_reducible refine hK _ _ ?_; clear hK K)
            by_cases hze : 0 + 1 = out.length
            · refine via ?_
              (refine RG.endN (by first | exact heapL_low _ | exact gap_low _ _ _) rfl rfl rfl rfl rfl (by first | exact heapL_lim rfl | (exact gap_lim (by simp only [sz]; omega))) (slice_end appT_int.sl appT_int.sz (by omega) (by omega) (vis_low (b := ⟨numRow .i64 (ints out), 3, false, some 1⟩) (by rw [gap_next]; simp only [List.length_nil]; omega) (hkg _)) (by simp)) fun K hK => ?_; simp (disch := (first | omega | (simp only [sz] <;> omega) | fail)) only [go_sem]; with_reducible refine hK _ _ ?_; clear hK K)
              (refine RG.appE rfl rfl rfl rfl rfl (app_keep appT_int (Nat.le_refl _)) (by simp (disch := (first | omega | (simp only [sz] <;> omega) | fail)) only [go_sem]; (try simp only [sz]); unfold VB; omega) fun K hK => ?_; simp (disch := (first | omega | (simp only [sz] <;> omega) | fail)) only [go_sem]; with_reducible refine hK _ _ ?_; clear hK K)
              repeat ((first | refine qv1 rfl rfl rfl fun K hK => ?_ | refine qv3 rfl rfl rfl fun K hK => ?_ | refine qv2 rfl rfl rfl rfl rfl rfl fun K hK => ?_ | refine qv4 rfl rfl rfl rfl rfl rfl fun K hK => ?_); simp (disch := (first | omega | (simp only [sz] <;> omega) | fail)) only [go_sem]; with_reducible refine hK _ _ ?_; clear hK K)
              (first | refine At.nil rfl ?_ | refine RG.nil rfl ?_)
              refine Goes.folds hlen' fun l3 hl3 hge3 hrow3 => ?_
              simp only [List.length_cons, List.length_nil] at hl3
              exact inner2 _ _ l3 (some ⟨qq + 1 + 0, 0, none⟩) _ rfl rfl rfl rfl rfl rfl rfl rfl rfl rfl rfl rfl (by omega) (hIw.drop.outs (Bq' := 31000 + 10000 * i) hge3 (by simp only [List.length_cons, List.length_nil]; omega) (by simp only [List.length_cons, List.length_nil]; omega) (by omega) (.inl ⟨List.eq_nil_of_length_eq_zero (by rw [hcl]; omega), .inr ⟨qq + 1 + 0, rfl, hrow3 0⟩⟩) hnd3 hrng3) (hge3 _ _ hw)
            · refine via ?_
              (refine RG.appE rfl rfl rfl rfl rfl (app_new appT_int cellsA_zero (cells_mid hlen' hno hbo (by simp only [numRow_len, ints_len]; omega) (by omega)) (by omega) (by omega) (fun x hx => by cases hx; exact ⟨_, gap_hi0, rfl⟩)) (by simp (disch := (first | omega | (simp only [sz] <;> omega) | fail)) only [go_sem]; (try simp only [sz]); unfold VB; omega) fun K hK => ?_; simp (disch := (first | omega | (simp only [sz] <;> omega) | fail)) only [go_sem]; with_reducible refine hK _ _ ?_; clear hK K)
              repeat ((first | refine qv1 rfl rfl rfl fun K hK => ?_ | refine qv3 rfl rfl rfl fun K hK => ?_ | refine qv2 rfl rfl rfl rfl rfl rfl fun K hK => ?_ | refine qv4 rfl rfl rfl rfl rfl rfl fun K hK => ?_); simp (disch := (first | omega | (simp only [sz] <;> omega) | fail)) only [go_sem]; with_reducible refine hK _ _ ?_; clear hK K)
              (first | refine At.nil rfl ?_ | refine RG.nil rfl ?_)
              refine Goes.folds hlen' fun l3 hl3 hge3 hrow3 => ?_
              simp only [List.length_cons, List.length_nil] at hl3
              exact inner2 _ _ l3 (some ⟨qq + 1 + 1, 0, none⟩) _ rfl rfl rfl rfl rfl rfl rfl rfl rfl rfl rfl rfl (by omega) (hIw.drop.outs (Bq' := 31000 + 10000 * i) hge3 (by simp only [List.length_cons, List.length_nil]; omega) (by simp only [List.length_cons, List.length_nil]; omega) (by omega) (.inr ⟨qq + 1 + 1, rfl, fun e => by rw [e] at hcl; simp only [List.length_nil] at hcl; omega, (hrow3 1).trans (by simp only [List.getElem?_cons_succ, List.getElem?_cons_zero]; rw [row_drop (by omega)]; first | rfl | simp)⟩) hnd3 hrng3) (hge3 _ _ hw)
          · refine via ?_
            (refine RG.appN (by first | exact heapL_low _ | exact gap_low _ _ _) rfl rfl rfl rfl rfl (by first | exact heapL_lim rfl | (exact gap_lim (by simp only [sz]; omega))) (appN_new appT_int cellsA_zero (cells_vist hlen' hno hbo (by rw [gap_next]; simp only [List.length_nil]; omega) (by simp only [numRow_len, ints_len]; omega) j0) (by omega) (by omega) (fun x hx => by cases hx; exact ⟨_, vis_born (j := 0) (by simp [gap_next]) (by kernel_rfl) gap_hi0, rfl⟩)) fun K hK => ?_; simp (disch := (first | omega | (simp only [sz] <;> omega) | fail)) only [go_sem]; with_reducible refine hK _ _ ?_; clear hK K)
            by_cases hze : j + 1 = out.length
            · refine via ?_
              (refine RG.endN (by first | exact heapL_low _ | exact gap_low _ _ _) rfl rfl rfl rfl rfl (by first | exact heapL_lim rfl | (exact gap_lim (by simp only [sz]; omega))) (slice_end appT_int.sl appT_int.sz (by omega) (by omega) (vis_low (b := ⟨numRow .i64 (ints out), 3, false, some 1⟩) (by rw [gap_next]; simp only [List.length_nil]; omega) (hkg _)) (by simp)) fun K hK => ?_; simp (disch := (first | omega | (simp only [sz] <;> omega) | fail)) only [go_sem]; with_reducible refine hK _ _ ?_; clear hK K)
              (refine RG.appE rfl rfl rfl rfl rfl (app_keep appT_int (Nat.le_refl _)) (by simp (disch := (first | omega | (simp only [sz] <;> omega) | fail)) only [go_sem]; (try simp only [sz]); unfold VB; omega) fun K hK => ?_; simp (disch := (first | omega | (simp only [sz] <;> omega) | fail)) only [go_sem]; with_reducible refine hK _ _ ?_; clear hK K)
              repeat ((first | refine qv1 rfl rfl rfl fun K hK => ?_ | refine qv3 rfl rfl rfl fun K hK => ?_ | refine qv2 rfl rfl rfl rfl rfl rfl fun K hK => ?_ | refine qv4 rfl rfl rfl rfl rfl rfl fun K hK => ?_); simp (disch := (first | omega | (simp only [sz] <;> omega) | fail)) only [go_sem]; with_reducible refine hK _ _ ?_; clear hK K)
              (first | refine At.nil rfl ?_ | refine RG.nil rfl ?_)
              refine Goes.folds hlen' fun l3 hl3 hge3 hrow3 => ?_
              simp only [List.length_cons, List.length_nil] at hl3
              exact inner2 _ _ l3 (some ⟨qq + 1 + 1, 0, none⟩) _ rfl rfl rfl rfl rfl rfl rfl rfl rfl rfl rfl rfl (by omega) (hIw.drop.outs (Bq' := 31000 + 10000 * i) hge3 (by simp only [List.length_cons, List.length_nil]; omega) (by simp only [List.length_cons, List.length_nil]; omega) (by omega) (.inr ⟨qq + 1 + 1, rfl, fun e => by rw [e] at hcl; simp only [List.length_nil] at hcl; omega, (hrow3 1).trans (by simp only [List.getElem?_cons_succ, List.getElem?_cons_zero]; rw [row_take, List.drop_eq_nil_of_le (by omega), List.append_nil])⟩) hnd3 hrng3) (hge3 _ _ hw)
            · refine via ?_
              (refine RG.appE rfl rfl rfl rfl rfl (app_grow appT_int (gap_hi (i := 1)) rfl rfl (by (try rw [List.nil_append]); simp only [List.length_take, numRow_len, ints_len]; omega) (cells_mid hlen' hno hbo (by simp only [numRow_len, ints_len]; omega) (by omega)) (by rw [row_drop (by omega)]; exact numRow_cellB _) (by omega) (by omega)) (by simp (disch := (first | omega | (simp only [sz] <;> omega) | fail)) only [go_sem]; (try simp only [sz]); unfold VB; omega) fun K hK => ?_; simp (disch := (first | omega | (simp only [sz] <;> omega) | fail)) only [go_sem]; with_reducible refine hK _ _ ?_; clear hK K)
              repeat ((first | refine qv1 rfl rfl rfl fun K hK => ?_ | refine qv3 rfl rfl rfl fun K hK => ?_ | refine qv2 rfl rfl rfl rfl rfl rfl fun K hK => ?_ | refine qv4 rfl rfl rfl rfl rfl rfl fun K hK => ?_); simp (disch := (first | omega | (simp only [sz] <;> omega) | fail)) only [go_sem]; with_reducible refine hK _ _ ?_; clear hK K)
              (first | refine At.nil rfl ?_ | refine RG.nil rfl ?_)
              refine Goes.folds hlen' fun l3 hl3 hge3 hrow3 => ?_
              simp only [List.length_cons, List.length_nil] at hl3
              exact inner2 _ _ l3 (some ⟨qq + 1 + 2, 0, none⟩) _ rfl rfl rfl rfl rfl rfl rfl rfl rfl rfl rfl rfl (by omega) (hIw.drop.outs (Bq' := 31000 + 10000 * i) hge3 (by simp only [List.length_cons, List.length_nil]; omega) (by simp only [List.length_cons, List.length_nil]; omega) (by omega) (.inr ⟨qq + 1 + 2, rfl, fun e => by rw [e] at hcl; simp only [List.length_nil] at hcl; omega, (hrow3 2).trans (by simp only [List.getElem?_cons_succ, List.getElem?_cons_zero]; rw [row_take, row_drop (by omega), numRow_app, ← ints_app, Nat.mul_one])⟩) hnd3 hrng3) (hge3 _ _ hw)
        rintro tmps q3 l3 ao3 n3 hl f2 f6 f7 f8 f9 f10 f11 f12 f13 f16 f17 hn3 hI3 hw3
        subst hn3
        obtain ⟨V, hV, hT⟩ := frame_lit hl; replace hT : _ = ([V 0, V 1, V 2, V 3, V 4, V 5, V 6, V 7, V 8, V 9, V 10, V 11, V 12, V 13, V 14, V 15, V 16, V 17, V 18, V 19, V 20, V 21, V 22, V 23, V 24, V 25, V 26, V 27, V 28, V 29, V 30, V 31, V 32, V 33, V 34, V 35, V 36, V 37, V 38, V 39, V 40, V 41, V 42, V 43, V 44, V 45, V 46, V 47, V 48, V 49, V 50, V 51, V 52, V 53, V 54, V 55, V 56, V 57, V 58, V 59, V 60, V 61, V 62, V 63, V 64, V 65, V 66, V 67, V 68, V 69, V 70, V 71, V 72, V 73, V 74, V 75, V 76, V 77, V 78, V 79, V 80, V 81, V 82, V 83, V 84, V 85, V 86, V 87, V 88, V 89, V 90, V 91, V 92, V 93, V 94, V 95, V 96, V 97, V 98, V 99, V 100, V 101, V 102, V 103, V 104, V 105, V 106, V 107, V 108, V 109, V 110, V 111, V 112, V 113, V 114, V 115, V 116, V 117, V 118, V 119, V 120, V 121, V 122, V 123, V 124, V 125, V 126, V 127, V 128, V 129, V 130, V 131, V 132, V 133, V 134, V 135, V 136, V 137, V 138, V 139, V 140, V 141, V 142, V 143, V 144, V 145, V 146, V 147, V 148, V 149, V 150, V 151, V 152, V 153, V 154, V 155, V 156, V 157, V 158, V 159, V 160, V 161, V 162, V 163, V 164, V 165, V 166, V 167, V 168, V 169, V 170, V 171, V 172, V 173, V 174, V 175, V 176, V 177, V 178, V 179, V 180, V 181, V 182, V 183, V 184, V 185, V 186, V 187, V 188, V 189, V 190, V 191, V 192, V 193, V 194, V 195, V 196, V 197, V 198, V 199, V 200, V 201, V 202, V 203, V 204, V 205, V 206, V 207, V 208, V 209, V 210, V 211, V 212, V 213, V 214, V 215, V 216, V 217, V 218, V 219, V 220, V 221, V 222, V 223, V 224, V 225, V 226, V 227, V 228, V 229, V 230, V 231, V 232, V 233, V 234, V 235, V 236, V 237, V 238, V 239, V 240, V 241, V 242, V 243, V 244, V 245, V 246, V 247, V 248, V 249, V 250, V 251, V 252, V 253, V 254, V 255, V 256, V 257, V 258, V 259, V 260, V 261, V 262, V 263, V 264, V 265, V 266, V 267, V 268, V 269, V 270, V 271, V 272, V 273, V 274, V 275, V 276, V 277, V 278, V 279, V 280, V 281, V 282, V 283, V 284, V 285, V 286, V 287, V 288, V 289, V 290, V 291, V 292, V 293, V 294, V 295, V 296, V 297, V 298, V 299, V 300, V 301, V 302, V 303, V 304, V 305, V 306, V 307, V 308, V 309, V 310, V 311, V 312, V 313, V 314, V 315, V 316, V 317, V 318, V 319, V 320, V 321, V 322, V 323, V 324, V 325, V 326, V 327, V 328, V 329, V 330, V 331, V 332, V 333, V 334, V 335, V 336, V 337, V 338, V 339, V 340, V 341, V 342, V 343, V 344, V 345, V 346, V 347, V 348, V 349, V 350, V 351, V 352, V 353, V 354, V 355, V 356, V 357, V 358, V 359, V 360, V 361, V 362, V 363, V 364, V 365, V 366, V 367, V 368, V 369, V 370, V 371, V 372, V 373, V 374, V 375, V 376, V 377] : List Value) := hT; rw [hV] at f2 f6 f7 f8 f9 f10 f11 f12 f13 f16 f17; subst hT; simp only [f2, f6, f7, f8, f9, f10, f11, f12, f13, f16, f17]; clear hV hl
        obtain ⟨_, hq3, hlen3, hrow3, hgeo3, hbox3, hF3, hH3, hG3, hO3, hA3, _, _, _, _, _, _⟩ := id hI3
        have hr3 := hrow3 _ rfl
        have hl3b := (List.getElem?_eq_some_iff.1 hbox3).1
        have hl30 : 0 < q3 := by omega
        have hl31 : 1 < q3 := by omega
        have hyr := hrng y (List.mem_of_getElem? hoj)
        have hyf : y ∉ free ++ flat T G := fun h => (List.nodup_cons.1 hnd2).1 (List.mem_append.2 (.inl h))
        refine viaF (And.intro hr3 (And.intro g0 hdm)) ?_
        refine viaF hgeo3 ?_
        have h17 : y - 1 < gsz N T 17 := by show y - 1 < gM N T; omega
        have hW3 := (hW.store hN1 (r := 17) (by decide) h17 (rU (free.headD 0) false 0)).cas4 hN1 (A := rU (free.headD 0) false ver) (by rw [up2_r (by decide)]; exact hP.top) (rU y false (ver + 1))
        have hgv := give_does (Ob.mem ws bs :: (R ++ [Ob.port 0 t 1])) (R.length + 1) 0 t 1 ws bs N T (ver := ver) (top := free.headD 0) (x := y) (hp0 _ _) (hm0 _ _) (by omega) hN1 (by omega) (by omega) hW (by omega) hP.top (hP.head (by omega)) hyr.1 hyr.2
        rw [hyx, hacc] at hgv
        ((first | refine qc1 rfl rfl fun K hK => ?_ | refine qc3 rfl rfl fun K hK => ?_); simp (disch := (first | omega | (simp only [sz] <;> omega) | fail)) only [go_sem]; refine ⟨_, _, hgv, ?_⟩; (try simp only [go_sem]); with_reducible refine hK _ _ ?_; clear hK K)
        refine viaF hbox3 ?_
        obtain ⟨v1, hh1, S1, ⟨rfl, l1, q2, aF1, rfl, rfl, hge1, hl1, hqa, hqc, hNF, _⟩, hd⟩ := rgive_does (Ob.mem (wS 3 (gat N T 4 0) (rU (free.headD 0) false ver) (rU y false (ver + 1)) (wS 2 (gat N T 17 ((y - 1 : Nat) : Int)) (rU (free.headD 0) false 0) 0 ws)) bs :: (R ++ [Ob.port 0 t 4])) (l := l3) (q := q3) (aF := aF) (aH := aH) (aG := aG) (nF := nF) (T := T) (F := ints free.reverse) (M := gM N T) (x := y) hlen3 (by omega) hF3 (by rw [ints_len, List.length_reverse]; omega) hyr.1 hyr.2 (by omega)
        rw [hyx] at hd
        rw [← ints_one, ← ints_app, ← List.reverse_cons] at hNF
        have hbox1 := hge1 _ _ hbox3
        have hw1 := hge1 _ _ hw3
        have hlq := (List.getElem?_eq_some_iff.1 hbox1).1
        unfold plV at hd
        ((first | refine qd1 rfl rfl fun K hK => ?_ | refine qd3 rfl rfl fun K hK => ?_); simp (disch := (first | omega | (simp only [sz] <;> omega) | fail)) only [go_sem]; (first | refine ⟨_, _, _, hd, ⟨by simp only [sz]; omega, by simp only [sz]; unfold VB; omega, by first | exact heapL_low _ | exact gap_low _ _ _⟩, ?_⟩ | refine ⟨_, _, _, hd, ?_⟩); (try simp only [go_sem]); with_reducible refine hK _ _ _ ?_; clear hK K)
        refine viaDF hbox1 ?_
        exact inner _ q2 _ aF1 aH aG ao3 (nF + 1) _ _ (y :: free) (out.take j ++ out.drop (j + 1)) (ver + 1) H G 4 rfl rfl rfl rfl rfl rfl rfl rfl rfl rfl rfl rfl (hI3.act (Bq' := 35000 + 10000 * i) (Bv' := 20 * i + 20) hge1 hl1 (by omega) hNF (hH3.ge hge1) (hG3.ge hge1) (hO3.ge hge1) (Inner.ge hH3 hA3 hge1) hW3 (hP.give hyr.1 hyr.2 hyf) hgl hnd2 hrng3 (by omega)) (by rw [List.getElem?_set_ne hqb]; exact hw1) (fun _ => by omega) (by omega)
    · obtain ⟨nn, hnn, hn⟩ := and15 x.x
      obtain ⟨a, ha1, ha2⟩ := head13 (T := T) hN1 hT1
      have hGH := fun S => gHeadN S N T 0 0 (by omega) (by omega) (by omega) (by omega)
      rw [ha2] at hGH
      have h13 : 0 * 4 + 0 < gsz N T 13 := by show 0 * 4 + 0 < T * 4; omega
      have hW2 := hW.store hN1 (r := 13) (by decide) h13 (rU nn false 9)
      rw [ha2] at hW2
      have hP2 := hP.other (W' := up2 W 13 (0 * 4 + 0) (rU nn false 9)) fun r n h => up2_r (by omega)
      refine viaF (And.intro hn hgeo) ?_
      ((first | refine qc1 rfl rfl fun K hK => ?_ | refine qc3 rfl rfl fun K hK => ?_); simp (disch := (first | omega | (simp only [sz] <;> omega) | fail)) only [go_sem]; refine ⟨_, _, hGH _, ?_⟩; (try simp only [go_sem]); with_reducible refine hK _ _ ?_; clear hK K)
      refine via ?_
      ((first | refine qc1 rfl rfl fun K hK => ?_ | refine qc3 rfl rfl fun K hK => ?_); simp (disch := (first | omega | (simp only [sz] <;> omega) | fail)) only [go_sem]; refine ⟨_, _, rWord_rU (i := nn) (v := 9) (m := false) _ (by omega) (by omega), ?_⟩; (try simp only [go_sem]); with_reducible refine hK _ _ ?_; clear hK K)
      refine via ?_
      ((first | refine qp1 rfl rfl fun K hK => ?_ | refine qp3 rfl rfl fun K hK => ?_); simp (disch := (first | omega | (simp only [sz] <;> omega) | fail)) only [go_sem]; refine ⟨_, _, .store _ (rU nn false 9) (hp0 _ _) (hm0 _ _) (by omega), ?_⟩; (try simp only [go_sem]); with_reducible refine hK _ _ ?_; clear hK K)
      rw [hacc]
      by_cases hs : x.s = 0 ∨ x.s = 1
      · obtain ⟨s, hs2, hsx⟩ : ∃ s : Nat, s < 2 ∧ x.s = s := by
          rcases hs with h | h
          · exact ⟨0, by omega, by omega⟩
          · exact ⟨1, by omega, by omega⟩
        rw [hsx] at g2
        refine viaF (And.intro hgeo (And.intro hr0 g2)) ?_
        ((first | refine qc1 rfl rfl fun K hK => ?_ | refine qc3 rfl rfl fun K hK => ?_); simp (disch := (first | omega | (simp only [sz] <;> omega) | fail)) only [go_sem]; refine ⟨_, _, hGH _, ?_⟩; (try simp only [go_sem]); with_reducible refine hK _ _ ?_; clear hK K)
        refine via ?_
        obtain ⟨hu1, hu2, hu3⟩ := rU_parts (i := nn) (v := 9) (m := false) (by omega) (by omega)
        have hu4 : wAt (wS 2 (a : Int) (rU nn false 9) 0 ws) (a : Int) = some (rU nn false 9) := by
          have h9 := hW2 13 (0 * 4 + 0) (by decide) h13
          rw [ha2, up2_eq] at h9; exact h9
        have h14 : t * 2 + s < gsz N T 14 := by show t * 2 + s < T * 2; omega
        have hW3 := hW2.store hN1 (r := 14) (by decide) h14 (UInt64.ofNat nn)
        have hu5 : wAt (wS 2 (gat N T 14 ((t * 2 + s : Nat) : Int)) (UInt64.ofNat nn) 0 (wS 2 (a : Int) (rU nn false 9) 0 ws)) (a : Int) = some (rU nn false 9) := by
          have h9 := hW3 13 (0 * 4 + 0) (by decide) h13
          rw [ha2, up2_r (by decide), up2_eq] at h9; exact h9
        ((first | refine qc1 rfl rfl fun K hK => ?_ | refine qc3 rfl rfl fun K hK => ?_); simp (disch := (first | omega | (simp only [sz] <;> omega) | fail)) only [go_sem]; refine ⟨_, _, protect_at _ _ 0 t 2 _ bs N T s a nn 9 false (rU nn false 9) (hp0 _ _) (hm0 _ _) (by omega) hN1 (by omega) (by omega) htT hs2 ha1 hu1.symm hu2.symm hu3.symm hu4 hu5, ?_⟩; (try simp only [go_sem]); with_reducible refine hK _ _ ?_; clear hK K)
        rw [hacc]
        unfold refV
        obtain rfl | rfl : s = 0 ∨ s = 1 := by omega
        · refine viaDF (And.intro hr0 g2) ?_
          refine Goes.folds hlen' fun l3 hl3 hge3 hrow3 => ?_
          simp only [List.length_cons, List.length_nil, Nat.zero_add, Nat.reduceAdd] at hl3 ⊢
          have hI3 := hIw.ge (Bq' := 31000 + 10000 * i) (q' := qq + 1 + 2) hge3 (by omega) (by omega) (Nat.le_refl _)
          obtain ⟨_, hq3, hlen3, hrow3', hgeo3, hbox3, hF3, hH3, hG3, hO3, hA3, _⟩ := id hI3
          have hr3 := hrow3' _ rfl
          have hw3 := hge3 _ _ hw
          have hl3b := (List.getElem?_eq_some_iff.1 hbox3).1
          have hl30 : 0 < qq + 1 + 2 := by omega
          have hl31 : 1 < qq + 1 + 2 := by omega
          refine Goes.drawR [9] (by kernel_rfl) ?_
          refine viaF (And.intro hbox3 (And.intro hr3 (And.intro g2 hn))) ?_
          obtain ⟨v1, hh1, S1, ⟨rfl, l1, q2, aH1, rfl, rfl, hge1, hl1, hqa, hqc, hNH, hQ⟩, hd⟩ := rprot_does (Ob.mem (wS 2 (gat N T 14 ((t * 2 + 0 : Nat) : Int)) (UInt64.ofNat nn) 0 (wS 2 (a : Int) (rU nn false 9) 0 ws)) bs :: (R ++ [Ob.port 0 t 5])) (l := l3) (q := qq + 1 + 2) (aF := aF) (aH := aH) (aG := aG) (nF := nF) (T := T) (M := gM N T) (t := t) (s := 0) (x := nn) hlen3 (by omega) hH3 (hzs_len _ _) (by omega) htT hs2 (by omega) (hzs_get H htT)
          rw [hzs_up H hs2] at hNH
          have hbox1 := hge1 _ _ hbox3
          have hw1 := hge1 _ _ hw3
          have hlq := (List.getElem?_eq_some_iff.1 hbox1).1
          unfold plV at hd
          ((first | refine qd1 rfl rfl fun K hK => ?_ | refine qd3 rfl rfl fun K hK => ?_); simp (disch := (first | omega | (simp only [sz] <;> omega) | fail)) only [go_sem]; (first | refine ⟨_, _, _, hd, ⟨by simp only [sz]; omega, by simp only [sz]; unfold VB; omega, by first | exact heapL_low _ | exact gap_low _ _ _⟩, ?_⟩ | refine ⟨_, _, _, hd, ?_⟩); (try simp only [go_sem]); with_reducible refine hK _ _ _ ?_; clear hK K)
          refine viaDF hbox1 ?_
          exact inner _ q2 _ aF aH1 aG ao nF _ (up2 (up2 W 13 (0 * 4 + 0) (rU nn false 9)) 14 (t * 2 + 0) (UInt64.ofNat nn)) free out ver (upH H t 0 nn) G 5 rfl rfl rfl rfl rfl rfl rfl rfl rfl rfl rfl rfl (hI3.act (Bq' := 35000 + 10000 * i) (Bv' := 20 * i + 20) hge1 hl1 (by omega) (hF3.ge hge1) hNH (hG3.ge hge1) (hO3.ge hge1) (hQ _ (fun m hm => .inr (Ne.symm (hO3.isN.ne (by omega)))) hA3) hW3 (hP2.hazard hs2 (by omega)) hgl hnd hrng (by omega)) (by rw [List.getElem?_set_ne hqb]; exact hw1) (fun h => absurd rfl h) (by omega)
        · refine viaDF (And.intro hr0 g2) ?_
          refine Goes.folds hlen' fun l3 hl3 hge3 hrow3 => ?_
          simp only [List.length_cons, List.length_nil, Nat.zero_add, Nat.reduceAdd] at hl3 ⊢
          have hI3 := hIw.ge (Bq' := 31000 + 10000 * i) (q' := qq + 1 + 2) hge3 (by omega) (by omega) (Nat.le_refl _)
          obtain ⟨_, hq3, hlen3, hrow3', hgeo3, hbox3, hF3, hH3, hG3, hO3, hA3, _⟩ := id hI3
          have hr3 := hrow3' _ rfl
          have hw3 := hge3 _ _ hw
          have hl3b := (List.getElem?_eq_some_iff.1 hbox3).1
          have hl30 : 0 < qq + 1 + 2 := by omega
          have hl31 : 1 < qq + 1 + 2 := by omega
          refine Goes.drawR [9] (by kernel_rfl) ?_
          refine viaF (And.intro hbox3 (And.intro hr3 (And.intro g2 hn))) ?_
          obtain ⟨v1, hh1, S1, ⟨rfl, l1, q2, aH1, rfl, rfl, hge1, hl1, hqa, hqc, hNH, hQ⟩, hd⟩ := rprot_does (Ob.mem (wS 2 (gat N T 14 ((t * 2 + 1 : Nat) : Int)) (UInt64.ofNat nn) 0 (wS 2 (a : Int) (rU nn false 9) 0 ws)) bs :: (R ++ [Ob.port 0 t 5])) (l := l3) (q := qq + 1 + 2) (aF := aF) (aH := aH) (aG := aG) (nF := nF) (T := T) (M := gM N T) (t := t) (s := 1) (x := nn) hlen3 (by omega) hH3 (hzs_len _ _) (by omega) htT hs2 (by omega) (hzs_get H htT)
          rw [hzs_up H hs2] at hNH
          have hbox1 := hge1 _ _ hbox3
          have hw1 := hge1 _ _ hw3
          have hlq := (List.getElem?_eq_some_iff.1 hbox1).1
          unfold plV at hd
          ((first | refine qd1 rfl rfl fun K hK => ?_ | refine qd3 rfl rfl fun K hK => ?_); simp (disch := (first | omega | (simp only [sz] <;> omega) | fail)) only [go_sem]; (first | refine ⟨_, _, _, hd, ⟨by simp only [sz]; omega, by simp only [sz]; unfold VB; omega, by first | exact heapL_low _ | exact gap_low _ _ _⟩, ?_⟩ | refine ⟨_, _, _, hd, ?_⟩); (try simp only [go_sem]); with_reducible refine hK _ _ _ ?_; clear hK K)
          refine viaDF hbox1 ?_
          exact inner _ q2 _ aF aH1 aG ao nF _ (up2 (up2 W 13 (0 * 4 + 0) (rU nn false 9)) 14 (t * 2 + 1) (UInt64.ofNat nn)) free out ver (upH H t 1 nn) G 5 rfl rfl rfl rfl rfl rfl rfl rfl rfl rfl rfl rfl (hI3.act (Bq' := 35000 + 10000 * i) (Bv' := 20 * i + 20) hge1 hl1 (by omega) (hF3.ge hge1) hNH (hG3.ge hge1) (hO3.ge hge1) (hQ _ (fun m hm => .inr (Ne.symm (hO3.isN.ne (by omega)))) hA3) hW3 (hP2.hazard hs2 (by omega)) hgl hnd hrng (by omega)) (by rw [List.getElem?_set_ne hqb]; exact hw1) (fun h => absurd rfl h) (by omega)
      · refine viaF (And.intro hgeo (And.intro hr0 g2)) ?_
        ((first | refine qc1 rfl rfl fun K hK => ?_ | refine qc3 rfl rfl fun K hK => ?_); simp (disch := (first | omega | (simp only [sz] <;> omega) | fail)) only [go_sem]; refine ⟨_, _, hGH _, ?_⟩; (try simp only [go_sem]); with_reducible refine hK _ _ ?_; clear hK K)
        refine via ?_
        ((first | refine qc1 rfl rfl fun K hK => ?_ | refine qc3 rfl rfl fun K hK => ?_); simp (disch := (first | omega | (simp only [sz] <;> omega) | fail)) only [go_sem]; refine ⟨_, _, protect_none _ _ 0 t 2 N T x.s a (hp0 _ _) hN1 (by omega) (by omega) (by omega) (by omega), ?_⟩; (try simp only [go_sem]); with_reducible refine hK _ _ ?_; clear hK K)
        unfold refV
        refine viaDF (And.intro hr0 g2) ?_
        refine Goes.folds hlen' fun l3 hl3 hge3 hrow3 => ?_
        simp only [List.length_cons, List.length_nil, Nat.zero_add, Nat.reduceAdd] at hl3 ⊢
        have hI3 := hIw.ge (Bq' := 31000 + 10000 * i) (q' := qq + 1 + 2) hge3 (by omega) (by omega) (Nat.le_refl _)
        obtain ⟨_, hq3, hlen3, hrow3', hgeo3, hbox3, hF3, hH3, hG3, hO3, hA3, _⟩ := id hI3
        have hr3 := hrow3' _ rfl
        have hw3 := hge3 _ _ hw
        have hl3b := (List.getElem?_eq_some_iff.1 hbox3).1
        have hl30 : 0 < qq + 1 + 2 := by omega
        have hl31 : 1 < qq + 1 + 2 := by omega
        refine Goes.drawR [9] (by kernel_rfl) ?_
        refine viaF (And.intro hbox3 (And.intro hr3 (And.intro g2 hn))) ?_
        obtain ⟨v1, hh1, S1, ⟨rfl, l1, q2, rfl, rfl, hge1, hl1, hqa, hqc⟩, hd⟩ := rprot_none (Ob.mem (wS 2 (a : Int) (rU nn false 9) 0 ws) bs :: (R ++ [Ob.port 0 t 2])) (l := l3) (q := qq + 1 + 2) (aF := aF) (aH := aH) (aG := aG) (nF := nF) (T := T) (M := gM N T) (t := (t : Int)) (s := x.s) (x := (nn : Int)) hlen3 (by omega) (by omega)
        have hbox1 := hge1 _ _ hbox3
        have hw1 := hge1 _ _ hw3
        have hlq := (List.getElem?_eq_some_iff.1 hbox1).1
        unfold plV at hd
        ((first | refine qd1 rfl rfl fun K hK => ?_ | refine qd3 rfl rfl fun K hK => ?_); simp (disch := (first | omega | (simp only [sz] <;> omega) | fail)) only [go_sem]; (first | refine ⟨_, _, _, hd, ⟨by simp only [sz]; omega, by simp only [sz]; unfold VB; omega, by first | exact heapL_low _ | exact gap_low _ _ _⟩, ?_⟩ | refine ⟨_, _, _, hd, ?_⟩); (try simp only [go_sem]); with_reducible refine hK _ _ _ ?_; clear hK K)
        refine viaDF hbox1 ?_
        exact inner _ q2 _ aF aH aG ao nF _ (up2 W 13 (0 * 4 + 0) (rU nn false 9)) free out ver H G 2 rfl rfl rfl rfl rfl rfl rfl rfl rfl rfl rfl rfl (hI3.act (Bq' := 35000 + 10000 * i) (Bv' := 20 * i + 20) hge1 hl1 (by omega) (hF3.ge hge1) (hH3.ge hge1) (hG3.ge hge1) (hO3.ge hge1) (Inner.ge hH3 hA3 hge1) hW2 hP2 hgl hnd hrng (by omega)) (by rw [List.getElem?_set_ne hqb]; exact hw1) (fun h => absurd rfl h) (by omega)
    · by_cases hs : x.s = 0 ∨ x.s = 1
      · obtain ⟨s, hs2, hsx⟩ : ∃ s : Nat, s < 2 ∧ x.s = s := by
          rcases hs with h | h
          · exact ⟨0, by omega, by omega⟩
          · exact ⟨1, by omega, by omega⟩
        rw [hsx] at g2
        have h14 : t * 2 + s < gsz N T 14 := by show t * 2 + s < T * 2; omega
        refine viaF (And.intro hgeo (And.intro hr0 g2)) ?_
        ((first | refine qc1 rfl rfl fun K hK => ?_ | refine qc3 rfl rfl fun K hK => ?_); simp (disch := (first | omega | (simp only [sz] <;> omega) | fail)) only [go_sem]; refine ⟨_, _, clear_does _ _ 0 t 1 ws bs N T s (hp0 _ _) (hm0 _ _) (by omega) hN1 (by omega) (by omega) htT hs2, ?_⟩; (try simp only [go_sem]); with_reducible refine hK _ _ ?_; clear hK K)
        rw [hacc]
        refine viaD ?_
        refine Goes.drawR [7] (by kernel_rfl) ?_
        refine viaF (And.intro hbox (And.intro hr0 g2)) ?_
        obtain ⟨v1, hh1, S1, ⟨rfl, l1, q2, aH1, rfl, rfl, hge1, hl1, hqa, hqc, hNH, hQ⟩, hd⟩ := rprot_does (Ob.mem (wS 2 (gat N T 14 ((t * 2 + s : Nat) : Int)) 0 0 ws) bs :: (R ++ [Ob.port 0 t 2])) (l := lw) (q := qq + 1) (aF := aF) (aH := aH) (aG := aG) (nF := nF) (T := T) (M := gM N T) (t := t) (s := s) (x := 0) hlen' (by omega) hH (hzs_len _ _) (by omega) htT hs2 (by omega) (hzs_get H htT)
        rw [hzs_up H hs2] at hNH
        have hbox1 := hge1 _ _ hbox
        have hw1 := hge1 _ _ hw
        have hlq := (List.getElem?_eq_some_iff.1 hbox1).1
        unfold plV at hd
        ((first | refine qd1 rfl rfl fun K hK => ?_ | refine qd3 rfl rfl fun K hK => ?_); simp (disch := (first | omega | (simp only [sz] <;> omega) | fail)) only [go_sem]; (first | refine ⟨_, _, _, hd, ⟨by simp only [sz]; omega, by simp only [sz]; unfold VB; omega, by first | exact heapL_low _ | exact gap_low _ _ _⟩, ?_⟩ | refine ⟨_, _, _, hd, ?_⟩); (try simp only [go_sem]); with_reducible refine hK _ _ _ ?_; clear hK K)
        refine viaDF hbox1 ?_
        exact inner _ q2 _ aF aH1 aG ao nF _ (up2 W 14 (t * 2 + s) (UInt64.ofNat 0)) free out ver (upH H t s 0) G 2 rfl rfl rfl rfl rfl rfl rfl rfl rfl rfl rfl rfl (hIw.act (Bq' := 35000 + 10000 * i) (Bv' := 20 * i + 20) hge1 hl1 (by omega) (hF.ge hge1) hNH (hG.ge hge1) (hO.ge hge1) (hQ _ (fun m hm => .inr (Ne.symm (hO.isN.ne (by omega)))) hA) (hW.store hN1 (by decide) h14 0) (hP.hazard hs2 (by omega)) hgl hnd hrng (by omega)) (by rw [List.getElem?_set_ne hqb]; exact hw1) (fun h => absurd rfl h) (by omega)
      · refine viaF (And.intro hgeo (And.intro hr0 g2)) ?_
        ((first | refine qc1 rfl rfl fun K hK => ?_ | refine qc3 rfl rfl fun K hK => ?_); simp (disch := (first | omega | (simp only [sz] <;> omega) | fail)) only [go_sem]; refine ⟨_, _, clear_none _ _ 0 t 1 N T x.s (hp0 _ _) hN1 (by omega) (by omega) (by omega) (by omega), ?_⟩; (try simp only [go_sem]); with_reducible refine hK _ _ ?_; clear hK K)
        refine viaD ?_
        refine Goes.drawR [7] (by kernel_rfl) ?_
        refine viaF (And.intro hbox (And.intro hr0 g2)) ?_
        obtain ⟨v1, hh1, S1, ⟨rfl, l1, q2, rfl, rfl, hge1, hl1, hqa, hqc⟩, hd⟩ := rprot_none (Ob.mem ws bs :: (R ++ [Ob.port 0 t 1])) (l := lw) (q := qq + 1) (aF := aF) (aH := aH) (aG := aG) (nF := nF) (T := T) (M := gM N T) (t := (t : Int)) (s := x.s) (x := 0) hlen' (by omega) (by omega)
        have hbox1 := hge1 _ _ hbox
        have hw1 := hge1 _ _ hw
        have hlq := (List.getElem?_eq_some_iff.1 hbox1).1
        unfold plV at hd
        ((first | refine qd1 rfl rfl fun K hK => ?_ | refine qd3 rfl rfl fun K hK => ?_); simp (disch := (first | omega | (simp only [sz] <;> omega) | fail)) only [go_sem]; (first | refine ⟨_, _, _, hd, ⟨by simp only [sz]; omega, by simp only [sz]; unfold VB; omega, by first | exact heapL_low _ | exact gap_low _ _ _⟩, ?_⟩ | refine ⟨_, _, _, hd, ?_⟩); (try simp only [go_sem]); with_reducible refine hK _ _ _ ?_; clear hK K)
        refine viaDF hbox1 ?_
        exact inner _ q2 _ aF aH aG ao nF ws W free out ver H G 1 rfl rfl rfl rfl rfl rfl rfl rfl rfl rfl rfl rfl (hIw.act (Bq' := 35000 + 10000 * i) (Bv' := 20 * i + 20) hge1 hl1 (by omega) (hF.ge hge1) (hH.ge hge1) (hG.ge hge1) (hO.ge hge1) (Inner.ge hH hA hge1) hW hP hgl hnd hrng (by omega)) (by rw [List.getElem?_set_ne hqb]; exact hw1) (fun h => absurd rfl h) (by omega)
    · rcases hhas with ⟨rfl, hno⟩ | ⟨j, y, hj, rfl, hoj, hyx⟩
      · by_cases hr : 1 ≤ x.x ∧ x.x ≤ gM N T
        · refine viaF hgeo ?_
          ((first | refine qp1 rfl rfl fun K hK => ?_ | refine qp3 rfl rfl fun K hK => ?_); simp (disch := (first | omega | (simp only [sz] <;> omega) | fail)) only [go_sem]; refine ⟨_, _, qpu fun w => gNodes_any N T w hN1 (by omega) (by omega), ?_⟩; (try simp only [go_sem]); with_reducible refine hK _ _ ?_; clear hK K)
          refine via ?_
          exact ih _ _ _ _ (by omega) ⟨i + 1, qq + 1, lw, aF, aH, aG, ao, nF, ws, W, free, out, ver, H, G, R ++ [.port 0 t 1], rfl, by omega, hIw.ge (Ge.refl _) hlen' (by omega) (by omega), rfl, rfl, rfl, rfl, rfl, rfl, rfl, rfl, rfl, by push_cast; rfl⟩
        · by_cases h1 : x.x < 1
          · refine viaF (And.intro hr0 (And.intro g0 hdm)) ?_
            refine viaF hgeo ?_
            ((first | refine qc1 rfl rfl fun K hK => ?_ | refine qc3 rfl rfl fun K hK => ?_); simp (disch := (first | omega | (simp only [sz] <;> omega) | fail)) only [go_sem]; refine ⟨_, _, retire_none _ _ 0 t 1 N T x.x (hp0 _ _) hN1 (by omega) (by omega) hb5 hb6 hr, ?_⟩; (try simp only [go_sem]); with_reducible refine hK _ _ ?_; clear hK K)
            refine viaF hbox ?_
            obtain ⟨v1, hh1, S1, ⟨rfl, l1, q2, rfl, rfl, hge1, hl1, hqa, hqc⟩, hd⟩ := rret_none (Ob.mem ws bs :: (R ++ [Ob.port 0 t 1])) (l := lw) (q := qq + 1) (aF := aF) (aH := aH) (aG := aG) (nF := nF) (T := T) (M := gM N T) (t := (t : Int)) (x := x.x) hlen' (by omega) hr
            have hbox1 := hge1 _ _ hbox
            have hw1 := hge1 _ _ hw
            have hlq := (List.getElem?_eq_some_iff.1 hbox1).1
            unfold plV at hd
            ((first | refine qd1 rfl rfl fun K hK => ?_ | refine qd3 rfl rfl fun K hK => ?_); simp (disch := (first | omega | (simp only [sz] <;> omega) | fail)) only [go_sem]; (first | refine ⟨_, _, _, hd, ⟨by simp only [sz]; omega, by simp only [sz]; unfold VB; omega, by first | exact heapL_low _ | exact gap_low _ _ _⟩, ?_⟩ | refine ⟨_, _, _, hd, ?_⟩); (try simp only [go_sem]); with_reducible refine hK _ _ _ ?_; clear hK K)
            refine viaDF hbox1 ?_
            exact inner _ q2 _ aF aH aG ao nF ws W free out ver H G 1 rfl rfl rfl rfl rfl rfl rfl rfl rfl rfl rfl rfl (hIw.act (Bq' := 35000 + 10000 * i) (Bv' := 20 * i + 20) hge1 hl1 (by omega) (hF.ge hge1) (hH.ge hge1) (hG.ge hge1) (hO.ge hge1) (Inner.ge hH hA hge1) hW hP hgl hnd hrng (by omega)) (by rw [List.getElem?_set_ne hqb]; exact hw1) (fun h => absurd rfl h) (by omega)
          · refine viaF hgeo ?_
            ((first | refine qp1 rfl rfl fun K hK => ?_ | refine qp3 rfl rfl fun K hK => ?_); simp (disch := (first | omega | (simp only [sz] <;> omega) | fail)) only [go_sem]; refine ⟨_, _, qpu fun w => gNodes_any N T w hN1 (by omega) (by omega), ?_⟩; (try simp only [go_sem]); with_reducible refine hK _ _ ?_; clear hK K)
            refine viaF (And.intro hr0 (And.intro g0 hdm)) ?_
            refine viaF hgeo ?_
            ((first | refine qc1 rfl rfl fun K hK => ?_ | refine qc3 rfl rfl fun K hK => ?_); simp (disch := (first | omega | (simp only [sz] <;> omega) | fail)) only [go_sem]; refine ⟨_, _, retire_none _ _ 0 t 1 N T x.x (hp0 _ _) hN1 (by omega) (by omega) hb5 hb6 hr, ?_⟩; (try simp only [go_sem]); with_reducible refine hK _ _ ?_; clear hK K)
            refine viaF hbox ?_
            obtain ⟨v1, hh1, S1, ⟨rfl, l1, q2, rfl, rfl, hge1, hl1, hqa, hqc⟩, hd⟩ := rret_none (Ob.mem ws bs :: (R ++ [Ob.port 0 t 1])) (l := lw) (q := qq + 1) (aF := aF) (aH := aH) (aG := aG) (nF := nF) (T := T) (M := gM N T) (t := (t : Int)) (x := x.x) hlen' (by omega) hr
            have hbox1 := hge1 _ _ hbox
            have hw1 := hge1 _ _ hw
            have hlq := (List.getElem?_eq_some_iff.1 hbox1).1
            unfold plV at hd
            ((first | refine qd1 rfl rfl fun K hK => ?_ | refine qd3 rfl rfl fun K hK => ?_); simp (disch := (first | omega | (simp only [sz] <;> omega) | fail)) only [go_sem]; (first | refine ⟨_, _, _, hd, ⟨by simp only [sz]; omega, by simp only [sz]; unfold VB; omega, by first | exact heapL_low _ | exact gap_low _ _ _⟩, ?_⟩ | refine ⟨_, _, _, hd, ?_⟩); (try simp only [go_sem]); with_reducible refine hK _ _ _ ?_; clear hK K)
            refine viaDF hbox1 ?_
            exact inner _ q2 _ aF aH aG ao nF ws W free out ver H G 1 rfl rfl rfl rfl rfl rfl rfl rfl rfl rfl rfl rfl (hIw.act (Bq' := 35000 + 10000 * i) (Bv' := 20 * i + 20) hge1 hl1 (by omega) (hF.ge hge1) (hH.ge hge1) (hG.ge hge1) (hO.ge hge1) (Inner.ge hH hA hge1) hW hP hgl hnd hrng (by omega)) (by rw [List.getElem?_set_ne hqb]; exact hw1) (fun h => absurd rfl h) (by omega)
      · rcases hO with ⟨rfl, _⟩ | ⟨no, rfl, hne, hbo⟩
        · simp at hoj
        have hno := (List.getElem?_eq_some_iff.1 hbo).1
        have hnd2 := cut_nd hoj hnd
        have hnd3 := (List.nodup_cons.1 hnd2).2
        have hrng3 : ∀ z ∈ (out.take j ++ out.drop (j + 1)), 1 ≤ z ∧ z ≤ gM N T := fun z hz => hrng z (cut_mem hz)
        have hcl := cut_len hj
        have hkg : ∀ ys, (heapJ lw (qq + 1) ys).get no = some ⟨numRow .i64 (ints out), 3, false, some 1⟩ := fun ys => by
          rw [gap_lo (by omega), hbo]; rfl
        apply share (P := fun todo : List Item => ∀ (tmps : List Value) (q3 : Nat) (l3 : List (Option Blk)) (ao3 : Option Addr) (n3 : Nat), tmps.length = 378 → tmps.getD 2 undef = .slice (some ⟨0, 0, none⟩) l.length c → tmps.getD 6 undef = .bool false → tmps.getD 7 undef = .pointer (some ⟨1, 0, none⟩) → tmps.getD 8 undef = hndV 0 → tmps.getD 9 undef = .pointer (some ⟨2 + q1, 0, none⟩) → tmps.getD 10 undef = .slice ao3 n3 n3 → tmps.getD 11 undef = .int .i64 i → tmps.getD 12 undef = .int .i64 t → tmps.getD 13 undef = hndV (R.length + 1) → tmps.getD 16 undef = .int .i64 x.x → tmps.getD 17 undef = .pointer (some ⟨qq, 0, none⟩) → n3 = (out.take j ++ out.drop (j + 1)).length → PlayI N T (2 + q1) (31000 + 10000 * i) (20 * i) (some ⟨rowC a8C l, el, true, none⟩) q3 l3 aF aH aG ao3 nF ws W free (out.take j ++ out.drop (j + 1)) ver H G →
          l3[qq]? = some (some { cells := [.int .i64 (free.headD 0 : Nat), .bool false, .int .u32 ver], elem := 78 }) →
          Goes OF Try.f7 (fun x => ∃ h1 S', x = .done (.bool true) h1 S') (.run todo tmps (heapJ l3 q3 []) (.mem ws bs :: (R ++ [.port 0 t 1]))))
        · intro inner2
          refine viaD ?_
          refine Goes.drawR [9] (by kernel_rfl) ?_
          by_cases j0 : j = 0
          · subst j0
            refine via ?_
            (refine RG.app0 (by first | exact heapL_low _ | exact gap_low _ _ _) rfl rfl rfl rfl rfl (fun h => app_keep appT_int (Nat.le_refl _)) fun K hK => ?_; simp (disch := (first | omega | (simp only [sz] <;> omega) | fail)) only [go_sem]; with_reducible refine hK _ _ ?_; clear hK K)
            by_cases hze : 0 + 1 = out.length
            · refine via ?_
              (refine RG.endN (by first | exact heapL_low _ | exact gap_low _ _ _) rfl rfl rfl rfl rfl (by first | exact heapL_lim rfl | (exact gap_lim (by simp only [sz]; omega))) (slice_end appT_int.sl appT_int.sz (by omega) (by omega) (vis_low (b := ⟨numRow .i64 (ints out), 3, false, some 1⟩) (by rw [gap_next]; simp only [List.length_nil]; omega) (hkg _)) (by simp)) fun K hK => ?_; simp (disch := (first | omega | (simp only [sz] <;> omega) | fail)) only [go_sem]; with_reducible refine hK _ _ ?_; clear hK K)
              (refine RG.appE rfl rfl rfl rfl rfl (app_keep appT_int (Nat.le_refl _)) (by simp (disch := (first | omega | (simp only [sz] <;> omega) | fail)) only [go_sem]; (try simp only [sz]); unfold VB; omega) fun K hK => ?_; simp (disch := (first | omega | (simp only [sz] <;> omega) | fail)) only [go_sem]; with_reducible refine hK _ _ ?_; clear hK K)
              repeat ((first | refine qv1 rfl rfl rfl fun K hK => ?_ | refine qv3 rfl rfl rfl fun K hK => ?_ | refine qv2 rfl rfl rfl rfl rfl rfl fun K hK => ?_ | refine qv4 rfl rfl rfl rfl rfl rfl fun K hK => ?_); simp (disch := (first | omega | (simp only [sz] <;> omega) | fail)) only [go_sem]; with_reducible refine hK _ _ ?_; clear hK K)
              (first | refine At.nil rfl ?_ | refine RG.nil rfl ?_)
              refine Goes.folds hlen' fun l3 hl3 hge3 hrow3 => ?_
              simp only [List.length_cons, List.length_nil] at hl3
              exact inner2 _ _ l3 (some ⟨qq + 1 + 0, 0, none⟩) _ rfl rfl rfl rfl rfl rfl rfl rfl rfl rfl rfl rfl (by omega) (hIw.drop.outs (Bq' := 31000 + 10000 * i) hge3 (by simp only [List.length_cons, List.length_nil]; omega) (by simp only [List.length_cons, List.length_nil]; omega) (by omega) (.inl ⟨List.eq_nil_of_length_eq_zero (by rw [hcl]; omega), .inr ⟨qq + 1 + 0, rfl, hrow3 0⟩⟩) hnd3 hrng3) (hge3 _ _ hw)
            · refine via ?_
              (refine RG.appE rfl rfl rfl rfl rfl (app_new appT_int cellsA_zero (cells_mid hlen' hno hbo (by simp only [numRow_len, ints_len]; omega) (by omega)) (by omega) (by omega) (fun x hx => by cases hx; exact ⟨_, gap_hi0, rfl⟩)) (by simp (disch := (first | omega | (simp only [sz] <;> omega) | fail)) only [go_sem]; (try simp only [sz]); unfold VB; omega) fun K hK => ?_; simp (disch := (first | omega | (simp only [sz] <;> omega) | fail)) only [go_sem]; with_reducible refine hK _ _ ?_; clear hK K)
              repeat ((first | refine qv1 rfl rfl rfl fun K hK => ?_ | refine qv3 rfl rfl rfl fun K hK => ?_ | refine qv2 rfl rfl rfl rfl rfl rfl fun K hK => ?_ | refine qv4 rfl rfl rfl rfl rfl rfl fun K hK => ?_); simp (disch := (first | omega | (simp only [sz] <;> omega) | fail)) only [go_sem]; with_reducible refine hK _ _ ?_; clear hK K)
              (first | refine At.nil rfl ?_ | refine RG.nil rfl ?_)
              refine Goes.folds hlen' fun l3 hl3 hge3 hrow3 => ?_
              simp only [List.length_cons, List.length_nil] at hl3
              exact inner2 _ _ l3 (some ⟨qq + 1 + 1, 0, none⟩) _ rfl rfl rfl rfl rfl rfl rfl rfl rfl rfl rfl rfl (by omega) (hIw.drop.outs (Bq' := 31000 + 10000 * i) hge3 (by simp only [List.length_cons, List.length_nil]; omega) (by simp only [List.length_cons, List.length_nil]; omega) (by omega) (.inr ⟨qq + 1 + 1, rfl, fun e => by rw [e] at hcl; simp only [List.length_nil] at hcl; omega, (hrow3 1).trans (by simp only [List.getElem?_cons_succ, List.getElem?_cons_zero]; rw [row_drop (by omega)]; first | rfl | simp)⟩) hnd3 hrng3) (hge3 _ _ hw)
          · refine via ?_
            (refine RG.appN (by first | exact heapL_low _ | exact gap_low _ _ _) rfl rfl rfl rfl rfl (by first | exact heapL_lim rfl | (exact gap_lim (by simp only [sz]; omega))) (appN_new appT_int cellsA_zero (cells_vist hlen' hno hbo (by rw [gap_next]; simp only [List.length_nil]; omega) (by simp only [numRow_len, ints_len]; omega) j0) (by omega) (by omega) (fun x hx => by cases hx; exact ⟨_, vis_born (j := 0) (by simp [gap_next]) (by kernel_rfl) gap_hi0, rfl⟩)) fun K hK => ?_; simp (disch := (first | omega | (simp only [sz] <;> omega) | fail)) only [go_sem]; with_reducible refine hK _ _ ?_; clear hK K)
            by_cases hze : j + 1 = out.length
            · refine via ?_
              (refine RG.endN (by first | exact heapL_low _ | exact gap_low _ _ _) rfl rfl rfl rfl rfl (by first | exact heapL_lim rfl | (exact gap_lim (by simp only [sz]; omega))) (slice_end appT_int.sl appT_int.sz (by omega) (by omega) (vis_low (b := ⟨numRow .i64 (ints out), 3, false, some 1⟩) (by rw [gap_next]; simp only [List.length_nil]; omega) (hkg _)) (by simp)) fun K hK => ?_; simp (disch := (first | omega | (simp only [sz] <;> omega) | fail)) only [go_sem]; with_reducible refine hK _ _ ?_; clear hK K)
              (refine RG.appE rfl rfl rfl rfl rfl (app_keep appT_int (Nat.le_refl _)) (by simp (disch := (first | omega | (simp only [sz] <;> omega) | fail)) only [go_sem]; (try simp only [sz]); unfold VB; omega) fun K hK => ?_; simp (disch := (first | omega | (simp only [sz] <;> omega) | fail)) only [go_sem]; with_reducible refine hK _ _ ?_; clear hK K)
              repeat ((first | refine qv1 rfl rfl rfl fun K hK => ?_ | refine qv3 rfl rfl rfl fun K hK => ?_ | refine qv2 rfl rfl rfl rfl rfl rfl fun K hK => ?_ | refine qv4 rfl rfl rfl rfl rfl rfl fun K hK => ?_); simp (disch := (first | omega | (simp only [sz] <;> omega) | fail)) only [go_sem]; with_reducible refine hK _ _ ?_; clear hK K)
              (first | refine At.nil rfl ?_ | refine RG.nil rfl ?_)
              refine Goes.folds hlen' fun l3 hl3 hge3 hrow3 => ?_
              simp only [List.length_cons, List.length_nil] at hl3
              exact inner2 _ _ l3 (some ⟨qq + 1 + 1, 0, none⟩) _ rfl rfl rfl rfl rfl rfl rfl rfl rfl rfl rfl rfl (by omega) (hIw.drop.outs (Bq' := 31000 + 10000 * i) hge3 (by simp only [List.length_cons, List.length_nil]; omega) (by simp only [List.length_cons, List.length_nil]; omega) (by omega) (.inr ⟨qq + 1 + 1, rfl, fun e => by rw [e] at hcl; simp only [List.length_nil] at hcl; omega, (hrow3 1).trans (by simp only [List.getElem?_cons_succ, List.getElem?_cons_zero]; rw [row_take, List.drop_eq_nil_of_le (by omega), List.append_nil])⟩) hnd3 hrng3) (hge3 _ _ hw)
            · refine via ?_
              (refine RG.appE rfl rfl rfl rfl rfl (app_grow appT_int (gap_hi (i := 1)) rfl rfl (by (try rw [List.nil_append]); simp only [List.length_take, numRow_len, ints_len]; omega) (cells_mid hlen' hno hbo (by simp only [numRow_len, ints_len]; omega) (by omega)) (by rw [row_drop (by omega)]; exact numRow_cellB _) (by omega) (by omega)) (by simp (disch := (first | omega | (simp only [sz] <;> omega) | fail)) only [go_sem]; (try simp only [sz]); unfold VB; omega) fun K hK => ?_; simp (disch := (first | omega | (simp only [sz] <;> omega) | fail)) only [go_sem]; with_reducible refine hK _ _ ?_; clear hK K)
              repeat ((first | refine qv1 rfl rfl rfl fun K hK => ?_ | refine qv3 rfl rfl rfl fun K hK => ?_ | refine qv2 rfl rfl rfl rfl rfl rfl fun K hK => ?_ | refine qv4 rfl rfl rfl rfl rfl rfl fun K hK => ?_); simp (disch := (first | omega | (simp only [sz] <;> omega) | fail)) only [go_sem]; with_reducible refine hK _ _ ?_; clear hK K)
              (first | refine At.nil rfl ?_ | refine RG.nil rfl ?_)
              refine Goes.folds hlen' fun l3 hl3 hge3 hrow3 => ?_
              simp only [List.length_cons, List.length_nil] at hl3
              exact inner2 _ _ l3 (some ⟨qq + 1 + 2, 0, none⟩) _ rfl rfl rfl rfl rfl rfl rfl rfl rfl rfl rfl rfl (by omega) (hIw.drop.outs (Bq' := 31000 + 10000 * i) hge3 (by simp only [List.length_cons, List.length_nil]; omega) (by simp only [List.length_cons, List.length_nil]; omega) (by omega) (.inr ⟨qq + 1 + 2, rfl, fun e => by rw [e] at hcl; simp only [List.length_nil] at hcl; omega, (hrow3 2).trans (by simp only [List.getElem?_cons_succ, List.getElem?_cons_zero]; rw [row_take, row_drop (by omega), numRow_app, ← ints_app, Nat.mul_one])⟩) hnd3 hrng3) (hge3 _ _ hw)
        rintro tmps q3 l3 ao3 n3 hl f2 f6 f7 f8 f9 f10 f11 f12 f13 f16 f17 hn3 hI3 hw3
        subst hn3
        obtain ⟨V, hV, hT⟩ := frame_lit hl; replace hT : _ = ([V 0, V 1, V 2, V 3, V 4, V 5, V 6, V 7, V 8, V 9, V 10, V 11, V 12, V 13, V 14, V 15, V 16, V 17, V 18, V 19, V 20, V 21, V 22, V 23, V 24, V 25, V 26, V 27, V 28, V 29, V 30, V 31, V 32, V 33, V 34, V 35, V 36, V 37, V 38, V 39, V 40, V 41, V 42, V 43, V 44, V 45, V 46, V 47, V 48, V 49, V 50, V 51, V 52, V 53, V 54, V 55, V 56, V 57, V 58, V 59, V 60, V 61, V 62, V 63, V 64, V 65, V 66, V 67, V 68, V 69, V 70, V 71, V 72, V 73, V 74, V 75, V 76, V 77, V 78, V 79, V 80, V 81, V 82, V 83, V 84, V 85, V 86, V 87, V 88, V 89, V 90, V 91, V 92, V 93, V 94, V 95, V 96, V 97, V 98, V 99, V 100, V 101, V 102, V 103, V 104, V 105, V 106, V 107, V 108, V 109, V 110, V 111, V 112, V 113, V 114, V 115, V 116, V 117, V 118, V 119, V 120, V 121, V 122, V 123, V 124, V 125, V 126, V 127, V 128, V 129, V 130, V 131, V 132, V 133, V 134, V 135, V 136, V 137, V 138, V 139, V 140, V 141, V 142, V 143, V 144, V 145, V 146, V 147, V 148, V 149, V 150, V 151, V 152, V 153, V 154, V 155, V 156, V 157, V 158, V 159, V 160, V 161, V 162, V 163, V 164, V 165, V 166, V 167, V 168, V 169, V 170, V 171, V 172, V 173, V 174, V 175, V 176, V 177, V 178, V 179, V 180, V 181, V 182, V 183, V 184, V 185, V 186, V 187, V 188, V 189, V 190, V 191, V 192, V 193, V 194, V 195, V 196, V 197, V 198, V 199, V 200, V 201, V 202, V 203, V 204, V 205, V 206, V 207, V 208, V 209, V 210, V 211, V 212, V 213, V 214, V 215, V 216, V 217, V 218, V 219, V 220, V 221, V 222, V 223, V 224, V 225, V 226, V 227, V 228, V 229, V 230, V 231, V 232, V 233, V 234, V 235, V 236, V 237, V 238, V 239, V 240, V 241, V 242, V 243, V 244, V 245, V 246, V 247, V 248, V 249, V 250, V 251, V 252, V 253, V 254, V 255, V 256, V 257, V 258, V 259, V 260, V 261, V 262, V 263, V 264, V 265, V 266, V 267, V 268, V 269, V 270, V 271, V 272, V 273, V 274, V 275, V 276, V 277, V 278, V 279, V 280, V 281, V 282, V 283, V 284, V 285, V 286, V 287, V 288, V 289, V 290, V 291, V 292, V 293, V 294, V 295, V 296, V 297, V 298, V 299, V 300, V 301, V 302, V 303, V 304, V 305, V 306, V 307, V 308, V 309, V 310, V 311, V 312, V 313, V 314, V 315, V 316, V 317, V 318, V 319, V 320, V 321, V 322, V 323, V 324, V 325, V 326, V 327, V 328, V 329, V 330, V 331, V 332, V 333, V 334, V 335, V 336, V 337, V 338, V 339, V 340, V 341, V 342, V 343, V 344, V 345, V 346, V 347, V 348, V 349, V 350, V 351, V 352, V 353, V 354, V 355, V 356, V 357, V 358, V 359, V 360, V 361, V 362, V 363, V 364, V 365, V 366, V 367, V 368, V 369, V 370, V 371, V 372, V 373, V 374, V 375, V 376, V 377] : List Value) := hT; rw [hV] at f2 f6 f7 f8 f9 f10 f11 f12 f13 f16 f17; subst hT; simp only [f2, f6, f7, f8, f9, f10, f11, f12, f13, f16, f17]; clear hV hl
        obtain ⟨_, hq3, hlen3, hrow3, hgeo3, hbox3, hF3, hH3, hG3, hO3, hA3, _, _, _, _, _, _⟩ := id hI3
        have hr3 := hrow3 _ rfl
        have hl3b := (List.getElem?_eq_some_iff.1 hbox3).1
        have hl30 : 0 < q3 := by omega
        have hl31 : 1 < q3 := by omega
        have hyr := hrng y (List.mem_of_getElem? hoj)
        have hyf : y ∉ free ++ flat T G := fun h => (List.nodup_cons.1 hnd2).1 (List.mem_append.2 (.inl h))
        refine viaF (And.intro hr3 (And.intro g0 hdm)) ?_
        refine viaF hgeo3 ?_
        obtain ⟨v5, S5, ⟨rfl, st5, ws5, W5, Kp, F5, vr5, hst5, rfl, hR5, hW5, hP5, _⟩, hd5⟩ := retire_does (Ob.mem ws bs :: (R ++ [Ob.port 0 t 1])) (R.length + 1) 0 t 1 ws bs N T y (hp0 _ _) (hm0 _ _) (by omega) hN1 (by omega) (by omega) htT hW hP hgl (by omega) hyr.1 hyr.2 hyf
        rw [hyx, hacc] at hd5
        ((first | refine qc1 rfl rfl fun K hK => ?_ | refine qc3 rfl rfl fun K hK => ?_); simp (disch := (first | omega | (simp only [sz] <;> omega) | fail)) only [go_sem]; refine ⟨_, _, hd5, ?_⟩; (try simp only [go_sem]); with_reducible refine hK _ _ ?_; clear hK K)
        refine viaF hbox3 ?_
        have hglt := hgl t htT
        obtain ⟨v1, hh1, S1, ⟨rfl, l1, q2, aF1, nF1, aG1, F1, K1, rfl, rfl, hge1, hl1, hqa, hqc, hNF, hNG, hRR⟩, hd⟩ := rret_does (Ob.mem ws5 bs :: (R ++ [Ob.port 0 t st5])) (l := l3) (q := q3) (aF := aF) (aH := aH) (aG := aG) (nF := nF) (T := T) (M := gM N T) (t := t) (x := y) (F := ints free.reverse) (H := H) (gss := gns G T) (L := G t) hlen3 (by omega) hF3 (by rw [ints_len, List.length_reverse]; omega) hH3 hG3 (gns_len _ _) (by omega) htT (gns_get _ htT) (fun x hx => hP.rng x (List.mem_append.2 (.inr (mem_flat htT hx)))) (by omega) hyr.1 hyr.2
        rw [hyx] at hd
        have hKK : K1 = Kp ∧ F1 = ints F5.reverse ∧ Kp.length ≤ 2 * T ∧ (F5 ++ flat T (upG G t Kp) ++ (out.take j ++ out.drop (j + 1))).Nodup ∧ (F5.headD 0 ≠ free.headD 0 → vr5 ≠ ver) ∧ vr5 ≤ ver + 9 := by
          have hn5 := ret_nd htT hnd2
          have hf5 := List.length_filter_le (fun x => !safeB (hzl H T) x) (G t ++ [y])
          rw [List.length_append, List.length_singleton] at hf5
          rcases hR5 with ⟨r1, h2, h3, h4⟩ | ⟨r1, h2, h3, h4⟩
          · rcases hRR with ⟨s1, h5, h6⟩ | ⟨s1, _⟩
            · rw [h2, h3, h4, h5, h6]
              exact ⟨rfl, rfl, by rw [List.length_append, List.length_singleton]; omega, up_nd htT hn5, fun h => absurd rfl h, by omega⟩
            · omega
          · rcases hRR with ⟨s1, _⟩ | ⟨s1, h5, h6⟩
            · omega
            · rw [h2, h3, h4, h5, h6]
              exact ⟨rfl, free_rev, kept_le (mid_nd hn5), scan_nd htT hn5, fun h => ver_ne h, by omega⟩
        obtain ⟨rfl, rfl, hKl, hnd5, hvr, hvb⟩ := hKK
        rw [gns_up] at hNG
        have hbox1 := hge1 _ _ hbox3
        have hw1 := hge1 _ _ hw3
        have hlq := (List.getElem?_eq_some_iff.1 hbox1).1
        unfold plV at hd
        ((first | refine qd1 rfl rfl fun K hK => ?_ | refine qd3 rfl rfl fun K hK => ?_); simp (disch := (first | omega | (simp only [sz] <;> omega) | fail)) only [go_sem]; (first | refine ⟨_, _, _, hd, ⟨by simp only [sz]; omega, by simp only [sz]; unfold VB; omega, by first | exact heapL_low _ | exact gap_low _ _ _⟩, ?_⟩ | refine ⟨_, _, _, hd, ?_⟩); (try simp only [go_sem]); with_reducible refine hK _ _ _ ?_; clear hK K)
        refine viaDF hbox1 ?_
        exact inner _ q2 _ aF1 aH aG1 ao3 nF1 ws5 W5 F5 (out.take j ++ out.drop (j + 1)) vr5 H (upG G t K1) st5 rfl rfl rfl rfl rfl rfl rfl rfl rfl rfl rfl rfl (hI3.act (Bq' := 35000 + 10000 * i) (Bv' := 20 * i + 20) hge1 hl1 (by omega) hNF (hH3.ge hge1) hNG (hO3.ge hge1) (Inner.ge hH3 hA3 hge1) hW5 hP5 (up_glen hgl hKl) hnd5 hrng3 (by omega)) (by rw [List.getElem?_set_ne hqb]; exact hw1) hvr (by omega)
    · refine viaF hgeo ?_
      obtain ⟨v5, S5, ⟨rfl, st5, ws5, W5, Kp, F5, vr5, hst5, rfl, hK5, hF5, hv5, hW5, hP5, hk5⟩, hd5⟩ := scan_does (Ob.mem ws bs :: (R ++ [Ob.port 0 t 1])) (R.length + 1) 0 t 1 ws bs N T (hp0 _ _) (hm0 _ _) (by omega) hN1 (by omega) (by omega) htT hW hP (fun t ht => by have := hgl t ht; omega) (by omega)
      rw [hacc] at hd5
      ((first | refine qc1 rfl rfl fun K hK => ?_ | refine qc3 rfl rfl fun K hK => ?_); simp (disch := (first | omega | (simp only [sz] <;> omega) | fail)) only [go_sem]; refine ⟨_, _, hd5, ?_⟩; (try simp only [go_sem]); with_reducible refine hK _ _ ?_; clear hK K)
      refine viaF hbox ?_
      have hglt := hgl t htT
      have hlf5 := List.length_filter_le (fun x => !safeB (hzl H T) x) (G t)
      obtain ⟨v1, hh1, S1, ⟨rfl, l1, q2, aF1, nF1, aG1, rfl, rfl, hge1, hl1, hqa, hqc, hNF, hNG⟩, hd⟩ := rscan_does (Ob.mem ws5 bs :: (R ++ [Ob.port 0 t st5])) (l := lw) (q := qq + 1) (aF := aF) (aH := aH) (aG := aG) (nF := nF) (T := T) (M := gM N T) (t := t) (H := H) (L := G t) hlen' (by omega) hF (by rw [ints_len, List.length_reverse]; omega) hH hG (gns_len _ _) (by omega) htT (gns_get _ htT) (fun x hx => hP.rng x (List.mem_append.2 (.inr (mem_flat htT hx)))) (by omega)
      rw [free_rev, ← hF5] at hNF
      rw [← hK5, gns_up] at hNG
      have hnd5 := sc_nd htT hnd
      have hbox1 := hge1 _ _ hbox
      have hw1 := hge1 _ _ hw
      have hlq := (List.getElem?_eq_some_iff.1 hbox1).1
      unfold plV at hd
      ((first | refine qd1 rfl rfl fun K hK => ?_ | refine qd3 rfl rfl fun K hK => ?_); simp (disch := (first | omega | (simp only [sz] <;> omega) | fail)) only [go_sem]; (first | refine ⟨_, _, _, hd, ⟨by simp only [sz]; omega, by simp only [sz]; unfold VB; omega, by first | exact heapL_low _ | exact gap_low _ _ _⟩, ?_⟩ | refine ⟨_, _, _, hd, ?_⟩); (try simp only [go_sem]); with_reducible refine hK _ _ _ ?_; clear hK K)
      refine viaDF hbox1 ?_
      have hKl : Kp.length ≤ 2 * T := by rw [hK5]; exact kept_le (mid_nd hnd5)
      exact inner _ q2 _ aF1 aH aG1 ao nF1 ws5 W5 F5 out vr5 H (upG G t Kp) st5 rfl rfl rfl rfl rfl rfl rfl rfl rfl rfl rfl rfl (hIw.act (Bq' := 35000 + 10000 * i) (Bv' := 20 * i + 20) hge1 hl1 (by omega) hNF (hH.ge hge1) hNG (hO.ge hge1) (Inner.ge hH hA hge1) hW5 hP5 (up_glen hgl hKl) (by rw [hF5, hK5]; exact scan_nd htT hnd5) hrng (by omega)) (by rw [List.getElem?_set_ne hqb]; exact hw1) (fun h => by rw [hF5] at h; rw [hv5]; exact ver_ne h) (by omega)
  --CONT
  rintro tmps q3 l3 aF3 aH3 aG3 ao3 nF3 ws3 W3 free3 out3 ver3 H3 G3 st3 hl f2 f6 f7 f8 f9 f10 f11 f12 f13 f17 f249 hI3 hw3 hvr hst
  obtain ⟨V, hV, hT⟩ := frame_lit hl; replace hT : _ = ([V 0, V 1, V 2, V 3, V 4, V 5, V 6, V 7, V 8, V 9, V 10, V 11, V 12, V 13, V 14, V 15, V 16, V 17, V 18, V 19, V 20, V 21, V 22, V 23, V 24, V 25, V 26, V 27, V 28, V 29, V 30, V 31, V 32, V 33, V 34, V 35, V 36, V 37, V 38, V 39, V 40, V 41, V 42, V 43, V 44, V 45, V 46, V 47, V 48, V 49, V 50, V 51, V 52, V 53, V 54, V 55, V 56, V 57, V 58, V 59, V 60, V 61, V 62, V 63, V 64, V 65, V 66, V 67, V 68, V 69, V 70, V 71, V 72, V 73, V 74, V 75, V 76, V 77, V 78, V 79, V 80, V 81, V 82, V 83, V 84, V 85, V 86, V 87, V 88, V 89, V 90, V 91, V 92, V 93, V 94, V 95, V 96, V 97, V 98, V 99, V 100, V 101, V 102, V 103, V 104, V 105, V 106, V 107, V 108, V 109, V 110, V 111, V 112, V 113, V 114, V 115, V 116, V 117, V 118, V 119, V 120, V 121, V 122, V 123, V 124, V 125, V 126, V 127, V 128, V 129, V 130, V 131, V 132, V 133, V 134, V 135, V 136, V 137, V 138, V 139, V 140, V 141, V 142, V 143, V 144, V 145, V 146, V 147, V 148, V 149, V 150, V 151, V 152, V 153, V 154, V 155, V 156, V 157, V 158, V 159, V 160, V 161, V 162, V 163, V 164, V 165, V 166, V 167, V 168, V 169, V 170, V 171, V 172, V 173, V 174, V 175, V 176, V 177, V 178, V 179, V 180, V 181, V 182, V 183, V 184, V 185, V 186, V 187, V 188, V 189, V 190, V 191, V 192, V 193, V 194, V 195, V 196, V 197, V 198, V 199, V 200, V 201, V 202, V 203, V 204, V 205, V 206, V 207, V 208, V 209, V 210, V 211, V 212, V 213, V 214, V 215, V 216, V 217, V 218, V 219, V 220, V 221, V 222, V 223, V 224, V 225, V 226, V 227, V 228, V 229, V 230, V 231, V 232, V 233, V 234, V 235, V 236, V 237, V 238, V 239, V 240, V 241, V 242, V 243, V 244, V 245, V 246, V 247, V 248, V 249, V 250, V 251, V 252, V 253, V 254, V 255, V 256, V 257, V 258, V 259, V 260, V 261, V 262, V 263, V 264, V 265, V 266, V 267, V 268, V 269, V 270, V 271, V 272, V 273, V 274, V 275, V 276, V 277, V 278, V 279, V 280, V 281, V 282, V 283, V 284, V 285, V 286, V 287, V 288, V 289, V 290, V 291, V 292, V 293, V 294, V 295, V 296, V 297, V 298, V 299, V 300, V 301, V 302, V 303, V 304, V 305, V 306, V 307, V 308, V 309, V 310, V 311, V 312, V 313, V 314, V 315, V 316, V 317, V 318, V 319, V 320, V 321, V 322, V 323, V 324, V 325, V 326, V 327, V 328, V 329, V 330, V 331, V 332, V 333, V 334, V 335, V 336, V 337, V 338, V 339, V 340, V 341, V 342, V 343, V 344, V 345, V 346, V 347, V 348, V 349, V 350, V 351, V 352, V 353, V 354, V 355, V 356, V 357, V 358, V 359, V 360, V 361, V 362, V 363, V 364, V 365, V 366, V 367, V 368, V 369, V 370, V 371, V 372, V 373, V 374, V 375, V 376, V 377] : List Value) := hT; rw [hV] at f2 f6 f7 f8 f9 f10 f11 f12 f13 f17 f249; subst hT; simp only [f2, f6, f7, f8, f9, f10, f11, f12, f13, f17, f249]; clear hV hl
  obtain ⟨_, hq3, hlen3, hrow3, hgeo3, hbox3, hF3, hH3, hG3, hO3, hA3, hW3, hP3, hgl3, hnd3, hrng3, hver3⟩ := id hI3
  have hl3b := (List.getElem?_eq_some_iff.1 hbox3).1
  have hl3w := (List.getElem?_eq_some_iff.1 hw3).1
  have hl30 : 0 < q3 := by omega
  have hl31 : 1 < q3 := by omega
  refine Goes.at ?_
  refine viaF hgeo3 ?_
  ((first | refine qp1 rfl rfl fun K hK => ?_ | refine qp3 rfl rfl fun K hK => ?_); simp (disch := (first | omega | (simp only [sz] <;> omega) | fail)) only [go_sem]; refine ⟨_, _, qpu fun w => gPool_any N T w (by omega) (by omega), ?_⟩; (try simp only [go_sem]); with_reducible refine hK _ _ ?_; clear hK K)
  refine via ?_
  ((first | refine qp1 rfl rfl fun K hK => ?_ | refine qp3 rfl rfl fun K hK => ?_); simp (disch := (first | omega | (simp only [sz] <;> omega) | fail)) only [go_sem]; refine ⟨_, _, .load _ (hp0 _ _) (hm0 _ _) (by omega), ?_⟩; (try simp only [go_sem]); with_reducible refine hK _ _ ?_; clear hK K)
  rw [load_same, hW3.tells4, hP3.top, hacc]
  refine via ?_
  ((first | refine qc1 rfl rfl fun K hK => ?_ | refine qc3 rfl rfl fun K hK => ?_); simp (disch := (first | omega | (simp only [sz] <;> omega) | fail)) only [go_sem]; refine ⟨_, _, refOf_rU _ (hP3.head (by omega)) (by omega), ?_⟩; (try simp only [go_sem]); with_reducible refine hK _ _ ?_; clear hK K)
  unfold refV
  apply share (P := fun todo : List Item => ∀ (tmps : List Value) (q4 : Nat) (l4 : List (Option Blk)), tmps.length = 378 → tmps.getD 2 undef = .slice (some ⟨0, 0, none⟩) l.length c → tmps.getD 6 undef = .bool false → tmps.getD 7 undef = .pointer (some ⟨1, 0, none⟩) → tmps.getD 8 undef = hndV 0 → tmps.getD 9 undef = .pointer (some ⟨2 + q1, 0, none⟩) → tmps.getD 10 undef = .slice ao3 out3.length out3.length → tmps.getD 11 undef = .int .i64 i → tmps.getD 12 undef = .int .i64 t → tmps.getD 13 undef = hndV (R.length + 1) → tmps.getD 267 undef = prtV (R.length + 1) → Ge l3 l4 → l4.length ≤ q4 → q4 ≤ q3 + 1 →
    Goes OF Try.f7 (fun x => ∃ h1 S', x = .done (.bool true) h1 S') (.run todo tmps (heapJ l4 q4 []) (.mem ws3 bs :: (R ++ [.port 0 t (st3 + 1)]))))
  · intro inner3
    by_cases e0 : free3.headD 0 = free.headD 0
    · refine viaF hw3 ?_
      refine At.folds hlen3 fun l4 hl4 hge4 _ => ?_
      exact inner3 _ _ l4 rfl rfl rfl rfl rfl rfl rfl rfl rfl rfl rfl hge4 (by omega) (by simp only [List.length_cons, List.length_nil]; omega)
    · have e1 := hvr e0
      refine viaF hw3 ?_
      refine At.folds hlen3 fun l4 hl4 hge4 _ => ?_
      exact inner3 _ _ l4 rfl rfl rfl rfl rfl rfl rfl rfl rfl rfl rfl hge4 (by omega) (by simp only [List.length_cons, List.length_nil]; omega)
  rintro tmps q4 l4 hl f2 f6 f7 f8 f9 f10 f11 f12 f13 f267 hge4 hl4 hq4
  obtain ⟨V, hV, hT⟩ := frame_lit hl; replace hT : _ = ([V 0, V 1, V 2, V 3, V 4, V 5, V 6, V 7, V 8, V 9, V 10, V 11, V 12, V 13, V 14, V 15, V 16, V 17, V 18, V 19, V 20, V 21, V 22, V 23, V 24, V 25, V 26, V 27, V 28, V 29, V 30, V 31, V 32, V 33, V 34, V 35, V 36, V 37, V 38, V 39, V 40, V 41, V 42, V 43, V 44, V 45, V 46, V 47, V 48, V 49, V 50, V 51, V 52, V 53, V 54, V 55, V 56, V 57, V 58, V 59, V 60, V 61, V 62, V 63, V 64, V 65, V 66, V 67, V 68, V 69, V 70, V 71, V 72, V 73, V 74, V 75, V 76, V 77, V 78, V 79, V 80, V 81, V 82, V 83, V 84, V 85, V 86, V 87, V 88, V 89, V 90, V 91, V 92, V 93, V 94, V 95, V 96, V 97, V 98, V 99, V 100, V 101, V 102, V 103, V 104, V 105, V 106, V 107, V 108, V 109, V 110, V 111, V 112, V 113, V 114, V 115, V 116, V 117, V 118, V 119, V 120, V 121, V 122, V 123, V 124, V 125, V 126, V 127, V 128, V 129, V 130, V 131, V 132, V 133, V 134, V 135, V 136, V 137, V 138, V 139, V 140, V 141, V 142, V 143, V 144, V 145, V 146, V 147, V 148, V 149, V 150, V 151, V 152, V 153, V 154, V 155, V 156, V 157, V 158, V 159, V 160, V 161, V 162, V 163, V 164, V 165, V 166, V 167, V 168, V 169, V 170, V 171, V 172, V 173, V 174, V 175, V 176, V 177, V 178, V 179, V 180, V 181, V 182, V 183, V 184, V 185, V 186, V 187, V 188, V 189, V 190, V 191, V 192, V 193, V 194, V 195, V 196, V 197, V 198, V 199, V 200, V 201, V 202, V 203, V 204, V 205, V 206, V 207, V 208, V 209, V 210, V 211, V 212, V 213, V 214, V 215, V 216, V 217, V 218, V 219, V 220, V 221, V 222, V 223, V 224, V 225, V 226, V 227, V 228, V 229, V 230, V 231, V 232, V 233, V 234, V 235, V 236, V 237, V 238, V 239, V 240, V 241, V 242, V 243, V 244, V 245, V 246, V 247, V 248, V 249, V 250, V 251, V 252, V 253, V 254, V 255, V 256, V 257, V 258, V 259, V 260, V 261, V 262, V 263, V 264, V 265, V 266, V 267, V 268, V 269, V 270, V 271, V 272, V 273, V 274, V 275, V 276, V 277, V 278, V 279, V 280, V 281, V 282, V 283, V 284, V 285, V 286, V 287, V 288, V 289, V 290, V 291, V 292, V 293, V 294, V 295, V 296, V 297, V 298, V 299, V 300, V 301, V 302, V 303, V 304, V 305, V 306, V 307, V 308, V 309, V 310, V 311, V 312, V 313, V 314, V 315, V 316, V 317, V 318, V 319, V 320, V 321, V 322, V 323, V 324, V 325, V 326, V 327, V 328, V 329, V 330, V 331, V 332, V 333, V 334, V 335, V 336, V 337, V 338, V 339, V 340, V 341, V 342, V 343, V 344, V 345, V 346, V 347, V 348, V 349, V 350, V 351, V 352, V 353, V 354, V 355, V 356, V 357, V 358, V 359, V 360, V 361, V 362, V 363, V 364, V 365, V 366, V 367, V 368, V 369, V 370, V 371, V 372, V 373, V 374, V 375, V 376, V 377] : List Value) := hT; rw [hV] at f2 f6 f7 f8 f9 f10 f11 f12 f13 f267; subst hT; simp only [f2, f6, f7, f8, f9, f10, f11, f12, f13, f267]; clear hV hl
  have hI4 := hI3.ge (Bq' := 36000 + 10000 * i) hge4 hl4 (by omega) (Nat.le_refl _)
  obtain ⟨_, hq4', hlen4, hrow4, hgeo4, hbox4, hF4, hH4, hG4, hO4, hA4, _, _, _, _, _, _⟩ := id hI4
  have hl4b := (List.getElem?_eq_some_iff.1 hbox4).1
  have hl40 : 0 < q4 := by omega
  have hl41 : 1 < q4 := by omega
  have hfl3 : free3.length ≤ gM N T := by
    have := all_le hP3.nd hP3.rng
    rw [List.length_append] at this; omega
  refine Goes.at ?_
  refine viaF hgeo4 ?_
  obtain ⟨st4, hst4, hd4⟩ := free8_does (Ob.mem ws3 bs :: (R ++ [.port 0 t (st3 + 1)])) (R.length + 1) 0 t (st3 + 1) ws3 bs N T (hp0 ws3 (st3 + 1)) (hm0 ws3 (st3 + 1)) (by omega) hN1 (by omega) (by omega) hW3 hP3 (by omega) hfl3
  rw [hacc] at hd4
  apply share (P := fun todo : List Item => ∀ (tmps : List Value) (q5 : Nat) (l5 : List (Option Blk)) (af : Option Addr), tmps.length = 378 → tmps.getD 2 undef = .slice (some ⟨0, 0, none⟩) l.length c → tmps.getD 6 undef = .bool false → tmps.getD 7 undef = .pointer (some ⟨1, 0, none⟩) → tmps.getD 8 undef = hndV 0 → tmps.getD 9 undef = .pointer (some ⟨2 + q1, 0, none⟩) → tmps.getD 10 undef = .slice ao3 out3.length out3.length → tmps.getD 11 undef = .int .i64 i → tmps.getD 12 undef = .int .i64 t → tmps.getD 13 undef = hndV (R.length + 1) → tmps.getD 23 undef = .slice af free3.length free3.length → IsN l5 af free3.length (ints free3) → Ge l4 l5 → l5.length ≤ q5 → q5 ≤ q4 + 1 →
    Goes OF Try.f7 (fun x => ∃ h1 S', x = .done (.bool true) h1 S') (.run todo tmps (heapJ l5 q5 []) (.mem ws3 bs :: (R ++ [.port 0 t st4]))))
  · intro inner4
    by_cases h0 : free3 = []
    · have e1 : liR free3 = [] := if_pos h0
      have e2 : liV free3.length = .slice none 0 0 := by rw [h0]; rfl
      rw [e1, e2] at hd4
      (refine qxn rfl rfl fun K hK => ?_; simp (disch := (first | omega | (simp only [sz] <;> omega) | fail)) only [go_sem]; refine ⟨_, _, _, _, hd4, by first | rfl | simp (disch := (first | omega | (simp only [heapL_next, List.length_cons, List.length_nil, List.size_toArray, geo_len] <;> omega) | fail)) only [go_sem], by (try simp only [sz, List.length_cons, List.length_nil]); omega, ?_⟩; simp (disch := (first | omega | (simp only [sz] <;> omega) | fail)) only [go_sem]; with_reducible refine hK _ _ _ ?_; clear hK K)
      repeat ((first | refine qv1 rfl rfl rfl fun K hK => ?_ | refine qv3 rfl rfl rfl fun K hK => ?_ | refine qv2 rfl rfl rfl rfl rfl rfl fun K hK => ?_ | refine qv4 rfl rfl rfl rfl rfl rfl fun K hK => ?_); simp (disch := (first | omega | (simp only [sz] <;> omega) | fail)) only [go_sem]; with_reducible refine hK _ _ ?_; clear hK K)
      (first | refine At.nil rfl ?_ | refine RG.nil rfl ?_)
      exact inner4 _ q4 l4 none rfl rfl rfl rfl rfl rfl rfl rfl rfl rfl (by rw [h0]; rfl) ⟨(ints_len _).symm, .inl ⟨rfl, by rw [h0]; rfl⟩⟩ (Ge.refl _) hlen4 (by omega)
    · have e1 : liR free3 = [⟨numRow .i64 (ints free3), 3, false, some 1⟩] := if_neg h0
      have e2 : liV free3.length = .slice (some ⟨0, 0, none⟩) free3.length free3.length := if_neg (by simpa using h0)
      rw [e1, e2] at hd4
      (refine qxn rfl rfl fun K hK => ?_; simp (disch := (first | omega | (simp only [sz] <;> omega) | fail)) only [go_sem]; refine ⟨_, _, _, _, hd4, by first | rfl | simp (disch := (first | omega | (simp only [heapL_next, List.length_cons, List.length_nil, List.size_toArray, geo_len] <;> omega) | fail)) only [go_sem], by (try simp only [sz, List.length_cons, List.length_nil]); omega, ?_⟩; simp (disch := (first | omega | (simp only [sz] <;> omega) | fail)) only [go_sem]; with_reducible refine hK _ _ _ ?_; clear hK K)
      repeat ((first | refine qv1 rfl rfl rfl fun K hK => ?_ | refine qv3 rfl rfl rfl fun K hK => ?_ | refine qv2 rfl rfl rfl rfl rfl rfl fun K hK => ?_ | refine qv4 rfl rfl rfl rfl rfl rfl fun K hK => ?_); simp (disch := (first | omega | (simp only [sz] <;> omega) | fail)) only [go_sem]; with_reducible refine hK _ _ ?_; clear hK K)
      (first | refine At.nil rfl ?_ | refine RG.nil rfl ?_)
      refine Goes.folds hlen4 fun l5 hl5 hge5 hrow5 => ?_
      simp only [List.length_cons, List.length_nil] at hl5
      exact inner4 _ _ l5 (some ⟨q4 + 0, 0, none⟩) rfl rfl rfl rfl rfl rfl rfl rfl rfl rfl rfl ⟨(ints_len _).symm, .inr ⟨q4 + 0, some 1, rfl, by omega, (hrow5 0).trans rfl⟩⟩ hge5 (by simp only [List.length_cons, List.length_nil]; omega) (by simp only [List.length_cons, List.length_nil]; omega)
  rintro tmps q5 l5 af hl f2 f6 f7 f8 f9 f10 f11 f12 f13 f23 hFr hge5 hl5 hq5
  obtain ⟨V, hV, hT⟩ := frame_lit hl; replace hT : _ = ([V 0, V 1, V 2, V 3, V 4, V 5, V 6, V 7, V 8, V 9, V 10, V 11, V 12, V 13, V 14, V 15, V 16, V 17, V 18, V 19, V 20, V 21, V 22, V 23, V 24, V 25, V 26, V 27, V 28, V 29, V 30, V 31, V 32, V 33, V 34, V 35, V 36, V 37, V 38, V 39, V 40, V 41, V 42, V 43, V 44, V 45, V 46, V 47, V 48, V 49, V 50, V 51, V 52, V 53, V 54, V 55, V 56, V 57, V 58, V 59, V 60, V 61, V 62, V 63, V 64, V 65, V 66, V 67, V 68, V 69, V 70, V 71, V 72, V 73, V 74, V 75, V 76, V 77, V 78, V 79, V 80, V 81, V 82, V 83, V 84, V 85, V 86, V 87, V 88, V 89, V 90, V 91, V 92, V 93, V 94, V 95, V 96, V 97, V 98, V 99, V 100, V 101, V 102, V 103, V 104, V 105, V 106, V 107, V 108, V 109, V 110, V 111, V 112, V 113, V 114, V 115, V 116, V 117, V 118, V 119, V 120, V 121, V 122, V 123, V 124, V 125, V 126, V 127, V 128, V 129, V 130, V 131, V 132, V 133, V 134, V 135, V 136, V 137, V 138, V 139, V 140, V 141, V 142, V 143, V 144, V 145, V 146, V 147, V 148, V 149, V 150, V 151, V 152, V 153, V 154, V 155, V 156, V 157, V 158, V 159, V 160, V 161, V 162, V 163, V 164, V 165, V 166, V 167, V 168, V 169, V 170, V 171, V 172, V 173, V 174, V 175, V 176, V 177, V 178, V 179, V 180, V 181, V 182, V 183, V 184, V 185, V 186, V 187, V 188, V 189, V 190, V 191, V 192, V 193, V 194, V 195, V 196, V 197, V 198, V 199, V 200, V 201, V 202, V 203, V 204, V 205, V 206, V 207, V 208, V 209, V 210, V 211, V 212, V 213, V 214, V 215, V 216, V 217, V 218, V 219, V 220, V 221, V 222, V 223, V 224, V 225, V 226, V 227, V 228, V 229, V 230, V 231, V 232, V 233, V 234, V 235, V 236, V 237, V 238, V 239, V 240, V 241, V 242, V 243, V 244, V 245, V 246, V 247, V 248, V 249, V 250, V 251, V 252, V 253, V 254, V 255, V 256, V 257, V 258, V 259, V 260, V 261, V 262, V 263, V 264, V 265, V 266, V 267, V 268, V 269, V 270, V 271, V 272, V 273, V 274, V 275, V 276, V 277, V 278, V 279, V 280, V 281, V 282, V 283, V 284, V 285, V 286, V 287, V 288, V 289, V 290, V 291, V 292, V 293, V 294, V 295, V 296, V 297, V 298, V 299, V 300, V 301, V 302, V 303, V 304, V 305, V 306, V 307, V 308, V 309, V 310, V 311, V 312, V 313, V 314, V 315, V 316, V 317, V 318, V 319, V 320, V 321, V 322, V 323, V 324, V 325, V 326, V 327, V 328, V 329, V 330, V 331, V 332, V 333, V 334, V 335, V 336, V 337, V 338, V 339, V 340, V 341, V 342, V 343, V 344, V 345, V 346, V 347, V 348, V 349, V 350, V 351, V 352, V 353, V 354, V 355, V 356, V 357, V 358, V 359, V 360, V 361, V 362, V 363, V 364, V 365, V 366, V 367, V 368, V 369, V 370, V 371, V 372, V 373, V 374, V 375, V 376, V 377] : List Value) := hT; rw [hV] at f2 f6 f7 f8 f9 f10 f11 f12 f13 f23; subst hT; simp only [f2, f6, f7, f8, f9, f10, f11, f12, f13, f23]; clear hV hl
  have hI5 := hI4.ge (Bq' := 37000 + 10000 * i) hge5 hl5 (by omega) (Nat.le_refl _)
  clear hI4 hI3 hrow4 hgeo4 hbox4 hF4 hH4 hG4 hO4 hA4 hrow3 hgeo3 hbox3 hF3 hH3 hG3 hO3 hA3 hr0 hgeo hbox hF hH hG hO hA hrow0
  obtain ⟨_, hq5', hlen5, hrow5, hgeo5, hbox5, hF5, hH5, hG5, hO5, hA5, _, _, _, _, _, _⟩ := id hI5
  have hl5b := (List.getElem?_eq_some_iff.1 hbox5).1
  have hl50 : 0 < q5 := by omega
  have hl51 : 1 < q5 := by omega
  have hnF5 : nF3 = free3.length := by have := hF5.1; rwa [ints_len, List.length_reverse] at this
  refine viaF hbox5 ?_
  refine Goes.wh (fun z tmps h S => ∃ k : Nat, z = free3.length - k ∧ k ≤ free3.length ∧ S = .mem ws3 bs :: (R ++ [.port 0 t st4]) ∧ h = heapJ l5 q5 [] ∧ tmps.length = 378 ∧
      tmps.getD 2 undef = .slice (some ⟨0, 0, none⟩) l.length c ∧ tmps.getD 6 undef = .bool false ∧ tmps.getD 7 undef = .pointer (some ⟨1, 0, none⟩) ∧ tmps.getD 8 undef = hndV 0 ∧ tmps.getD 9 undef = .pointer (some ⟨2 + q1, 0, none⟩) ∧ tmps.getD 10 undef = .slice ao3 out3.length out3.length ∧ tmps.getD 11 undef = .int .i64 i ∧ tmps.getD 12 undef = .int .i64 t ∧ tmps.getD 13 undef = hndV (R.length + 1) ∧ tmps.getD 23 undef = .slice af free3.length free3.length ∧ tmps.getD 24 undef = .int .i64 k) (m := free3.length)
      ⟨0, rfl, by omega, rfl, rfl, rfl, rfl, rfl, rfl, rfl, rfl, rfl, rfl, rfl, rfl, rfl, rfl⟩ ?_
  rintro z tmps h S ih3 ⟨k, rfl, hk, rfl, rfl, hl, f2, f6, f7, f8, f9, f10, f11, f12, f13, f23, f24⟩
  obtain ⟨V, hV, hT⟩ := frame_lit hl; replace hT : _ = ([V 0, V 1, V 2, V 3, V 4, V 5, V 6, V 7, V 8, V 9, V 10, V 11, V 12, V 13, V 14, V 15, V 16, V 17, V 18, V 19, V 20, V 21, V 22, V 23, V 24, V 25, V 26, V 27, V 28, V 29, V 30, V 31, V 32, V 33, V 34, V 35, V 36, V 37, V 38, V 39, V 40, V 41, V 42, V 43, V 44, V 45, V 46, V 47, V 48, V 49, V 50, V 51, V 52, V 53, V 54, V 55, V 56, V 57, V 58, V 59, V 60, V 61, V 62, V 63, V 64, V 65, V 66, V 67, V 68, V 69, V 70, V 71, V 72, V 73, V 74, V 75, V 76, V 77, V 78, V 79, V 80, V 81, V 82, V 83, V 84, V 85, V 86, V 87, V 88, V 89, V 90, V 91, V 92, V 93, V 94, V 95, V 96, V 97, V 98, V 99, V 100, V 101, V 102, V 103, V 104, V 105, V 106, V 107, V 108, V 109, V 110, V 111, V 112, V 113, V 114, V 115, V 116, V 117, V 118, V 119, V 120, V 121, V 122, V 123, V 124, V 125, V 126, V 127, V 128, V 129, V 130, V 131, V 132, V 133, V 134, V 135, V 136, V 137, V 138, V 139, V 140, V 141, V 142, V 143, V 144, V 145, V 146, V 147, V 148, V 149, V 150, V 151, V 152, V 153, V 154, V 155, V 156, V 157, V 158, V 159, V 160, V 161, V 162, V 163, V 164, V 165, V 166, V 167, V 168, V 169, V 170, V 171, V 172, V 173, V 174, V 175, V 176, V 177, V 178, V 179, V 180, V 181, V 182, V 183, V 184, V 185, V 186, V 187, V 188, V 189, V 190, V 191, V 192, V 193, V 194, V 195, V 196, V 197, V 198, V 199, V 200, V 201, V 202, V 203, V 204, V 205, V 206, V 207, V 208, V 209, V 210, V 211, V 212, V 213, V 214, V 215, V 216, V 217, V 218, V 219, V 220, V 221, V 222, V 223, V 224, V 225, V 226, V 227, V 228, V 229, V 230, V 231, V 232, V 233, V 234, V 235, V 236, V 237, V 238, V 239, V 240, V 241, V 242, V 243, V 244, V 245, V 246, V 247, V 248, V 249, V 250, V 251, V 252, V 253, V 254, V 255, V 256, V 257, V 258, V 259, V 260, V 261, V 262, V 263, V 264, V 265, V 266, V 267, V 268, V 269, V 270, V 271, V 272, V 273, V 274, V 275, V 276, V 277, V 278, V 279, V 280, V 281, V 282, V 283, V 284, V 285, V 286, V 287, V 288, V 289, V 290, V 291, V 292, V 293, V 294, V 295, V 296, V 297, V 298, V 299, V 300, V 301, V 302, V 303, V 304, V 305, V 306, V 307, V 308, V 309, V 310, V 311, V 312, V 313, V 314, V 315, V 316, V 317, V 318, V 319, V 320, V 321, V 322, V 323, V 324, V 325, V 326, V 327, V 328, V 329, V 330, V 331, V 332, V 333, V 334, V 335, V 336, V 337, V 338, V 339, V 340, V 341, V 342, V 343, V 344, V 345, V 346, V 347, V 348, V 349, V 350, V 351, V 352, V 353, V 354, V 355, V 356, V 357, V 358, V 359, V 360, V 361, V 362, V 363, V 364, V 365, V 366, V 367, V 368, V 369, V 370, V 371, V 372, V 373, V 374, V 375, V 376, V 377] : List Value) := hT; rw [hV] at f2 f6 f7 f8 f9 f10 f11 f12 f13 f23 f24; subst hT; simp only [f2, f6, f7, f8, f9, f10, f11, f12, f13, f23, f24]; clear hV hl
  by_cases hk3 : k < free3.length
  · obtain ⟨_, ⟨_, h2⟩ | ⟨nf, gf, rfl, hnf, hbf⟩⟩ := hFr
    · exfalso; rw [← ints_len, h2] at hk3; simp at hk3
    obtain ⟨_, ⟨_, h2⟩ | ⟨nR, gR, rfl, hnR, hbR⟩⟩ := hF5
    · exfalso; have h3 := congrArg List.length h2; rw [ints_len, List.length_reverse] at h3; simp at h3; rw [h3] at hk3; simp at hk3
    have ho := List.getElem?_eq_getElem hk3
    have gf1 : (numRow .i64 (ints free3))[k]? = some (.int .i64 (free3[k] : Int)) := by simp [numRow, ints, ho]
    have gr1 : (numRow .i64 (ints free3.reverse))[free3.length - 1 - k]? = some (.int .i64 (free3[k] : Int)) := by
      have h3 : free3.reverse[free3.length - 1 - k]? = some free3[k] := by
        rw [List.getElem?_reverse (by omega), show free3.length - 1 - (free3.length - 1 - k) = k by omega]; exact ho
      unfold numRow ints; rw [List.getElem?_map, List.getElem?_map, h3]; rfl
    have k1 := Nat.mul_one k
    have k2 := Nat.mul_one (free3.length - 1 - k)
    have k3 : ((free3.length : Int) - 1 - (k : Int)) = ((free3.length - 1 - k : Nat) : Int) := by omega
    repeat (first | refine Goes.reg ?_ | refine Goes.ctl2 rfl ?_ | ((first | refine qv1 rfl rfl rfl fun K hK => ?_ | refine qv3 rfl rfl rfl fun K hK => ?_ | refine qv2 rfl rfl rfl rfl rfl rfl fun K hK => ?_ | refine qv4 rfl rfl rfl rfl rfl rfl fun K hK => ?_ | refine qn1 rfl rfl rfl fun K hK => ?_ | refine qn3 rfl rfl rfl fun K hK => ?_ | refine qt1 rfl rfl rfl fun K hK => ?_ | refine qt3 rfl rfl rfl fun K hK => ?_); simp (disch := (first | omega | (simp only [sz] <;> omega) | fail)) only [go_sem, k1, k2, k3, hbox5, hbf, hbR, gf1, gr1]; with_reducible refine hK _ _ ?_; clear hK K) | refine At.nil rfl ?_ | refine RG.nil rfl ?_ | ((first | refine AtL.skipg rfl rfl rfl rfl rfl ?_ | refine RGL.skipg rfl rfl rfl rfl rfl ?_ | refine AtL.skipu rfl rfl rfl rfl ?_ | refine RGL.skipu rfl rfl rfl rfl ?_); simp only [putL, List.set_cons_zero, List.set_cons_succ]) | refine Goes.yes rfl ?_ | refine Goes.no rfl ?_ | refine Goes.drawR [] (by kernel_rfl) ?_)
    exact ih3 _ _ _ _ (by omega) ⟨k + 1, rfl, by omega, rfl, rfl, rfl, rfl, rfl, rfl, rfl, rfl, rfl, rfl, rfl, rfl, rfl, by push_cast; rfl⟩
  obtain rfl : k = free3.length := by omega
  clear ih3
  refine viaF hgeo5 ?_
  ((first | refine qp1 rfl rfl fun K hK => ?_ | refine qp3 rfl rfl fun K hK => ?_); simp (disch := (first | omega | (simp only [sz] <;> omega) | fail)) only [go_sem]; refine ⟨_, _, qpu fun w => gGone_any N T t w (by omega) (by omega), ?_⟩; (try simp only [go_sem]); with_reducible refine hK _ _ ?_; clear hK K)
  refine via ?_
  have h15 : t < gsz N T 15 := by show t < T; omega
  ((first | refine qp1 rfl rfl fun K hK => ?_ | refine qp3 rfl rfl fun K hK => ?_); simp (disch := (first | omega | (simp only [sz] <;> omega) | fail)) only [go_sem]; refine ⟨_, _, .load _ (hp0 _ _) (hm0 _ _) (by omega), ?_⟩; (try simp only [go_sem]); with_reducible refine hK _ _ ?_; clear hK K)
  rw [load_same, hW3.tells (r := 15) (by decide) h15, hP3.gn t htT (by omega), hacc]
  obtain ⟨nG, gG, pG, rfl, hnG, hbG, hpG, hallG⟩ := id hG5
  obtain ⟨⟨aq, iq⟩, hpt⟩ : ∃ p, pG[t]? = some p := ⟨_, List.getElem?_eq_getElem (by rw [hpG, gns_len]; omega)⟩
  have hNt := hallG t _ _ hpt (gns_get G3 htT)
  simp only at hNt
  have hNi := hNt.1
  rw [ints_len] at hNi
  subst hNi
  have g3l := hgl3 t htT
  have e1 := Nat.mul_one t
  have e3 := rowS_get hpt
  simp only at e3
  have e4 : IntKind.i64.wrap ((UInt64.ofNat (G3 t).length).toNat : Int) = ((G3 t).length : Int) := nat_i64 (by omega)
  refine viaF (And.intro e1 (And.intro e3 (And.intro e4 (And.intro hbox5 (And.intro hbG hgeo5))))) ?_
  ((first | refine qp1 rfl rfl fun K hK => ?_ | refine qp3 rfl rfl fun K hK => ?_); simp (disch := (first | omega | (simp only [sz] <;> omega) | fail)) only [go_sem]; refine ⟨_, _, qpu fun w => gThreads_any N T w, ?_⟩; (try simp only [go_sem]); with_reducible refine hK _ _ ?_; clear hK K)
  refine via ?_
  refine Goes.wh (fun z tmps h S => ∃ k st : Nat, z = (G3 t).length - k ∧ k ≤ (G3 t).length ∧ st ≤ st4 + 1 + k ∧ S = .mem ws3 bs :: (R ++ [.port 0 t st]) ∧ h = heapJ l5 q5 [] ∧ tmps.length = 378 ∧
      tmps.getD 2 undef = .slice (some ⟨0, 0, none⟩) l.length c ∧ tmps.getD 6 undef = .bool false ∧ tmps.getD 7 undef = .pointer (some ⟨1, 0, none⟩) ∧ tmps.getD 8 undef = hndV 0 ∧ tmps.getD 9 undef = .pointer (some ⟨2 + q1, 0, none⟩) ∧ tmps.getD 10 undef = .slice ao3 out3.length out3.length ∧ tmps.getD 11 undef = .int .i64 i ∧ tmps.getD 12 undef = .int .i64 t ∧ tmps.getD 13 undef = hndV (R.length + 1) ∧ tmps.getD 25 undef = .int .i64 k) (m := (G3 t).length)
      ⟨0, st4 + 1, rfl, by omega, by omega, rfl, rfl, rfl, rfl, rfl, rfl, rfl, rfl, rfl, rfl, rfl, rfl, rfl⟩ ?_
  rintro z tmps h S ih3 ⟨k, st5, rfl, hk, hst5, rfl, rfl, hl, f2, f6, f7, f8, f9, f10, f11, f12, f13, f25⟩
  obtain ⟨V, hV, hT⟩ := frame_lit hl; replace hT : _ = ([V 0, V 1, V 2, V 3, V 4, V 5, V 6, V 7, V 8, V 9, V 10, V 11, V 12, V 13, V 14, V 15, V 16, V 17, V 18, V 19, V 20, V 21, V 22, V 23, V 24, V 25, V 26, V 27, V 28, V 29, V 30, V 31, V 32, V 33, V 34, V 35, V 36, V 37, V 38, V 39, V 40, V 41, V 42, V 43, V 44, V 45, V 46, V 47, V 48, V 49, V 50, V 51, V 52, V 53, V 54, V 55, V 56, V 57, V 58, V 59, V 60, V 61, V 62, V 63, V 64, V 65, V 66, V 67, V 68, V 69, V 70, V 71, V 72, V 73, V 74, V 75, V 76, V 77, V 78, V 79, V 80, V 81, V 82, V 83, V 84, V 85, V 86, V 87, V 88, V 89, V 90, V 91, V 92, V 93, V 94, V 95, V 96, V 97, V 98, V 99, V 100, V 101, V 102, V 103, V 104, V 105, V 106, V 107, V 108, V 109, V 110, V 111, V 112, V 113, V 114, V 115, V 116, V 117, V 118, V 119, V 120, V 121, V 122, V 123, V 124, V 125, V 126, V 127, V 128, V 129, V 130, V 131, V 132, V 133, V 134, V 135, V 136, V 137, V 138, V 139, V 140, V 141, V 142, V 143, V 144, V 145, V 146, V 147, V 148, V 149, V 150, V 151, V 152, V 153, V 154, V 155, V 156, V 157, V 158, V 159, V 160, V 161, V 162, V 163, V 164, V 165, V 166, V 167, V 168, V 169, V 170, V 171, V 172, V 173, V 174, V 175, V 176, V 177, V 178, V 179, V 180, V 181, V 182, V 183, V 184, V 185, V 186, V 187, V 188, V 189, V 190, V 191, V 192, V 193, V 194, V 195, V 196, V 197, V 198, V 199, V 200, V 201, V 202, V 203, V 204, V 205, V 206, V 207, V 208, V 209, V 210, V 211, V 212, V 213, V 214, V 215, V 216, V 217, V 218, V 219, V 220, V 221, V 222, V 223, V 224, V 225, V 226, V 227, V 228, V 229, V 230, V 231, V 232, V 233, V 234, V 235, V 236, V 237, V 238, V 239, V 240, V 241, V 242, V 243, V 244, V 245, V 246, V 247, V 248, V 249, V 250, V 251, V 252, V 253, V 254, V 255, V 256, V 257, V 258, V 259, V 260, V 261, V 262, V 263, V 264, V 265, V 266, V 267, V 268, V 269, V 270, V 271, V 272, V 273, V 274, V 275, V 276, V 277, V 278, V 279, V 280, V 281, V 282, V 283, V 284, V 285, V 286, V 287, V 288, V 289, V 290, V 291, V 292, V 293, V 294, V 295, V 296, V 297, V 298, V 299, V 300, V 301, V 302, V 303, V 304, V 305, V 306, V 307, V 308, V 309, V 310, V 311, V 312, V 313, V 314, V 315, V 316, V 317, V 318, V 319, V 320, V 321, V 322, V 323, V 324, V 325, V 326, V 327, V 328, V 329, V 330, V 331, V 332, V 333, V 334, V 335, V 336, V 337, V 338, V 339, V 340, V 341, V 342, V 343, V 344, V 345, V 346, V 347, V 348, V 349, V 350, V 351, V 352, V 353, V 354, V 355, V 356, V 357, V 358, V 359, V 360, V 361, V 362, V 363, V 364, V 365, V 366, V 367, V 368, V 369, V 370, V 371, V 372, V 373, V 374, V 375, V 376, V 377] : List Value) := hT; rw [hV] at f2 f6 f7 f8 f9 f10 f11 f12 f13 f25; subst hT; simp only [f2, f6, f7, f8, f9, f10, f11, f12, f13, f25]; clear hV hl
  by_cases hk3 : k < (G3 t).length
  · obtain ⟨_, ⟨_, h2⟩ | ⟨na, ga, rfl, hna, hba⟩⟩ := hNt
    · exfalso; rw [← ints_len, h2] at hk3; simp at hk3
    have ho := List.getElem?_eq_getElem hk3
    have gf1 : (numRow .i64 (ints (G3 t)))[k]? = some (.int .i64 ((G3 t)[k] : Int)) := by simp [numRow, ints, ho]
    have k1 := Nat.mul_one k
    have hyg := hP3.rng (G3 t)[k] (List.mem_append.2 (.inr (mem_flat htT (List.getElem_mem hk3))))
    have h16 : t * (2 * T + 2) + k < gsz N T 16 := by
      show t * (2 * T + 2) + k < T * (2 * T + 2)
      have h1 : (t + 1) * (2 * T + 2) ≤ T * (2 * T + 2) := Nat.mul_le_mul_right _ (by omega)
      rw [Nat.succ_mul] at h1; omega
    have e5 : IntKind.i64.wrap ((UInt64.ofNat (G3 t)[k]).toNat : Int) = ((G3 t)[k] : Int) := nat_i64 (by omega)
    refine viaF (And.intro e1 (And.intro e3 (And.intro hbox5 (And.intro hbG hgeo5)))) ?_
    ((first | refine qc1 rfl rfl fun K hK => ?_ | refine qc3 rfl rfl fun K hK => ?_); simp (disch := (first | omega | (simp only [sz] <;> omega) | fail)) only [go_sem]; refine ⟨_, _, gRetiredN _ N T t k (by omega) (by omega) htT (by omega), ?_⟩; (try simp only [go_sem]); with_reducible refine hK _ _ ?_; clear hK K)
    refine via ?_
    ((first | refine qp1 rfl rfl fun K hK => ?_ | refine qp3 rfl rfl fun K hK => ?_); simp (disch := (first | omega | (simp only [sz] <;> omega) | fail)) only [go_sem]; refine ⟨_, _, .load _ (hp0 _ _) (hm0 _ _) (by omega), ?_⟩; (try simp only [go_sem]); with_reducible refine hK _ _ ?_; clear hK K)
    rw [load_same, hW3.tells (r := 16) (by decide) h16, hP3.gk t k _ htT (by omega) ho, hacc]
    repeat (first | refine Goes.reg ?_ | refine Goes.ctl2 rfl ?_ | ((first | refine qv1 rfl rfl rfl fun K hK => ?_ | refine qv3 rfl rfl rfl fun K hK => ?_ | refine qv2 rfl rfl rfl rfl rfl rfl fun K hK => ?_ | refine qv4 rfl rfl rfl rfl rfl rfl fun K hK => ?_ | refine qn1 rfl rfl rfl fun K hK => ?_ | refine qn3 rfl rfl rfl fun K hK => ?_ | refine qt1 rfl rfl rfl fun K hK => ?_ | refine qt3 rfl rfl rfl fun K hK => ?_); simp (disch := (first | omega | (simp only [sz] <;> omega) | fail)) only [go_sem, e1, e3, e5, k1, hbox5, hbG, hba, gf1]; with_reducible refine hK _ _ ?_; clear hK K) | refine At.nil rfl ?_ | refine RG.nil rfl ?_ | ((first | refine AtL.skipg rfl rfl rfl rfl rfl ?_ | refine RGL.skipg rfl rfl rfl rfl rfl ?_ | refine AtL.skipu rfl rfl rfl rfl ?_ | refine RGL.skipu rfl rfl rfl rfl ?_); simp only [putL, List.set_cons_zero, List.set_cons_succ]) | refine Goes.yes rfl ?_ | refine Goes.no rfl ?_ | refine Goes.drawR [] (by kernel_rfl) ?_)
    exact ih3 _ _ _ _ (by omega) ⟨k + 1, st5 + 1, rfl, by omega, by omega, rfl, rfl, rfl, rfl, rfl, rfl, rfl, rfl, rfl, rfl, rfl, rfl, by push_cast; rfl⟩
  obtain rfl : k = (G3 t).length := by omega
  clear ih3
  obtain ⟨nH, gH, pH, rfl, hnH, hbH, hpH, hallH⟩ := id hH5
  obtain ⟨⟨ah, ih0⟩, hptH⟩ : ∃ p, pH[t]? = some p := ⟨_, List.getElem?_eq_getElem (by rw [hpH, hzs_len]; omega)⟩
  obtain ⟨hi3, ⟨_, hbad⟩ | ⟨nh, gh, hah, hnh, hbh⟩⟩ := hallH t _ _ hptH (hzs_get H3 htT)
  · simp at hbad
  simp only at hi3 hah
  subst hi3 hah
  simp only [numRow, List.map_cons, List.map_nil] at hbh
  have e6 := rowS_get hptH
  simp only at e6
  have h140 : t * 2 < gsz N T 14 := by show t * 2 < T * 2; omega
  have h141 : t * 2 + 1 < gsz N T 14 := by show t * 2 + 1 < T * 2; omega
  have e7 : IntKind.i64.wrap ((UInt64.ofNat (H3 t 0)).toNat : Int) = (H3 t 0 : Int) := nat_i64 (hP3.hlt _ _)
  have e8 : IntKind.i64.wrap ((UInt64.ofNat (H3 t 1)).toNat : Int) = (H3 t 1 : Int) := nat_i64 (hP3.hlt _ _)
  refine viaF (And.intro e1 (And.intro e3 (And.intro hbox5 (And.intro hbG hgeo5)))) ?_
  ((first | refine qc1 rfl rfl fun K hK => ?_ | refine qc3 rfl rfl fun K hK => ?_); simp (disch := (first | omega | (simp only [sz] <;> omega) | fail)) only [go_sem]; refine ⟨_, _, gHazardN _ N T t 0 (by omega) (by omega) htT (by omega), ?_⟩; (try simp only [go_sem]); with_reducible refine hK _ _ ?_; clear hK K)
  refine via ?_
  ((first | refine qp1 rfl rfl fun K hK => ?_ | refine qp3 rfl rfl fun K hK => ?_); simp (disch := (first | omega | (simp only [sz] <;> omega) | fail)) only [go_sem]; refine ⟨_, _, .load _ (hp0 _ _) (hm0 _ _) (by omega), ?_⟩; (try simp only [go_sem]); with_reducible refine hK _ _ ?_; clear hK K)
  rw [load_same, hW3.tells (r := 14) (by decide) h140, show W3 14 (t * 2) = _ from hP3.haz t 0 htT (by omega), hacc]
  repeat (first | refine Goes.reg ?_ | refine Goes.ctl2 rfl ?_ | ((first | refine qv1 rfl rfl rfl fun K hK => ?_ | refine qv3 rfl rfl rfl fun K hK => ?_ | refine qv2 rfl rfl rfl rfl rfl rfl fun K hK => ?_ | refine qv4 rfl rfl rfl rfl rfl rfl fun K hK => ?_ | refine qn1 rfl rfl rfl fun K hK => ?_ | refine qn3 rfl rfl rfl fun K hK => ?_ | refine qt1 rfl rfl rfl fun K hK => ?_ | refine qt3 rfl rfl rfl fun K hK => ?_); simp (disch := (first | omega | (simp only [sz] <;> omega) | fail)) only [go_sem, e1, e6, e7, hbox5, hbH, hbh, hgeo5]; with_reducible refine hK _ _ ?_; clear hK K) | refine At.nil rfl ?_ | refine RG.nil rfl ?_ | ((first | refine AtL.skipg rfl rfl rfl rfl rfl ?_ | refine RGL.skipg rfl rfl rfl rfl rfl ?_ | refine AtL.skipu rfl rfl rfl rfl ?_ | refine RGL.skipu rfl rfl rfl rfl ?_); simp only [putL, List.set_cons_zero, List.set_cons_succ]) | refine Goes.yes rfl ?_ | refine Goes.no rfl ?_ | refine Goes.drawR [] (by kernel_rfl) ?_)
  ((first | refine qc1 rfl rfl fun K hK => ?_ | refine qc3 rfl rfl fun K hK => ?_); simp (disch := (first | omega | (simp only [sz] <;> omega) | fail)) only [go_sem]; refine ⟨_, _, gHazardN _ N T t 1 (by omega) (by omega) htT (by omega), ?_⟩; (try simp only [go_sem]); with_reducible refine hK _ _ ?_; clear hK K)
  refine via ?_
  ((first | refine qp1 rfl rfl fun K hK => ?_ | refine qp3 rfl rfl fun K hK => ?_); simp (disch := (first | omega | (simp only [sz] <;> omega) | fail)) only [go_sem]; refine ⟨_, _, .load _ (hp0 _ _) (hm0 _ _) (by omega), ?_⟩; (try simp only [go_sem]); with_reducible refine hK _ _ ?_; clear hK K)
  rw [load_same, hW3.tells (r := 14) (by decide) h141, hP3.haz t 1 htT (by omega), hacc]
  repeat (first | refine Goes.reg ?_ | refine Goes.ctl2 rfl ?_ | ((first | refine qv1 rfl rfl rfl fun K hK => ?_ | refine qv3 rfl rfl rfl fun K hK => ?_ | refine qv2 rfl rfl rfl rfl rfl rfl fun K hK => ?_ | refine qv4 rfl rfl rfl rfl rfl rfl fun K hK => ?_ | refine qn1 rfl rfl rfl fun K hK => ?_ | refine qn3 rfl rfl rfl fun K hK => ?_ | refine qt1 rfl rfl rfl fun K hK => ?_ | refine qt3 rfl rfl rfl fun K hK => ?_); simp (disch := (first | omega | (simp only [sz] <;> omega) | fail)) only [go_sem, e1, e6, e8, hbox5, hbH, hbh, hgeo5]; with_reducible refine hK _ _ ?_; clear hK K) | refine At.nil rfl ?_ | refine RG.nil rfl ?_ | ((first | refine AtL.skipg rfl rfl rfl rfl rfl ?_ | refine RGL.skipg rfl rfl rfl rfl rfl ?_ | refine AtL.skipu rfl rfl rfl rfl ?_ | refine RGL.skipu rfl rfl rfl rfl ?_); simp only [putL, List.set_cons_zero, List.set_cons_succ]) | refine Goes.yes rfl ?_ | refine Goes.no rfl ?_ | refine Goes.drawR [] (by kernel_rfl) ?_)
  exact ih _ _ _ _ (by omega) ⟨i + 1, q5, l5, aF3, _, _, ao3, nF3, ws3, W3, free3, out3, ver3, H3, G3, R ++ [.port 0 t (st5 + 1 + 1)], rfl, by omega, hI5.ge (Ge.refl _) hlen5 (Nat.le_trans hq5' (by omega)) (by omega), rfl, rfl, rfl, rfl, rfl, rfl, rfl, rfl, rfl, by push_cast; rfl⟩
def acts8 (len : Nat) (z : Nat → Nat → Int) : List Act8 := (List.range len).map fun i => ⟨(z i 0).toNat, (z i 1).toNat, z i 2, z i 3⟩
theorem acts8_len {len : Nat} {z : Nat → Nat → Int} : (acts8 len z).length = len := by simp [acts8]
theorem u8_of8 {n : Int} (h : (Lit.int .u8 n).wf = true) : 0 ≤ n ∧ n ≤ 255 := by simpa [Lit.wf, IntKind.min, IntKind.max, IntKind.signed, IntKind.bits] using h
theorem i64_of8 {n : Int} (h : (Lit.int .i64 n).wf = true) : -9223372036854775808 ≤ n ∧ n ≤ 9223372036854775807 := by simpa [Lit.wf, IntKind.min, IntKind.max, IntKind.signed, IntKind.bits] using h
theorem acts8_slice {a : Option Addr} {len cap : Nat} {z : Nat → Nat → Int} {w : World} (h : RowS [.u8, .u8, .i64, .i64] w a len cap z) :
    len ≤ 9223372036854775807 ∧ (∀ y ∈ acts8 len z, Bd8 y) ∧ (0 < (acts8 len z).length → ∃ x, a = some x ∧ ∀ (i : Nat) (y : Act8), (acts8 len z)[i]? = some y → ∀ (j : Nat) (v : Value), (a8C y)[j]? = some v → w.cell? (x.add (i * 4 + j)) = some v) := by
  rcases h with ⟨rfl, rfl, rfl⟩ | ⟨x, rfl, hl, hm, hc⟩
  · exact ⟨by omega, fun y hy => by simp [acts8] at hy, fun h => by simp [acts8] at h⟩
  · refine ⟨by unfold maxLen at hm; omega, fun y hy => ?_, fun _ => ⟨x, rfl, fun i y hy j v hv => ?_⟩⟩
    · obtain ⟨i, hi, rfl⟩ := List.mem_map.1 hy
      have hi := List.mem_range.1 hi
      have h0 := u8_of8 (hc i hi 0 .u8 rfl).2
      have h1 := u8_of8 (hc i hi 1 .u8 rfl).2
      have h2 := i64_of8 (hc i hi 2 .i64 rfl).2
      have h3 := i64_of8 (hc i hi 3 .i64 rfl).2
      simp only [Bd8]
      omega
    · have hi : i < len := by have := (List.getElem?_eq_some_iff.1 hy).1; rw [acts8_len] at this; exact this
      simp only [acts8, List.getElem?_map, List.getElem?_range hi, Option.map_some, Option.some.injEq] at hy
      subst hy
      have key : ∀ (j : Nat) (k : IntKind), [IntKind.u8, .u8, .i64, .i64][j]? = some k → w.cell? (x.add (i * 4 + j)) = some (.int k (z i j)) ∧ (Lit.int k (z i j)).wf = true := fun j k hk => hc i hi j k hk
      match j, hv with
      | 0, hv =>
        obtain ⟨h1, h2⟩ := key 0 .u8 rfl
        simp only [a8C, List.getElem?_cons_zero, Option.some.injEq] at hv
        rw [h1, ← hv, Int.toNat_of_nonneg (u8_of8 h2).1]
      | 1, hv =>
        obtain ⟨h1, h2⟩ := key 1 .u8 rfl
        simp only [a8C, List.getElem?_cons_zero, List.getElem?_cons_succ, Option.some.injEq] at hv
        rw [h1, ← hv, Int.toNat_of_nonneg (u8_of8 h2).1]
      | 2, hv =>
        obtain ⟨h1, h2⟩ := key 2 .i64 rfl
        simp only [a8C, List.getElem?_cons_zero, List.getElem?_cons_succ, Option.some.injEq] at hv
        rw [h1, ← hv]
      | 3, hv =>
        obtain ⟨h1, h2⟩ := key 3 .i64 rfl
        simp only [a8C, List.getElem?_cons_zero, List.getElem?_cons_succ, Option.some.injEq] at hv
        rw [h1, ← hv]
      | j + 4, hv => simp [a8C] at hv
theorem poolPlay_walk (a0 a1 : Int) (a2 : Option Addr) (len2 cap2 : Nat) (z2 : Nat → Nat → Int) (w : World) (w0 : (Lit.int .u8 a0).wf = true) (w1 : (Lit.int .u8 a1).wf = true) (w2 : RowS [.u8, .u8, .i64, .i64] w a2 len2 cap2 z2) :
    Calls Try.prog 7 #[.int .u8 a0, .int .u8 a1, .slice a2 len2 cap2] w fun e w' => e = .returned (.bool true) ∧ Below w.heap.size w w' := by
  have h0 := u8_of8 w0
  obtain ⟨pg, rfl⟩ := Int.eq_ofNat_of_zero_le h0.1
  have h00 := u8_of8 w1
  obtain ⟨th, rfl⟩ := Int.eq_ofNat_of_zero_le h00.1
  obtain ⟨h1, h2, h3⟩ := acts8_slice w2
  obtain ⟨sl, ob, bk, bs, hren, hat, hrow, hlies⟩ := law_slice a8C a8C_len (by decide) a8C_plain (acts8 len2 z2) a2 cap2 w 0 h3
  have L := (poolPlay_law pg th sl cap2 (acts8 len2 z2) ob hat hrow (by rw [acts8_len]; exact h1) (by omega) (by omega) h2).calls ⟨fun _ => bk, fun _ => bs, fun _ => 0⟩ w (fun n b hb => by
    match n, hb with
    | 0, hb => exact hlies b (by simpa using hb)
    | n + 1, hb => simp at hb) (by simp)
  simp only [List.map_toArray, List.map_cons, List.map_nil, ren_int] at L
  rw [hren _ rfl rfl rfl, acts8_len] at L
  exact L.mono fun e w' h => ⟨h.1, h.2.below⟩
end Go.Proofs.Ytceddijolfpppaa
