/-
  A run of the abstract machine that the kernel carries out, part 1: frames as trees; the names in a value.
  No condition: definitions and laws.
-/
import Derived.Test.YtceddijolfpppaaLaw
namespace Go.Proofs.Ytceddijolfpppaa
open Go Go.RowKit
set_option linter.unusedSimpArgs false
set_option linter.unusedVariables false

/-- A row, as a tree. -/
inductive Tr (α : Type) where
  | nil
  | leaf (x : α)
  | node (n : Nat) (l r : Tr α)

namespace Tr
variable {α : Type}
def toL : Tr α → List α
  | nil => []
  | leaf x => [x]
  | node _ l r => l.toL ++ r.toL
/-- The sizes that it bears are right. -/
def wf : Tr α → Prop
  | nil => True
  | leaf _ => True
  | node n l r => l.toL.length = n ∧ l.wf ∧ r.wf
def get (d : α) : Tr α → Nat → α
  | nil, _ => d
  | leaf x, i => match i with | 0 => x | _ + 1 => d
  | node n l r, i => match Nat.ble n i with | true => get d r (i - n) | false => get d l i
def set : Tr α → Nat → α → Tr α
  | nil, _, _ => nil
  | leaf x, i, v => match i with | 0 => leaf v | _ + 1 => leaf x
  | node n l r, i, v => match Nat.ble n i with | true => node n l (set r (i - n) v) | false => node n (set l i v) r
/-- So many of one. -/
def many (d : α) : Nat → Nat → Tr α
  | 0, n => match n with | 0 => nil | _ + 1 => leaf d
  | f + 1, n => match n with
    | 0 => nil
    | 1 => leaf d
    | n => node (n / 2) (many d f (n / 2)) (many d f (n - n / 2))
def size : Tr α → Nat
  | nil => 0
  | leaf _ => 1
  | node n _ r => n + r.size

theorem get_eq (d : α) : ∀ (t : Tr α) (i : Nat), t.wf → t.get d i = t.toL.getD i d
  | nil, i, _ => by simp [get, toL]
  | leaf x, 0, _ => by simp [get, toL]
  | leaf x, i + 1, _ => by simp [get, toL]
  | node n l r, i, ⟨h1, h2, h3⟩ => by
    unfold get toL
    cases hb : Nat.ble n i with
    | true =>
      have := Nat.le_of_ble_eq_true hb
      simp only
      rw [get_eq d r _ h3, List.getD_eq_getElem?_getD, List.getD_eq_getElem?_getD, List.getElem?_append_right (by omega), h1]
    | false =>
      have : ¬ n ≤ i := fun h => by rw [Nat.ble_eq_true_of_le h] at hb; cases hb
      simp only
      rw [get_eq d l _ h2, List.getD_eq_getElem?_getD, List.getD_eq_getElem?_getD, List.getElem?_append_left (by omega)]
theorem set_eq : ∀ (t : Tr α) (i : Nat) (v : α), t.wf → (t.set i v).toL = t.toL.set i v ∧ (t.set i v).wf
  | nil, i, v, _ => by simp [set, toL, wf]
  | leaf x, 0, v, _ => by simp [set, toL, wf]
  | leaf x, i + 1, v, _ => by simp [set, toL, wf]
  | node n l r, i, v, ⟨h1, h2, h3⟩ => by
    unfold set
    cases hb : Nat.ble n i with
    | true =>
      have := Nat.le_of_ble_eq_true hb
      obtain ⟨k1, k2⟩ := set_eq r (i - n) v h3
      simp only [toL, wf]
      refine ⟨?_, h1, h2, k2⟩
      rw [k1, List.set_append_right _ _ (by omega), h1]
    | false =>
      have : ¬ n ≤ i := fun h => by rw [Nat.ble_eq_true_of_le h] at hb; cases hb
      obtain ⟨k1, k2⟩ := set_eq l i v h2
      simp only [toL, wf]
      refine ⟨?_, ?_, k2, h3⟩
      · rw [k1, List.set_append_left _ _ (by omega)]
      · rw [k1, List.length_set]; exact h1
theorem many_ok (d : α) : ∀ (f n : Nat), n ≤ 2 ^ f → (many d f n).wf ∧ (many d f n).toL = List.replicate n d
  | 0, 0, _ => by simp [many, wf, toL]
  | 0, 1, _ => by simp [many, wf, toL]
  | 0, n + 2, h => by simp at h
  | f + 1, 0, _ => by simp [many, wf, toL]
  | f + 1, 1, _ => by simp [many, wf, toL]
  | f + 1, n + 2, h => by
    have hp : (2 : Nat) ^ (f + 1) = 2 * 2 ^ f := by rw [Nat.pow_succ]; omega
    obtain ⟨h1, h2⟩ := many_ok d f ((n + 2) / 2) (by omega)
    obtain ⟨h3, h4⟩ := many_ok d f (n + 2 - (n + 2) / 2) (by omega)
    simp only [many, wf, toL]
    refine ⟨⟨by rw [h2]; simp, h1, h3⟩, ?_⟩
    rw [h2, h4, List.replicate_append_replicate]
    congr 1
    omega
end Tr

/-! ### names -/
mutual
/-- The blocks that a value names. -/
def nmV : Value → List Nat
  | .pointer (some a) => [a.block]
  | .slice (some a) _ _ => [a.block]
  | .iface _ v => nmV v
  | .agg cs => nmA cs
  | .tuple cs => nmA cs
  | .func _ xs ys => nmA xs ++ nmA ys
  | _ => []
def nmA : Array Value → List Nat
  | ⟨l⟩ => nmL l
def nmL : List Value → List Nat
  | [] => []
  | v :: l => nmV v ++ nmL l
end
mutual
/-- Other names. -/
def mapV (f : Nat → Nat) : Value → Value
  | .pointer (some a) => .pointer (some ⟨f a.block, a.off, a.spot⟩)
  | .slice (some a) n c => .slice (some ⟨f a.block, a.off, a.spot⟩) n c
  | .iface t v => .iface t (mapV f v)
  | .agg cs => .agg (mapA f cs)
  | .tuple cs => .tuple (mapA f cs)
  | .func fn xs ys => .func fn (mapA f xs) (mapA f ys)
  | v => v
def mapA (f : Nat → Nat) : Array Value → Array Value
  | ⟨l⟩ => ⟨mapL f l⟩
def mapL (f : Nat → Nat) : List Value → List Value
  | [] => []
  | v :: l => mapV f v :: mapL f l
end
theorem mapL_eq (f : Nat → Nat) : ∀ l : List Value, mapL f l = l.map (mapV f)
  | [] => by simp [mapL]
  | v :: l => by simp [mapL, mapL_eq f l]
theorem mapA_eq (f : Nat → Nat) (cs : Array Value) : mapA f cs = cs.map (mapV f) := by
  obtain ⟨l⟩ := cs
  simp [mapA, mapL_eq]
theorem nmL_mem : ∀ {l : List Value} {v : Value} {n : Nat}, v ∈ l → n ∈ nmV v → n ∈ nmL l
  | u :: l, v, n, hv, hn => by
    simp only [nmL, List.mem_append]
    rcases List.mem_cons.1 hv with rfl | hv
    · exact .inl hn
    · exact .inr (nmL_mem hv hn)
theorem nmA_mem {cs : Array Value} {v : Value} {n : Nat} (hv : v ∈ cs) (hn : n ∈ nmV v) : n ∈ nmA cs := by
  obtain ⟨l⟩ := cs
  exact nmL_mem (by simpa using hv) hn

theorem ren_mapV (F : Emb) (f : Nat → Nat) : ∀ v : Value, (∀ n ∈ nmV v, F.blk n = f n ∧ F.base n = 0 ∧ F.slack n = 0) → ren F v = mapV f v
  | .pointer (some a), h => by obtain ⟨h1, h2, h3⟩ := h a.block (by simp [nmV]); simp [mapV, adr, h1, h2]
  | .pointer none, _ => by simp [mapV]
  | .slice (some a) n c, h => by obtain ⟨h1, h2, h3⟩ := h a.block (by simp [nmV]); simp [mapV, adr, h1, h2, h3]
  | .slice none n c, _ => by simp [mapV]
  | .iface t v, h => by simp only [ren_iface, mapV]; rw [ren_mapV F f v (fun n hn => h n (by simpa [nmV] using hn))]
  | .agg cs, h => by
    simp only [ren_agg, mapV, mapA_eq]
    congr 1
    exact Array.map_congr_left fun x hx => ren_mapV F f x fun n hn => h n (by simp only [nmV]; exact nmA_mem hx hn)
  | .tuple cs, h => by
    simp only [ren_tuple, mapV, mapA_eq]
    congr 1
    exact Array.map_congr_left fun x hx => ren_mapV F f x fun n hn => h n (by simp only [nmV]; exact nmA_mem hx hn)
  | .func fn xs ys, h => by
    simp only [ren_func, mapV, mapA_eq]
    congr 1
    · exact Array.map_congr_left fun x hx => ren_mapV F f x fun n hn => h n (by simp only [nmV, List.mem_append]; exact .inl (nmA_mem hx hn))
    · exact Array.map_congr_left fun x hx => ren_mapV F f x fun n hn => h n (by simp only [nmV, List.mem_append]; exact .inr (nmA_mem hx hn))
  | .bool b, _ => by simp [mapV]
  | .int k n, _ => by simp [mapV]
  | .float k n, _ => by simp [ren, mapV]
  | .complex k n m, _ => by simp [ren, mapV]
  | .string s, _ => by simp [mapV]
  | .map r, _ => by simp [ren, mapV]
  | .chan r, _ => by simp [ren, mapV]
  | .nilFunc, _ => by simp [mapV]
  | .nilIface, _ => by simp [mapV]
termination_by v => SizeOf.sizeOf v
decreasing_by all_goals (simp_wf; first | omega | (have := Array.sizeOf_lt_of_mem hx; omega))

theorem mapV_ren (f : Nat → Nat) (v : Value) : ren (nameE f) v = mapV f v := ren_mapV _ f v fun _ _ => ⟨rfl, rfl, rfl⟩
theorem mapV_id (f : Nat → Nat) (v : Value) (h : ∀ n ∈ nmV v, f n = n) : mapV f v = v := by
  rw [← ren_mapV (nameE id) f v (fun n hn => ⟨(h n hn).symm, rfl, rfl⟩), ren_id]
theorem clo_names {K : Nat → Prop} {v : Value} (h : ∀ n ∈ nmV v, K n) : Clo K v := by
  have key : ∀ (F F' : Emb) (v : Value), (∀ n ∈ nmV v, F.blk n = F'.blk n ∧ F.base n = F'.base n ∧ F.slack n = F'.slack n) → ren F v = ren F' v := by
    intro F F' v
    induction v using ren.induct with
    | case1 a => intro h; obtain ⟨h1, h2, h3⟩ := h a.block (by simp [nmV]); simp [adr, h1, h2]
    | case2 a n c => intro h; obtain ⟨h1, h2, h3⟩ := h a.block (by simp [nmV]); simp [adr, h1, h2, h3]
    | case3 t v ih => intro h; simp only [ren_iface]; rw [ih (fun n hn => h n (by simpa [nmV] using hn))]
    | case4 cs ih =>
      intro h
      simp only [ren_agg]
      congr 1
      exact Array.map_congr_left fun x hx => ih ⟨x, hx⟩ fun n hn => h n (by simp only [nmV]; exact nmA_mem hx hn)
    | case5 cs ih =>
      intro h
      simp only [ren_tuple]
      congr 1
      exact Array.map_congr_left fun x hx => ih ⟨x, hx⟩ fun n hn => h n (by simp only [nmV]; exact nmA_mem hx hn)
    | case6 fn xs ys ih1 ih2 =>
      intro h
      simp only [ren_func]
      congr 1
      · exact Array.map_congr_left fun x hx => ih1 ⟨x, hx⟩ fun n hn => h n (by simp only [nmV, List.mem_append]; exact .inl (nmA_mem hx hn))
      · exact Array.map_congr_left fun x hx => ih2 ⟨x, hx⟩ fun n hn => h n (by simp only [nmV, List.mem_append]; exact .inr (nmA_mem hx hn))
    | case7 v h1 h2 h3 h4 h5 h6 =>
      intro _
      cases v with
      | pointer a => cases a with | none => simp | some a => exact absurd rfl (h1 a)
      | slice a n c => cases a with | none => simp | some a => exact absurd rfl (h2 a n c)
      | iface t v => exact absurd rfl (h3 t v)
      | agg cs => exact absurd rfl (h4 cs)
      | tuple cs => exact absurd rfl (h5 cs)
      | func fn xs ys => exact absurd rfl (h6 fn xs ys)
      | _ => simp [ren]
  exact fun F F' hs => key F F' v fun n hn => hs n (h n hn)

mutual
theorem nm_mapV (f : Nat → Nat) : ∀ v : Value, nmV (mapV f v) = (nmV v).map f
  | .pointer (some a) => by simp [mapV, nmV]
  | .pointer none => by simp [mapV, nmV]
  | .slice (some a) n c => by simp [mapV, nmV]
  | .slice none n c => by simp [mapV, nmV]
  | .iface t v => by simp only [mapV, nmV]; exact nm_mapV f v
  | .agg cs => by simp only [mapV, nmV]; exact nm_mapA f cs
  | .tuple cs => by simp only [mapV, nmV]; exact nm_mapA f cs
  | .func fn xs ys => by simp only [mapV, nmV, List.map_append]; rw [nm_mapA f xs, nm_mapA f ys]
  | .bool b => by simp [mapV, nmV]
  | .int k n => by simp [mapV, nmV]
  | .float k n => by simp [mapV, nmV]
  | .complex k n m => by simp [mapV, nmV]
  | .string s => by simp [mapV, nmV]
  | .map r => by simp [mapV, nmV]
  | .chan r => by simp [mapV, nmV]
  | .nilFunc => by simp [mapV, nmV]
  | .nilIface => by simp [mapV, nmV]
theorem nm_mapA (f : Nat → Nat) : ∀ cs : Array Value, nmA (mapA f cs) = (nmA cs).map f
  | ⟨l⟩ => by simp only [mapA, nmA]; exact nm_mapL f l
theorem nm_mapL (f : Nat → Nat) : ∀ l : List Value, nmL (mapL f l) = (nmL l).map f
  | [] => by simp [mapL, nmL]
  | v :: l => by simp only [mapL, nmL, List.map_append]; rw [nm_mapV f v, nm_mapL f l]
end

/-- No name of a row. -/
def highB (v : Value) : Bool := (nmV v).all fun n => Nat.ble VB n
/-- Other names, if there are any. -/
def mvV (f : Nat → Nat) (v : Value) : Value := match highB v with | true => v | false => mapV f v
theorem mvV_eq {f : Nat → Nat} (hf : ∀ n, VB ≤ n → f n = n) (v : Value) : mvV f v = mapV f v := by
  unfold mvV
  cases h : highB v with
  | false => rfl
  | true => exact (mapV_id f v fun n hn => hf n (Nat.le_of_ble_eq_true (List.all_eq_true.1 h n hn))).symm
end Go.Proofs.Ytceddijolfpppaa
