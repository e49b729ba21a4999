/- The program's WithConstraint and WithoutConstraint. -/
import Derived.Test.YtjpcdbdaimonlaaDelC
import Derived.Test.YtjpcdbdaimonlaaWithS
namespace Go.Proofs.Ytjpcdbdaimonlaa
open Go.ChangeShapes Go.WideShapes Go.ChangeAt Go.RowKit
open Go.Shelf
set_option linter.unusedVariables false
set_option maxRecDepth 100000

/-- The cells of constraints that lie in a row. -/
def FlatC (w : World) (B : Nat) (uss : List (List Value)) (xs : List Con) : Prop := uss.length = xs.length ∧ (∀ u ∈ uss, u.length = 5) ∧ ∀ (i : Nat) u x, uss[i]? = some u → xs[i]? = some x → ConR w B u x
theorem flat_take5 {uss : List (List Value)} (h : ∀ u ∈ uss, u.length = 5) (j : Nat) : uss.flatten.take (j * 5) = (uss.take j).flatten := by
  induction uss generalizing j with
  | nil => simp
  | cons u uss ih =>
    cases j with
    | zero => simp
    | succ j =>
      have hu := h u (by simp)
      rw [List.flatten_cons, List.take_succ_cons, List.flatten_cons, ← ih (fun v hv => h v (by simp [hv])) j, Nat.succ_mul, List.take_append, hu, List.take_of_length_le (by omega), Nat.add_sub_cancel]
theorem flat_drop5 {uss : List (List Value)} (h : ∀ u ∈ uss, u.length = 5) (j : Nat) : uss.flatten.drop (j * 5) = (uss.drop j).flatten := by
  induction uss generalizing j with
  | nil => simp
  | cons u uss ih =>
    cases j with
    | zero => simp
    | succ j =>
      have hu := h u (by simp)
      rw [List.flatten_cons, List.drop_succ_cons, ← ih (fun v hv => h v (by simp [hv])) j, Nat.succ_mul, List.drop_append, hu, List.drop_of_length_le (by omega), Nat.add_sub_cancel, List.nil_append]
section
variable {w w' : World} {B B' n : Nat} {uss : List (List Value)} {xs : List Con}
theorem FlatC.one (h : FlatC w B uss xs) : ∀ u ∈ uss.flatten, u.oneCell' = true := by
  intro u hu
  obtain ⟨us, h1, h2⟩ := List.mem_flatten.1 hu
  obtain ⟨i, hi⟩ := List.mem_iff_getElem?.1 h1
  have hl := (List.getElem?_eq_some_iff.1 hi).1
  have hx : xs[i]? = some (xs[i]'(by rw [← h.1]; exact hl)) := List.getElem?_eq_getElem _
  obtain ⟨va, aa, ra, cv, ca, cr, e, -⟩ := h.2.2 i us _ hi hx
  rw [e] at h2
  simp at h2
  rcases h2 with rfl | rfl | rfl | rfl | rfl <;> rfl
theorem FlatC.keep (h : FlatC w B uss xs) (hk : ∀ p : Addr, p.block < B → w'.cell? p = w.cell? p) : FlatC w' B uss xs := ⟨h.1, h.2.1, fun i u x hu hx => ConR.keeps _ _ _ _ _ hk (h.2.2 i u x hu hx)⟩
theorem FlatC.more (h : FlatC w B uss xs) (hB : B ≤ B') : FlatC w B' uss xs := ⟨h.1, h.2.1, fun i u x hu hx => ConR.widens _ _ _ _ _ hB (h.2.2 i u x hu hx)⟩
theorem FlatC.snoc {u : List Value} {x : Con} (h : FlatC w B uss xs) (hx : ConR w B u x) : FlatC w B (uss ++ [u]) (xs ++ [x]) := by
  obtain ⟨va, aa, ra, cv, ca, cr, e, -⟩ := id hx
  refine ⟨by simp [h.1], fun v hv => ?_, fun i v y hv hy => ?_⟩
  · rcases List.mem_append.1 hv with h' | h'
    · exact h.2.1 v h'
    · rw [List.mem_singleton.1 h', e]; rfl
  · rcases Nat.lt_or_ge i uss.length with hi | hi
    · rw [List.getElem?_append_left hi] at hv
      rw [List.getElem?_append_left (by rw [← h.1]; exact hi)] at hy
      exact h.2.2 i v y hv hy
    · rw [List.getElem?_append_right hi] at hv
      rw [List.getElem?_append_right (by rw [← h.1]; exact hi), ← h.1] at hy
      have hi2 : i - uss.length = 0 := by
        have := (List.getElem?_eq_some_iff.1 hv).1
        simp at this; omega
      rw [hi2] at hv hy
      simp at hv hy
      rw [← hv, ← hy]; exact hx
theorem FlatC.erase (h : FlatC w B uss xs) (j : Nat) : FlatC w B (uss.eraseIdx j) (xs.eraseIdx j) := by
  refine ⟨?_, fun v hv => h.2.1 v (List.mem_of_mem_eraseIdx hv), fun i v y hv hy => ?_⟩
  · rw [List.length_eraseIdx, List.length_eraseIdx, h.1]
  · rw [List.getElem?_eraseIdx] at hv hy
    by_cases hi : i < j
    · rw [if_pos hi] at hv hy; exact h.2.2 i v y hv hy
    · rw [if_neg hi] at hv hy; exact h.2.2 (i + 1) v y hv hy
theorem FlatC.cut (h : FlatC w B uss xs) (j : Nat) : uss.flatten.take (j * 5) ++ uss.flatten.drop ((j + 1) * 5) = (uss.eraseIdx j).flatten := by
  rw [flat_take5 h.2.1, flat_drop5 h.2.1, List.eraseIdx_eq_take_drop_succ, List.flatten_append]
theorem FlatC.of {A : Option Addr} (h : ConsR w B A n xs) : ∃ uss, FlatC w B uss xs ∧ (∀ a, A = some a → ∀ t u, uss.flatten[t]? = some u → w.cell? (a.add t) = some u) ∧ (A = none → n = 0) := by
  rcases Nat.eq_zero_or_pos n with h0 | h0
  · have hx : xs = [] := List.eq_nil_of_length_eq_zero (by rw [h.len, h0])
    exact ⟨[], ⟨by rw [hx]; rfl, fun u hu => by simp at hu, fun i u x hu => by simp at hu⟩, fun a _ t u hu => by simp at hu, fun _ => h0⟩
  · obtain ⟨b, o, e, hb, hc⟩ := h.2.2 h0
    obtain ⟨uss, hl, hq⟩ := list_of n (fun i us => ∃ x, xs[i]? = some x ∧ us.length = 5 ∧ (∀ j u, us[j]? = some u → w.cell? ⟨b, o + i * 5 + j, none⟩ = some u) ∧ ConR w B us x) (fun i hi => by
      obtain ⟨b', o', x, us, e', _, hx, hul, hcc, hr⟩ := h.at_ hi
      rw [e] at e'
      injection e' with e'
      injection e' with e1 e2 e3
      subst e1 e2
      exact ⟨us, x, hx, hul, hcc, hr⟩)
    have h5 : ∀ u ∈ uss, u.length = 5 := fun u hu => by
      obtain ⟨i, hi⟩ := List.mem_iff_getElem?.1 hu
      obtain ⟨x, -, h5, -⟩ := hq i u hi
      exact h5
    refine ⟨uss, ⟨by rw [hl, h.len], h5, fun i u x hu hx => ?_⟩, fun a ha t u hu => ?_, fun hn => by rw [hn] at e; cases e⟩
    · obtain ⟨y, hy, -, -, hr⟩ := hq i u hu
      rw [hx] at hy
      injection hy with hy
      rw [hy]; exact hr
    · rw [e] at ha
      injection ha with ha
      subst ha
      have ht := (List.getElem?_eq_some_iff.1 hu).1
      rw [flat_len h5, hl] at ht
      have hi : t / 5 < uss.length := by omega
      have hg : uss[t / 5]? = some uss[t / 5] := List.getElem?_eq_getElem hi
      obtain ⟨x, -, hul, hcc, -⟩ := hq _ _ hg
      have hj : t % 5 < uss[t / 5].length := by rw [hul]; omega
      have hf := flat_at h5 hg (List.getElem?_eq_getElem hj)
      rw [show t / 5 * 5 + t % 5 = t by omega, hu] at hf
      have := hcc (t % 5) _ (List.getElem?_eq_getElem hj)
      rw [show o + t / 5 * 5 + t % 5 = o + t by omega] at this
      rw [Addr.add_lit, this]
      exact hf.symm
theorem FlatC.row {g : Nat} (h : FlatC w B uss xs) (hB : B ≤ B') (hc : ∀ t u, uss.flatten[t]? = some u → w.cell? ⟨g, t, none⟩ = some u) (hg : g < B') (hn : xs.length ≤ 9223372036854775807) : ConsR w B' (some ⟨g, 0, none⟩) xs.length xs := by
  refine ⟨rfl, hn, fun h0 => ⟨_, _, rfl, hg, fun i x hx => ?_⟩⟩
  have hi : i < uss.length := by rw [h.1]; exact (List.getElem?_eq_some_iff.1 hx).1
  have hu : uss[i]? = some uss[i] := List.getElem?_eq_getElem hi
  refine ⟨uss[i], h.2.1 _ (List.getElem_mem hi), fun j u hj => ?_, ConR.widens _ _ _ _ _ hB (h.2.2 i _ x hu hx)⟩
  rw [Nat.zero_add]
  exact hc _ _ (flat_at h.2.1 hu hj)
theorem FlatC.own {base : Nat} {v : Value} (h : FlatC w B uss xs) (hB : B ≤ w.heap.size) (ho : w.ownsRow base 53 5 v xs.length uss.flatten) (hn : xs.length ≤ 9223372036854775807) : ∃ A c, v = .slice A xs.length c ∧ ConsR w w.heap.size A xs.length xs ∧ xs.length ≤ c := by
  rcases ho.2 with ⟨rfl, h6⟩ | ⟨g, cap, cur, rfl, hg, hh, hcap, -⟩
  · exact ⟨none, 0, by rw [h6], ⟨rfl, hn, fun hn => absurd hn (by omega)⟩, by omega⟩
  · exact ⟨_, cap, rfl, h.row hB (fun t u hu => by have := ho.cells (g := g) rfl t u hu; rw [add_own] at this; exact this) (ho.lt g rfl).2 hn, hcap⟩
end
theorem TBlk.new2 (W : World) (o : Obj) (cs : Array Value) (t : TypeId) : TBlk t ((W.alloc o).alloc (.cells cs t)) (W.heap.size + 1) cs := by
  have := TBlk.new (W.alloc o) cs t
  rw [size_alloc_] at this
  exact this
theorem have_then {A B : Prop} (h : A) (k : A → B) : B := k h
theorem CMod.zero (w : World) (B : Nat) : CMod w B [.slice none 0 0, .slice none 0 0] ⟨[], []⟩ [] [] :=
  ⟨_, _, rfl, ⟨HoldR.nil _ _ _ _, by simp, rfl⟩, ⟨[], rfl, fun u hu => by simp at hu, World.ownsRow_nil _ _ _ _, by simp, fun i u x hu => by simp at hu⟩, rfl, by simp⟩
theorem addC_six {m : Mod} {x : Con} (h : vmodF (addC m x) = true) : (addC m x).cons.length ≤ 1048576 := by
  unfold vmodF at h
  simp at h
  omega
theorem within_b0 (n lo hi : Int) (w : World) (b : Bool) (h : inB n lo hi = b) : Calls Try.prog 15 #[.int .i64 n, .int .i64 lo, .int .i64 hi] w fun e w' => e = .returned (.bool b) ∧ w = w' := by
  subst h
  refine (within n lo hi w).mono ?_
  rintro e w' ⟨rfl, rfl⟩
  exact ⟨rfl, rfl⟩
theorem own_pos {w : World} {base n size : Nat} {e : TypeId} {v : Value} {xs : List Value} (h : w.ownsRow base e size v n xs) (hn : 0 < n) : ∃ g cap, v = .slice (some ⟨g, 0, none⟩) n cap ∧ base ≤ g ∧ g < w.heap.size ∧ n ≤ cap ∧ cap ≤ 9223372036854775807 ∧ (∀ t u, xs[t]? = some u → w.cell? ⟨g, t, none⟩ = some u) ∧ ∀ t, w.frozen? ⟨g, t, none⟩ = false := by
  rcases h.2 with ⟨-, h6⟩ | ⟨g, cap, cur, rfl, hg, hh, hcap, hmax, -⟩
  · omega
  · exact ⟨g, cap, rfl, hg, lt_heap hh, hcap, hmax, fun t u hu => by have := h.cells (g := g) rfl t u hu; rw [add_own] at this; exact this, fun t => frozen_of_row w g t _ _ hh⟩
end Go.Proofs.Ytjpcdbdaimonlaa
