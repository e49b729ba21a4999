/- Fresh slices whose capacity is less than their block: what slices.Clip leaves. -/
import Derived.Test.YtjpcdbdaimonlaaApp
import Derived.Laws.OwnMore
import Derived.Lib.SliceRun
namespace Go.Proofs.Ytjpcdbdaimonlaa
open Go.ChangeShapes Go.WideShapes Go.ChangeAt Go.RowKit
open Go.Shelf
set_option linter.unusedVariables false
set_option maxRecDepth 100000

/-- v holds the cells xs at the head of a block of its own, at or above base. -/
def HoldR (w : World) (base : Nat) (e : TypeId) (size : Nat) (v : Value) (n : Nat) (xs : List Value) : Prop :=
  xs.length = n * size ∧
  ((v = .slice none 0 0 ∧ n = 0) ∨
   ∃ g cap cur, v = .slice (some ⟨g, 0, none⟩) n cap ∧ base ≤ g ∧ w.heap[g]? = some (.cells cur e (0, 0)) ∧ n ≤ cap ∧ cap ≤ maxLen ∧ cur.toList.take (n * size) = xs)
section
variable {w w' : World} {base base' n size : Nat} {e : TypeId} {v : Value} {xs : List Value}
theorem HoldR.of_own (h : w.ownsRow base e size v n xs) : HoldR w base e size v n xs :=
  ⟨h.1, h.2.imp id fun ⟨g, cap, cur, h1, h2, h3, h4, h5, _, h7⟩ => ⟨g, cap, cur, h1, h2, h3, h4, h5, h7⟩⟩
theorem HoldR.below (h : HoldR w base e size v n xs) (hb : Below w.heap.size w w') : HoldR w' base e size v n xs :=
  ⟨h.1, h.2.imp id fun ⟨g, cap, cur, h1, h2, h3, r⟩ => ⟨g, cap, cur, h1, h2, (hb.block g (Array.getElem?_eq_some_iff.1 h3).1).trans h3, r⟩⟩
theorem HoldR.base_ (h : HoldR w base e size v n xs) (hb : base' ≤ base) : HoldR w base' e size v n xs :=
  ⟨h.1, h.2.imp id fun ⟨g, cap, cur, h1, h2, r⟩ => ⟨g, cap, cur, h1, Nat.le_trans hb h2, r⟩⟩
theorem HoldR.nil (w : World) (base : Nat) (e : TypeId) (size : Nat) : HoldR w base e size (.slice none 0 0) 0 [] := ⟨by simp, .inl ⟨rfl, rfl⟩⟩
theorem HoldR.form (h : HoldR w base e size v n xs) : ∃ A c, v = .slice A n c := by
  rcases h.2 with ⟨h1, h2⟩ | ⟨g, cap, cur, h1, _⟩
  · exact ⟨none, 0, by rw [h1, h2]⟩
  · exact ⟨_, _, h1⟩
theorem HoldR.pos {A : Option Addr} {c : Nat} (h : HoldR w base e size (.slice A n c) n xs) (hn : 0 < n) : ∃ g, A = some ⟨g, 0, none⟩ ∧ base ≤ g ∧ g < w.heap.size := by
  rcases h.2 with ⟨_, h2⟩ | ⟨g, cap, cur, h1, h2, h3, _⟩
  · omega
  · injection h1 with e1 e2 e3
    exact ⟨g, e1, h2, (Array.getElem?_eq_some_iff.1 h3).1⟩
theorem HoldR.capLe {A : Option Addr} {c : Nat} (h : HoldR w base e size (.slice A n c) n xs) : n ≤ c := by
  rcases h.2 with ⟨h1, h2⟩ | ⟨g, cap, cur, h1, _, _, h4, _⟩
  · omega
  · injection h1 with e1 e2 e3; omega
theorem HoldR.cellAt {g c : Nat} (h : HoldR w base e size (.slice (some ⟨g, 0, none⟩) n c) n xs) (j : Nat) (hj : j < n * size) : w.cell? ⟨g, j, none⟩ = xs[j]? := by
  rcases h.2 with ⟨h', _⟩ | ⟨g', cap', cur, h', _, hg, _, _, htake⟩
  · simp at h'
  · simp only [Value.slice.injEq, Option.some.injEq, Addr.mk.injEq, and_true, true_and] at h'
    obtain ⟨rfl, rfl⟩ := h'
    rw [cell_of_row w g j cur e (0, 0) hg, ← htake, List.getElem?_take, if_pos hj]
    simp
theorem HoldR.frozenAt {g c : Nat} (h : HoldR w base e size (.slice (some ⟨g, 0, none⟩) n c) n xs) (j : Nat) : w.frozen? ⟨g, j, none⟩ = false := by
  rcases h.2 with ⟨h', _⟩ | ⟨g', cap', cur, h', _, hg, _⟩
  · simp at h'
  · simp only [Value.slice.injEq, Option.some.injEq, Addr.mk.injEq, and_true, true_and] at h'
    obtain ⟨rfl, rfl⟩ := h'
    exact frozen_of_row w g j cur e hg
theorem HoldR.stored {g c : Nat} (h : HoldR w base e size (.slice (some ⟨g, 0, none⟩) n c) n xs) (j : Nat) (u : Value) : HoldR (w.setCell ⟨g, j, none⟩ u) base e size (.slice (some ⟨g, 0, none⟩) n c) n (xs.set j u) := by
  rcases h.2 with ⟨h', _⟩ | ⟨g', cap', cur, h', hb, hg, hnc, hcm, htake⟩
  · simp at h'
  · simp only [Value.slice.injEq, Option.some.injEq, Addr.mk.injEq, and_true, true_and] at h'
    obtain ⟨rfl, rfl⟩ := h'
    refine ⟨by simpa using h.1, .inr ⟨g, c, cur.setIfInBounds j u, rfl, hb, heap_setCell_same w g j cur e u hg, hnc, hcm, ?_⟩⟩
    rw [Array.toList_setIfInBounds, ← htake, List.take_set]
theorem HoldR.cells {g c : Nat} (h : HoldR w base e size (.slice (some ⟨g, 0, none⟩) n c) n xs) : ∀ j u, xs[j]? = some u → w.cell? ((⟨g, 0, none⟩ : Addr).add j) = some u := fun j u hj => by
  rw [add_own, h.cellAt j (by rw [← h.1]; exact (List.getElem?_eq_some_iff.1 hj).1), hj]
theorem HoldR.src {A : Option Addr} {c : Nat} (h : HoldR w base e size (.slice A n c) n xs) : Src w size A n c xs := by
  rcases h.2 with ⟨h1, h2⟩ | ⟨g, cap, cur, h1, _⟩
  · injection h1 with e1 e2 e3
    refine .inl ⟨e1, h2, e3, ?_⟩
    have := h.1
    rw [h2, Nat.zero_mul] at this
    exact List.eq_nil_of_length_eq_zero this
  · injection h1 with e1 e2 e3
    subst e1
    exact .inr ⟨_, rfl, h.1, h.cells⟩
theorem HoldR.clip {A : Option Addr} {c : Nat} (h : HoldR w base e size (.slice A n c) n xs) : HoldR w base e size (.slice A n n) n xs := by
  refine ⟨h.1, h.2.imp (fun ⟨h1, h2⟩ => ⟨?_, h2⟩) fun ⟨g, cap, cur, h1, h2, h3, h4, h5, h6⟩ => ⟨g, n, cur, ?_, h2, h3, Nat.le_refl _, Nat.le_trans h4 h5, h6⟩⟩
  · subst h2; injection h1 with e1; rw [e1]
  · injection h1 with e1; rw [e1]
end
theorem IntR.of_hold {w : World} {n base : Nat} {e : TypeId} {v : Value} {xs : List Int} (h : HoldR w base e 1 v n (xs.map (.int .i64))) (hn : n ≤ 9223372036854775807) : ∃ A c, v = .slice A n c ∧ IntR w w.heap.size A n xs := by
  have hl : xs.length = n := by have := h.1; simpa using this
  obtain ⟨A, c, rfl⟩ := h.form
  refine ⟨A, c, rfl, hl, hn, fun hn0 => ?_⟩
  obtain ⟨g, rfl, hg, hgw⟩ := h.pos hn0
  refine ⟨g, 0, rfl, hgw, fun k x hx => ⟨_, ?_, rfl⟩⟩
  have hk : k < n := by rw [← hl]; exact (List.getElem?_eq_some_iff.1 hx).1
  rw [Nat.zero_add, h.cellAt k (by omega), List.getElem?_map, hx]; rfl
theorem LitR.of_hold {w : World} {n base : Nat} {e : TypeId} {v : Value} {xs : List Ltl} (hl : xs.length = n) (h : HoldR w base e 3 v n (xs.flatMap ltlCs)) (hn : n ≤ 9223372036854775807) : ∃ A c, v = .slice A n c ∧ LitR w w.heap.size A n xs := by
  obtain ⟨A, c, rfl⟩ := h.form
  refine ⟨A, c, rfl, hl, hn, fun hn0 => ?_⟩
  obtain ⟨g, rfl, hg, hgw⟩ := h.pos hn0
  refine ⟨g, 0, rfl, hgw, fun i x hx => ⟨ltlCs x, rfl, fun j u hj => ?_, rfl⟩⟩
  have hi : i < n := by rw [← hl]; exact (List.getElem?_eq_some_iff.1 hx).1
  have hj3 : j < 3 := (List.getElem?_eq_some_iff.1 hj).1
  rw [Nat.zero_add, h.cellAt (i * 3 + j) (by omega), flatMap_at ltlCs 3 (fun _ => rfl) xs hx hj3]
  exact hj
theorem cloneInt (b0 n : Nat) (v : Value) (xs : List Int) (w : World) (h : HoldR w b0 3 1 v n (xs.map (.int .i64))) (hn : n ≤ 1048576) :
    Calls Try.prog 48 #[v] w fun e w' => ∃ v', e = .returned v' ∧ HoldR w' w.heap.size 3 1 v' n (xs.map (.int .i64)) ∧ Below w.heap.size w w' := by
  obtain ⟨i0, hi0, hz0, hz1, hz2⟩ := info_parts info_int
  have hlen : xs.length = n := by have := h.1; simpa using this
  rcases h.2 with ⟨rfl, rfl⟩ | ⟨g, cap, cur, rfl, -⟩
  · obtain rfl : xs = [] := List.eq_nil_of_length_eq_zero hlen
    have q22 : ∀ (w : World) (a : Option Addr) (n c n' c' : Nat), (binOp .eql 23 (.slice a n c) (.slice none n' c')).run Try.prog w = .ok (.bool a.isNone) w := fun w a n c n' c' => Lib.run_eql_slice_nil w _ _ a n c n' c' Try.underlying23
    have u22 : ∀ w, Sem.run Try.prog (underlying 23) w = .ok (TypeDesc.slice 3) w := run_underlying Try.underlying23
    go_enter Try.func48, Try.ntmps48
    go_wp2_with fail
    go_ret
    exact ⟨_, rfl, HoldR.nil _ _ _ _, Below.refl _ _⟩
  · have ol : (w.alloc (.cells #[] 3)).ownsRow w.heap.size 3 1 (.slice (some ⟨w.heap.size, 0, none⟩) 0 0) 0 [] := World.ownsRow_lit w #[] 0 (Nat.le_refl _) (by decide) rfl
    have hs := (h.below (b_alloc w (.cells #[] 3))).src
    clear h
    have q22 : ∀ (w : World) (a : Option Addr) (n c n' c' : Nat), (binOp .eql 23 (.slice a n c) (.slice none n' c')).run Try.prog w = .ok (.bool a.isNone) w := fun w a n c n' c' => Lib.run_eql_slice_nil w _ _ a n c n' c' Try.underlying23
    have u22 : ∀ w, Sem.run Try.prog (underlying 23) w = .ok (TypeDesc.slice 3) w := run_underlying Try.underlying23
    go_enter Try.func48, Try.ntmps48
    go_wp2_with (at_builtin; refine wpList_append_any rfl _ _ 23 rfl w.heap.size 3 i0 _ 1 8 Try.underlying23 hi0 hz0 hz1 hz2 rfl (by decide) (.slice (some ⟨w.heap.size, 0, none⟩) 0 0) _ _ rfl ol _ _ _ _ rfl hs (by simp [Value.oneCell']) (by unfold maxLen; omega) (by omega) (by rw [size_alloc_]; omega) ?_; intro v1 w1 ho1 hb1 _ _)
    have ho2 : w1.ownsRow w.heap.size 3 1 v1 n (xs.map (.int .i64)) := by simpa using ho1
    go_ret
    exact ⟨v1, rfl, HoldR.of_own ho2, (b_alloc _ _).trans hb1⟩
theorem clipInt (A : Option Addr) (n c b0 : Nat) (xs : List Value) (w : World) (h : HoldR w b0 3 1 (.slice A n c) n xs) :
    Calls Try.prog 47 #[.slice A n c] w fun e w' => e = .returned (.slice A n n) ∧ w = w' := by
  have hnc := h.capLe
  have hnc2 : (n : Int) ≤ (c : Int) := by omega
  clear h
  go_enter Try.func47, Try.ntmps47
  go_wp2_with fail
  go_ret
  exact ⟨rfl, rfl⟩
end Go.Proofs.Ytjpcdbdaimonlaa
