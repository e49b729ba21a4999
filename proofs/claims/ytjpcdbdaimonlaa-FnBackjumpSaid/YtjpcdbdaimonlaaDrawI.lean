/- Draws of rows of ints. -/
import Derived.Test.YtjpcdbdaimonlaaDraw
import Derived.Test.YtjpcdbdaimonlaaInts
import Derived.Maps.AppendAt
import Derived.Laws.AppendOwnNone
namespace Go.Proofs.Ytjpcdbdaimonlaa
open Go.ChangeShapes Go.WideShapes Go.ChangeAt Go.RowKit
open Go.Shelf
set_option linter.unusedVariables false
set_option maxRecDepth 100000

theorem own_butG {w w' : World} {base g : Nat} {e : TypeId} {size n : Nat} {v : Value} {xs : List Value} (h : w.ownsRow base e size v n xs) (hb : ButG g w.heap.size w w') (hg : g < base) : w'.ownsRow base e size v n xs :=
  ⟨h.1, h.2.imp id fun ⟨b, cap, cur, e1, e2, e3, r⟩ => ⟨b, cap, cur, e1, e2, (hb.block b (Array.getElem?_eq_some_iff.1 e3).1 (by omega)).trans e3, r⟩⟩
/-- Every element is in 0..m-1. -/
def InM (m : Int) (xs : List Int) : Prop := ∀ x ∈ xs, 0 ≤ x ∧ x < m
theorem InM.snoc {m x : Int} {xs : List Int} (h : InM m xs) (hx : 0 ≤ x ∧ x < m) : InM m (xs ++ [x]) := fun y hy => by
  rcases List.mem_append.1 hy with h1 | h1
  · exact h y h1
  · rw [List.mem_singleton.1 h1]; exact hx
theorem randomRow (base g n c p : Nat) (A : Option Addr) (bs : List Int) (m : Nat) (w : World) (h : Rd w base g A n c bs p) (hp : p + m ≤ 1048576) (hm : m ≤ 1000) :
    Calls Try.prog 62 #[.pointer (some ⟨g, 0, none⟩), .int .i64 m] w fun e w' => ∃ (v : Value) (xs : List Int), e = .returned v ∧ v ≠ .slice none 0 0 ∧ xs.length = m ∧ InM 6 xs ∧ w'.ownsRow w.heap.size 3 1 v m (xs.map (.int .i64)) ∧ Rd w' base g A n c bs (p + m) ∧ ButG g w.heap.size w w' := by
  obtain ⟨i0, hi0, hz0, hz1, hz2⟩ := info_parts info_int
  have hg : g < w.heap.size := (Array.getElem?_eq_some_iff.1 h.block).1
  go_enter Try.func62, Try.ntmps62
  go_wp2_with fail
  have ho : (w.alloc (.cells #[] 3)).ownsRow w.heap.size 3 1 (.slice (some ⟨w.heap.size, 0, none⟩) 0 0) 0 (([] : List Int).map (.int .i64)) := World.ownsRow_lit w #[] 0 (Nat.le_refl _) (by decide) rfl
  have hb0 : ButG g w.heap.size w (w.alloc (.cells #[] 3)) := below_butG (b_alloc _ _) g
  have hr0 : Rd (w.alloc (.cells #[] 3)) base g A n c bs (p + 0) := h.below (b_alloc _ _) (Nat.le_trans h.base_le (Nat.le_of_lt hg))
  have hG := Lib.hid hg
  go_loopw [5, 6] (fun v i wr => ∃ (k : Nat) (v' : Value) (xs : List Int), k ≤ m ∧ i = .int .i64 k ∧ v' = v ∧ Hid (v' ≠ .slice none 0 0) ∧ Hid (xs.length = k) ∧ InM 6 xs ∧ Hid (wr.ownsRow w.heap.size 3 1 v' k (xs.map (.int .i64))) ∧ Rd wr base g A n c bs (p + k) ∧ ButG g w.heap.size w wr) (fun _ i _ => m - (intOf i).toNat)
  case atStart => exact ⟨0, _, [], by omega, rfl, rfl, Lib.hid (by simp), Lib.hid rfl, fun _ h => by simp at h, ho, hr0, hb0⟩
  case round =>
    obtain ⟨k, v, xs, hk, rfl, rfl, hnn, hl, hin, hq, hr, hb⟩ := hrel
    clear ho hb0 hr0
    by_cases hlt : k < m
    · go_wp2_with fail
      refine (pick _ g n c (p + k) A bs 6 _ hr (by omega)).mono ?_
      rintro e w1 ⟨r, rfl, ⟨-, hr2⟩, hr1, hb1⟩
      have hr3 := hr2 (by omega)
      have hx : InM 6 (xs ++ [r]) := hin.snoc hr3
      have hq1 := own_butG hq.out hb1 hg
      have hb2 := hb.trans (hb1.mono hb.size)
      have hs1 := hb2.size
      clear hr2 hq
      go_wp2_with (at_builtin; refine wpList_append_own _ rfl _ _ 23 rfl w.heap.size 3 i0 _ 1 8 Try.underlying23 hi0 hz0 hz1 hz2 rfl (by decide) v _ _ rfl (hq1.alloc _) ⟨w1.heap.size, 0, none⟩ 1 1 [.int .i64 r] rfl rfl (cell_one_new _ _ _) (by simp [Value.oneCell']) (by unfold maxLen; omega) (by omega) (by rw [size_alloc_]; omega) ?_; intro v1 w2 hown hgr hiff)
      have hr0 := hq1.lt
      have hbw : Below w.heap.size w1 w2 := ((Below.refl _ _).alloc hs1 _).grown hgr (by rw [size_alloc_]; omega) (fun g hg => (hr0 g hg).1)
      have hown2 : w2.ownsRow w.heap.size 3 1 v1 (k + 1) ((xs ++ [r]).map (.int .i64)) := by simpa using hown
      have hl2 : (xs ++ [r]).length = k + 1 := by rw [List.length_append, hl.out]; rfl
      go_roundw
      case rel => exact ⟨k + 1, v1, xs ++ [r], by omega, by go_num, rfl, fun e => hnn.out (hiff.1 e).1, hl2, hx, hown2, hr1.under hbw hG.out, hb2.trans (below_butG hbw g)⟩
      case measure => simp [intOf]; omega
    · obtain rfl : k = m := by omega
      go_wp2_with fail
      go_ret
      exact ⟨_, xs, rfl, hnn.out, hl.out, hin, hq.out, hr, hb⟩
theorem copyInts (b0 n : Nat) (v : Value) (xs : List Int) (w : World) (h : w.ownsRow b0 3 1 v n (xs.map (.int .i64))) (hn : n ≤ 1048576) :
    Calls Try.prog 35 #[v] w fun e w' => ∃ v', e = .returned v' ∧ w'.ownsRow w.heap.size 3 1 v' n (xs.map (.int .i64)) ∧ Below w.heap.size w w' := by
  obtain ⟨i0, hi0, hz0, hz1, hz2⟩ := info_parts info_int
  have ho : (w.alloc (.cells #[] 3)).ownsRow w.heap.size 3 1 (.slice (some ⟨w.heap.size, 0, none⟩) 0 0) 0 [] := World.ownsRow_lit w #[] 0 (Nat.le_refl _) (by decide) rfl
  have hlen : (xs.map (Value.int .i64)).length = n * 1 := h.1
  rcases h.2 with ⟨rfl, rfl⟩ | ⟨g, cap, cur, rfl, hg0, hg1, hnc, -, -, -⟩
  · obtain rfl : xs = [] := by simpa using hlen
    go_enter Try.func35, Try.ntmps35
    go_wp2_with (at_builtin; refine wpList_append_own_none rfl _ _ 23 rfl w.heap.size 3 i0 1 Try.underlying23 hi0 _ _ _ rfl ho rfl ?_)
    go_ret
    exact ⟨_, rfl, ho, b_alloc _ _⟩
  · have hc := (h.alloc (.cells #[] 3)).cells rfl
    go_enter Try.func35, Try.ntmps35
    go_wp2_with (at_builtin; refine wpList_append_own _ rfl _ _ 23 rfl w.heap.size 3 i0 _ 1 8 Try.underlying23 hi0 hz0 hz1 hz2 rfl (by decide) _ _ _ rfl ho ⟨g, 0, none⟩ n cap (xs.map (.int .i64)) rfl hlen hc (by simp [Value.oneCell']) (by unfold maxLen; omega) (by omega) (by rw [size_alloc_]; omega) ?_; intro v1 w2 hown hgr _)
    have hbw : Below w.heap.size w w2 := (b_alloc _ _).grown hgr (by rw [size_alloc_]; omega) (fun k hk => (ho.lt k hk).1)
    have hown2 : w2.ownsRow w.heap.size 3 1 v1 n (xs.map (.int .i64)) := by simpa using hown
    go_ret
    exact ⟨_, rfl, hown2, hbw⟩
end Go.Proofs.Ytjpcdbdaimonlaa
