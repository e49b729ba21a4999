/- Marks of diagrams that are arguments. -/
import Derived.Test.YtfmdgdamelkelaaMarkCF
namespace Go.Proofs.Ytfmdgdamelkelaa
open Go.ChangeShapes Go.WideShapes Go.ChangeAt Go.RowKit
open Go.Shelf
set_option linter.unusedVariables false
set_option maxRecDepth 100000

def HLays (w : World) (lo hi : Nat) (A : Option Addr) (n : Nat) : Prop := n = 0 ∨ ∃ (g : Nat) (cs : Array Value) (t : TypeId), A = some ⟨g, 0, none⟩ ∧ w.heap[g]? = some (.cells cs t (0, 0)) ∧ ∀ j, j < n → ∃ A' n' c', cs[j]? = some (.slice A' n' c') ∧ n' ≤ 1048576 ∧ HRows w lo hi A' n'
theorem HLays.keep {w w' : World} {lo hi n : Nat} {A : Option Addr} (h : HLays w lo hi A n) (k : Keep w w') : HLays w' lo hi A n := by
  rcases h with h | ⟨g, cs, t, e, h3, h4⟩
  · exact .inl h
  · obtain ⟨c1, k1, k2, k3⟩ := k g cs t h3
    refine .inr ⟨g, c1, t, e, k1, fun j hj => ?_⟩
    obtain ⟨A', n', c', a1, a2, a3⟩ := h4 j hj
    exact ⟨A', n', c', k2 j _ _ _ a1, a2, a3.keep k⟩
theorem HLays.of_own {w : World} {base n c : Nat} {A : Option Addr} {xs : List (List (List Int))} {e2 e e0 : TypeId} (h : OwnOf e2 (OwnOf e (OwnI e0)) w base (.slice A n c) xs) (hs : ∀ x ∈ xs, x.length ≤ 1048576 ∧ ∀ y ∈ x, y.length ≤ 1048576) : HLays w base w.heap.size A n := by
  obtain ⟨us, h1, h2, -, h4⟩ := h
  rcases own_heap h2 with ⟨h5, -⟩ | ⟨g, cur, e1, e2, hg, hgw, hh, hc⟩
  · exact .inl h5
  · refine .inr ⟨g, cur, _, e1, hh, fun j hj => ?_⟩
    have hj' : j < xs.length := by omega
    have hju : j < us.length := by omega
    have ho := h4 j us[j] xs[j] (List.getElem?_eq_getElem hju) (List.getElem?_eq_getElem hj')
    obtain ⟨A', c', hv, -⟩ := read2 ho
    rw [hv] at ho
    have hb := hs _ (List.getElem_mem hj')
    refine ⟨A', xs[j].length, c', ?_, hb.1, HRows.of_own ho hb.2⟩
    rw [hc j (by omega), List.getElem?_eq_getElem hju, hv]
theorem markIntSSST (A : Option Addr) (n c lo hi : Nat) (k : Int) (w : World) (h : HLays w lo hi A n) (hlo : lo ≤ w.heap.size) (hn : n ≤ 1048576) (h0 : 0 ≤ k) (h1 : k ≤ 1000000) :
    Calls Try.prog 19 #[.slice A n c, .int .i64 k] w fun e w' => ∃ k' : Int, e = .returned (.int .i64 k') ∧ k ≤ k' ∧ k' ≤ k + 1152921504606846976 ∧ Touch lo hi w w' ∧ Keep w w' := by
  have H := Lib.hid h
  clear h
  go_enter Try.func19, Try.ntmps19
  go_wp2_with fail
  go_loopw [1, 5] (fun t i wr => ∃ j : Nat, ∃ k' : Int, j ≤ n ∧ i = .int .i64 j ∧ t = .int .i64 k' ∧ k ≤ k' ∧ k' ≤ k + j * 1099511627776 ∧ Touch lo hi w wr ∧ Hid (Keep w wr)) (fun _ i _ => n - (intOf i).toNat)
  case atStart => exact ⟨0, k, by omega, rfl, rfl, by omega, by simp, Touch.refl _ _ _, Keep.refl _⟩
  case round =>
    obtain ⟨j, k', hj, rfl, rfl, hk1, hk2, ht, hq⟩ := hrel
    by_cases hlt : j < n
    · rcases H.out.keep hq.out with h | ⟨g, cs, t, rfl, hg3, hg4⟩
      · omega
      obtain ⟨A', n', c', hx, hn', hi'⟩ := hg4 j hlt
      have hc : wr.cell? ⟨g, j, none⟩ = some (.slice A' n' c') := by rw [cell_of_row wr g j cs t _ hg3]; exact hx
      have HI' := Lib.hid hi'
      have hsz := ht.1.size
      clear hg3 hg4 hx hi'
      go_wp2_with fail
      refine (markIntSST _ _ _ lo hi k' _ HI'.out (by omega) hn' (by omega) (by omega)).mono ?_
      rintro e w1 ⟨k1, rfl, p1, p2, ht1, hq1⟩
      have hT := Lib.hid (ht.trans ht1)
      have hK := Lib.hid (hq.out.trans hq1)
      clear hq1 hc
      go_wp2_with fail
      go_roundw
      case rel => exact ⟨j + 1, k1, by omega, by go_num, rfl, by omega, by omega, hT.out, hK⟩
      case measure => simp [intOf]; omega
    · obtain rfl : j = n := by omega
      go_wp2_with fail
      go_ret
      exact ⟨k', rfl, by omega, by omega, ht, hq.out⟩
end Go.Proofs.Ytfmdgdamelkelaa
