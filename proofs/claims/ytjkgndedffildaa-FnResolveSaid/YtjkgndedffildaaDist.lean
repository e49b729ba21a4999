/- The draw of two rows, and what the law of Distance asks. -/
import Derived.Test.YtjkgndedffildaaDrawI
namespace Go.Proofs.Ytjkgndedffildaa
open Go.ChangeShapes Go.WideShapes Go.ChangeAt Go.RowKit
open Go.Shelf
set_option linter.unusedVariables false
set_option maxRecDepth 100000

theorem ButG.setAt {g B : Nat} {w w' : World} (h : ButG g B w w') {b j : Nat} (hb : B ≤ b) (u : Value) : ButG g B w (w'.setCell ⟨b, j, none⟩ u) :=
  ⟨h.os, h.tape, h.output, by simpa using h.size, fun k hk hg => by rw [Below.heap_setCell _ _ _ _ (by simp; omega)]; exact h.block k hk hg⟩
theorem InM.set {m x : Int} {xs : List Int} {i : Nat} (h : InM m xs) (hx : 0 ≤ x ∧ x < m) : InM m (xs.set i x) := fun y hy => by
  rcases List.mem_or_eq_of_mem_set hy with h1 | h1
  · exact h y h1
  · rw [h1]; exact hx
theorem Rd.set {w : World} {base g n c p b j : Nat} {A : Option Addr} {bs : List Int} {u : Value} (h : Rd w base g A n c bs p) (hb : g < b) : Rd (w.setCell ⟨b, j, none⟩ u) base g A n c bs p :=
  ⟨by rw [Below.heap_setCell _ _ _ _ (by simp; omega)]; exact h.block, h.base_le, h.bytes.keep ByteC.keeps fun q hq => World.cell?_setCell_other w ⟨b, j, none⟩ q _ (fun e => by subst e; have := h.base_le; simp at hq; omega), h.small⟩
theorem own_slice {w : World} {base n : Nat} {e : TypeId} {v : Value} {xs : List Value} (h : w.ownsRow base e 1 v n xs) : ∃ A c, v = .slice A n c := by
  rcases h.2 with ⟨h1, h2⟩ | ⟨g, cap, cur, h1, _⟩
  · exact ⟨none, 0, by rw [h1, h2]⟩
  · exact ⟨_, _, h1⟩
theorem own_pos {w : World} {base n : Nat} {e : TypeId} {A : Option Addr} {c : Nat} {xs : List Value} (h : w.ownsRow base e 1 (.slice A n c) n xs) (hn : 0 < n) : ∃ g, A = some ⟨g, 0, none⟩ ∧ base ≤ g := by
  rcases h.2 with ⟨_, h2⟩ | ⟨g, cap, cur, h1, h2, _⟩
  · omega
  · injection h1 with e1 e2 e3
    exact ⟨g, e1, h2⟩
end Go.Proofs.Ytjkgndedffildaa
