/- The laws' marks, on fresh slices of whatever capacity; what they leave alone. -/
import Derived.Test.YtjpcdbdaimonlaaHold
namespace Go.Proofs.Ytjpcdbdaimonlaa
open Go.ChangeShapes Go.WideShapes Go.ChangeAt Go.RowKit
open Go.Shelf
set_option linter.unusedVariables false
set_option maxRecDepth 100000

theorem grown_trans {w w1 w2 : World} {r : Option Nat} (h : w.grownBy w1 r) (k : w1.grownBy w2 r) : w.grownBy w2 r :=
  ⟨k.os.trans h.os, k.tape.trans h.tape, k.output.trans h.output, Nat.le_trans h.size k.size, fun b hb hne => (k.block b (Nat.lt_of_lt_of_le hb h.size) hne).trans (h.block b hb hne)⟩
theorem grown_set (w : World) (g j : Nat) (u : Value) : w.grownBy (w.setCell ⟨g, j, none⟩ u) (some g) :=
  ⟨rfl, rfl, rfl, by simp, fun k _ hk => Below.heap_setCell w ⟨g, j, none⟩ u k (fun e => hk (by rw [e]))⟩
theorem HoldR.far {w w' : World} {base n size : Nat} {e : TypeId} {v : Value} {xs : List Value} {r : Option Nat} (h : HoldR w base e size v n xs) (hg : w.grownBy w' r) (hne : ∀ b, r = some b → b < base) : HoldR w' base e size v n xs :=
  ⟨h.1, h.2.imp id fun ⟨g, cap, cur, h1, h2, h3, r⟩ => ⟨g, cap, cur, h1, h2, (hg.block g (Array.getElem?_eq_some_iff.1 h3).1 (fun e => by have := hne g e.symm; omega)).trans h3, r⟩⟩
theorem HoldR.blk {w : World} {base n size : Nat} {e : TypeId} {v : Value} {xs : List Value} (h : HoldR w base e size v n xs) : ∀ b, v.ownBlock = some b → base ≤ b ∧ b < w.heap.size := fun b hb => by
  rcases h.2 with ⟨rfl, _⟩ | ⟨g, cap, cur, rfl, h2, h3, _⟩
  · cases hb
  · injection hb with hb
    subst hb
    exact ⟨h2, (Array.getElem?_eq_some_iff.1 h3).1⟩
/-- the i-th marked literal, marks from k on. -/
def mkL1 (k : Int) (i : Nat) : Ltl := ⟨k + 3 * (i : Int), k + 3 * (i : Int) + 1, (k + 3 * (i : Int) + 2) % 3 == 0⟩
def mkL (k : Int) (n : Nat) : List Ltl := (List.range n).map (mkL1 k)
theorem mkL_len (k : Int) (n : Nat) : (mkL k n).length = n := by simp [mkL]
theorem mkL_at {k : Int} {n j : Nat} (h : j < n) : (mkL k n)[j]? = some (mkL1 k j) := by simp [mkL, h]
def mkTo (k : Int) (xs : List Ltl) (j : Nat) : List Ltl := mkL k j ++ xs.drop j
theorem mkTo_zero (k : Int) (xs : List Ltl) : mkTo k xs 0 = xs := by simp [mkTo, mkL]
theorem mkTo_done {k : Int} {xs : List Ltl} {n : Nat} (h : xs.length = n) : mkTo k xs n = mkL k n := by simp [mkTo, ← h]
theorem mkTo_at {k : Int} {xs : List Ltl} {j : Nat} {x : Ltl} (hx : xs[j]? = some x) : (mkTo k xs j)[j]? = some x := by
  unfold mkTo
  rw [List.getElem?_append_right (by rw [mkL_len]; omega), mkL_len, Nat.sub_self, List.getElem?_drop, Nat.add_zero, hx]
theorem mkTo_set {k : Int} {xs : List Ltl} {j : Nat} {x : Ltl} (hx : xs[j]? = some x) :
    ((((mkTo k xs j).flatMap ltlCs).set (j * 3) (.int .i64 (k + 3 * (j : Int)))).set (j * 3 + 1) (.int .i64 (k + 3 * (j : Int) + 1))).set (j * 3 + 2) (.bool ((k + 3 * (j : Int) + 2) % 3 == 0)) = (mkTo k xs (j + 1)).flatMap ltlCs := by
  have hj : j < xs.length := (List.getElem?_eq_some_iff.1 hx).1
  have e1 : (mkTo k xs j).flatMap ltlCs = (mkL k j).flatMap ltlCs ++ ([.int .i64 x.var, .int .i64 x.val, .bool x.neg] ++ (xs.drop (j + 1)).flatMap ltlCs) := by
    unfold mkTo
    rw [List.flatMap_append, List.drop_eq_getElem_cons hj, List.flatMap_cons]
    have : xs[j] = x := by rw [List.getElem?_eq_getElem hj] at hx; injection hx
    rw [this]; rfl
  rw [e1, set3 _ _ _ _ _ _ _ _ (j * 3) (by rw [flatMap_len ltlCs 3 (fun _ => rfl), mkL_len])]
  unfold mkTo mkL
  rw [List.range_succ, List.map_append, List.append_assoc, List.flatMap_append, List.flatMap_append]
  rfl
end Go.Proofs.Ytjpcdbdaimonlaa
