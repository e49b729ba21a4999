/- The laws' marks, on fresh slices of whatever capacity; what they leave alone. -/
import Derived.Test.YtfmdgdamelkelaaHold
namespace Go.Proofs.Ytfmdgdamelkelaa
open Go.ChangeShapes Go.WideShapes Go.ChangeAt Go.RowKit
open Go.Shelf
set_option linter.unusedVariables false
set_option maxRecDepth 100000

theorem grown_trans {w w1 w2 : World} {r : Option Nat} (h : w.grownBy w1 r) (k : w1.grownBy w2 r) : w.grownBy w2 r :=
  ⟨k.os.trans h.os, k.tape.trans h.tape, k.output.trans h.output, Nat.le_trans h.size k.size, fun b hb hne => (k.block b (Nat.lt_of_lt_of_le hb h.size) hne).trans (h.block b hb hne)⟩
theorem grown_set (w : World) (g j : Nat) (u : Value) : w.grownBy (w.setCell ⟨g, j, none⟩ u) (some g) :=
  ⟨rfl, rfl, rfl, by simp, fun k _ hk => Below.heap_setCell w ⟨g, j, none⟩ u k (fun e => hk (by rw [e]))⟩
theorem HoldR.far {w w' : World} {base n size : Nat} {e : TypeId} {v : Value} {xs : List Value} {r : Option Nat} (h : HoldR w base e size v n xs) (hg : w.grownBy w' r) (hne : ∀ b, r = some b → b < base) : HoldR w' base e size v n xs :=
  ⟨h.1, h.2.imp id fun ⟨g, cap, cur, h1, h2, h3, r⟩ => ⟨g, cap, cur, h1, h2, (hg.block g (Array.getElem?_eq_some_iff.1 h3).1 (fun e => by have := hne g e.symm; omega)).trans h3, r⟩⟩
theorem HoldR.blk {w : World} {base n size : Nat} {e : TypeId} {v : Value} {xs : List Value} (h : HoldR w base e size v n xs) : ∀ b, v.ownBlock = some b → base ≤ b ∧ b < w.heap.size := fun b hb => by
  rcases h.2 with ⟨rfl, _⟩ | ⟨g, cap, cur, rfl, h2, h3, _⟩
  · cases hb
  · injection hb with hb
    subst hb
    exact ⟨h2, (Array.getElem?_eq_some_iff.1 h3).1⟩
theorem markIntH (v : Value) (n base : Nat) (k : Int) (xs : List Int) (w : World) (h : HoldR w base 3 1 v n (xs.map (.int .i64))) (hn : n ≤ 16777216) (h0 : 0 ≤ k) (h1 : k ≤ 1099511627776) :
    Calls Try.prog 18 #[v, .int .i64 k] w fun e w' => e = .returned (.int .i64 (k + n)) ∧ HoldR w' base 3 1 v n ((seqF k n).map (.int .i64)) ∧ Below base w w' ∧ w.grownBy w' v.ownBlock := by
  have hl : xs.length = n := by have := h.1; simpa using this
  obtain ⟨A, c, rfl⟩ := h.form
  by_cases hz : n = 0
  · subst hz
    go_enter Try.func18, Try.ntmps18
    go_wp2_with fail
    refine wp_loop_once ?_
    go_wp2_with fail
    go_ret
    refine ⟨ret_int (by simp), ?_, Below.refl _ _, grown_refl _ _⟩
    have : xs = [] := List.eq_nil_of_length_eq_zero hl
    subst this
    simpa [seqF] using h
  obtain ⟨g, rfl, hg, hgw⟩ := h.pos (by omega)
  have H := Lib.hid h
  have HL := Lib.hid hl
  clear h hl
  go_enter Try.func18, Try.ntmps18
  go_wp2_with fail
  go_loopw [1, 5] (fun t i wr => ∃ j : Nat, j ≤ n ∧ i = .int .i64 j ∧ t = .int .i64 (k + j) ∧ Hid (HoldR wr base 3 1 (.slice (some ⟨g, 0, none⟩) n c) n ((markTo k xs j).map (.int .i64))) ∧ Below base w wr ∧ Hid (w.grownBy wr (some g))) (fun _ i _ => n - (intOf i).toNat)
  case atStart => exact ⟨0, by omega, rfl, by simp, by rw [markTo_zero]; exact H.out, Below.refl _ _, Lib.hid (grown_refl _ _)⟩
  case round =>
    obtain ⟨j, hj, rfl, rfl, hq, hb, hgr⟩ := hrel
    by_cases hlt : j < n
    · have hco := hq.out.cellAt j (by omega)
      rw [List.getElem?_map, markTo_at (by rw [HL.out]; exact hlt)] at hco
      simp only [Option.map_some] at hco
      have hfo := hq.out.frozenAt j
      go_wp2_with fail
      go_roundw
      case rel => exact ⟨j + 1, by omega, by go_num, by simp; omega, by have := hq.out.stored j (.int .i64 (k + j)); rw [← List.map_set, markTo_set (by rw [HL.out]; exact hlt)] at this; exact this, hb.setCell (by simpa using hg) _, Lib.hid (grown_trans hgr.out (grown_set _ _ _ _))⟩
      case measure => simp [intOf]; omega
    · obtain rfl : j = n := by omega
      go_wp2_with fail
      go_ret
      exact ⟨rfl, by rw [← markTo_done HL.out]; exact hq.out, hb, hgr.out⟩
/-- the i-th marked literal, marks from k on. -/
def mkL1 (k : Int) (i : Nat) : Ltl := ⟨k + 3 * (i : Int), k + 3 * (i : Int) + 1, (k + 3 * (i : Int) + 2) % 3 == 0⟩
def mkL (k : Int) (n : Nat) : List Ltl := (List.range n).map (mkL1 k)
theorem mkL_len (k : Int) (n : Nat) : (mkL k n).length = n := by simp [mkL]
theorem mkL_at {k : Int} {n j : Nat} (h : j < n) : (mkL k n)[j]? = some (mkL1 k j) := by simp [mkL, h]
def mkTo (k : Int) (xs : List Ltl) (j : Nat) : List Ltl := mkL k j ++ xs.drop j
theorem mkTo_zero (k : Int) (xs : List Ltl) : mkTo k xs 0 = xs := by simp [mkTo, mkL]
theorem mkTo_done {k : Int} {xs : List Ltl} {n : Nat} (h : xs.length = n) : mkTo k xs n = mkL k n := by simp [mkTo, ← h]
theorem mkTo_at {k : Int} {xs : List Ltl} {j : Nat} {x : Ltl} (hx : xs[j]? = some x) : (mkTo k xs j)[j]? = some x := by
  unfold mkTo
  rw [List.getElem?_append_right (by rw [mkL_len]; omega), mkL_len, Nat.sub_self, List.getElem?_drop, Nat.add_zero, hx]
theorem mkTo_set {k : Int} {xs : List Ltl} {j : Nat} {x : Ltl} (hx : xs[j]? = some x) :
    ((((mkTo k xs j).flatMap ltlCs).set (j * 3) (.int .i64 (k + 3 * (j : Int)))).set (j * 3 + 1) (.int .i64 (k + 3 * (j : Int) + 1))).set (j * 3 + 2) (.bool ((k + 3 * (j : Int) + 2) % 3 == 0)) = (mkTo k xs (j + 1)).flatMap ltlCs := by
  have hj : j < xs.length := (List.getElem?_eq_some_iff.1 hx).1
  have e1 : (mkTo k xs j).flatMap ltlCs = (mkL k j).flatMap ltlCs ++ ([.int .i64 x.var, .int .i64 x.val, .bool x.neg] ++ (xs.drop (j + 1)).flatMap ltlCs) := by
    unfold mkTo
    rw [List.flatMap_append, List.drop_eq_getElem_cons hj, List.flatMap_cons]
    have : xs[j] = x := by rw [List.getElem?_eq_getElem hj] at hx; injection hx
    rw [this]; rfl
  rw [e1, set3 _ _ _ _ _ _ _ _ (j * 3) (by rw [flatMap_len ltlCs 3 (fun _ => rfl), mkL_len])]
  unfold mkTo mkL
  rw [List.range_succ, List.map_append, List.append_assoc, List.flatMap_append, List.flatMap_append]
  rfl
end Go.Proofs.Ytfmdgdamelkelaa
