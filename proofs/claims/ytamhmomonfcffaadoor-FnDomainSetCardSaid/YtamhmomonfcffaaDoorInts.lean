/- Functions over slices of ints return what plain Lean functions say; the copies lie in memory of the call's own. -/
import Derived.Test.YtamhmomonfcffaaDoorMem
import Derived.Test.YtamhmomonfcffaaDoorDom
import Derived.BigQuiet
import Derived.Deep.QuietTactic
import Derived.OwnWalk
import Derived.Shelf.Abstract
import Derived.Outline
namespace Go.Proofs.YtamhmomonfcffaaDoor
open Go.ChangeShapes Go.WideShapes Go.ChangeAt Go.RowKit
open Go.Shelf
set_option linter.unusedVariables false
set_option maxRecDepth 100000

theorem info_int : (Tryd.prog.info? 3).map (fun i => (i.zero, i.size, i.bytes)) = some (some (.int .i64 0), 1, 8) := by kernel_rfl

theorem lequalInts (A B : Option Addr) (n m c d : Nat) (xs ys : List Int) (w : World) (hx : IntR w w.heap.size A n xs) (hy : IntR w w.heap.size B m ys) :
    Calls Tryd.prog 9 #[.slice A n c, .slice B m d] w fun e w' => e = .returned (.bool (decide (xs = ys))) ∧ Below w.heap.size w w' := by
  have hn := hx.le
  have hm := hy.le
  have hlx := Lib.hid hx.len
  have hly := Lib.hid hy.len
  by_cases hnm : n = m
  · subst hnm
    have hne : ((n : Int) != (n : Int)) = false := by simp
    go_enter Tryd.func9, Tryd.ntmps9
    go_wp2_with fail
    go_loopw [5] (fun i wr => ∃ k : Nat, k ≤ n ∧ i = .int .i64 k ∧ Hid (EqB xs ys k) ∧ Below w.heap.size w wr) (fun i _ => n - (intOf i).toNat)
    case atStart => exact ⟨0, by omega, rfl, EqB.zero _ _, Below.refl _ _⟩
    case round =>
      obtain ⟨k, hk, rfl, hq, hb⟩ := hrel
      by_cases hlt : k < n
      · obtain ⟨ab, ao, x, rfl, hab, hxk, hcx⟩ := IntR.at_ (hx.below IntC.keeps hb) hlt
        obtain ⟨bb, bo, y, rfl, hbb, hyk, hcy⟩ := IntR.at_ (hy.below IntC.keeps hb) hlt
        have HX := Lib.hid hxk
        have HY := Lib.hid hyk
        clear hxk hyk
        by_cases hxy : x = y
        · subst hxy
          have hne2 : (x != x) = false := by simp
          go_wp2_with fail
          go_quiet (fail)
          go_wp2_with fail
          go_roundw
          case rel => exact ⟨k + 1, by omega, by go_num, EqB.succ hq.out (by rw [HX.out, HY.out]), below_drewN hb _⟩
          case measure => simp [intOf]; omega
        · have hne2 : (x != y) = true := by simpa using hxy
          have HN := Lib.hid hxy
          clear hxy
          go_wp2_with fail
          go_quiet (fail)
          go_wp2_with fail
          go_ret
          exact ⟨ret_bool (decide_eq_false (ne_of_at HX.out HY.out HN.out)).symm, below_drewN hb _⟩
      · obtain rfl : k = n := by omega
        go_wp2_with fail
        go_ret
        exact ⟨ret_bool (decide_eq_true (EqB.done hq.out hlx.out hly.out)).symm, hb⟩
  · have hne : ((n : Int) != (m : Int)) = true := by simp; omega
    have HN := Lib.hid hnm
    clear hnm
    go_enter Tryd.func9, Tryd.ntmps9
    go_wp2_with fail
    go_ret
    exact ⟨ret_bool (decide_eq_false (fun h => HN.out (by rw [← hlx.out, ← hly.out, h]))).symm, Below.refl _ _⟩
end Go.Proofs.YtamhmomonfcffaaDoor
