/- The laws' isSubset. -/
import Derived.Test.YtldpcocnhpeadaaUnitL
import Derived.Test.YtldpcocnhpeadaaInts
namespace Go.Proofs.Ytldpcocnhpeadaa
open Go.ChangeShapes Go.WideShapes Go.ChangeAt Go.RowKit
open Go.Shelf
set_option linter.unusedVariables false
set_option maxRecDepth 100000

def SubTo (xs ys : List Int) (k : Nat) : Prop := ∀ j, j < k → (bits .and .i64 (xs[j]?.getD 0) (ys[j]?.getD 0) == xs[j]?.getD 0) = true
theorem isSubset (A B : Option Addr) (n m c d : Nat) (xs ys : List Int) (w : World) (hx : IntR w w.heap.size A n xs) (hy : IntR w w.heap.size B m ys) :
    Calls Try.prog 38 #[.slice A n c, .slice B m d] w fun e w' => e = .returned (.bool (subD xs ys)) ∧ Below w.heap.size w w' := by
  have hn := hx.le
  have hm := hy.le
  have hlx := Lib.hid hx.len
  have hly := Lib.hid hy.len
  by_cases hnm : n = m
  · subst hnm
    have hne : ((n : Int) != (n : Int)) = false := by simp
    go_enter Try.func38, Try.ntmps38
    go_wp2_with fail
    go_loopw [5] (fun i wr => ∃ k : Nat, k ≤ n ∧ i = .int .i64 k ∧ Hid (SubTo xs ys k) ∧ Below w.heap.size w wr) (fun i _ => n - (intOf i).toNat)
    case atStart => exact ⟨0, by omega, rfl, Lib.hid (fun j hj => absurd hj (by omega)), Below.refl _ _⟩
    case round =>
      obtain ⟨k, hk, rfl, hq, hb⟩ := hrel
      by_cases hlt : k < n
      · obtain ⟨ab, ao, x, rfl, hab, hxk, hcx⟩ := IntR.at_ (hx.below IntC.keeps hb) hlt
        obtain ⟨bb, bo, y, rfl, hbb, hyk, hcy⟩ := IntR.at_ (hy.below IntC.keeps hb) hlt
        have HX := Lib.hid hxk
        have HY := Lib.hid hyk
        clear hxk hyk
        cases hp : (bits .and .i64 x y == x)
        · have hp2 : (bits .and .i64 x y != x) = true := by simp only [bne, hp]; rfl
          have HP := Lib.hid hp
          go_wp2_with fail
          try (go_quiet (fail))
          try (go_wp2_with fail)
          go_ret
          refine ⟨ret_bool ?_, by first | exact hb | exact below_drewN hb _⟩
          unfold subD
          rw [hlx.out]
          have : ((List.range n).all fun j => bits .and .i64 (xs[j]?.getD 0) (ys[j]?.getD 0) == xs[j]?.getD 0) = false := by
            cases h : (List.range n).all fun j => bits .and .i64 (xs[j]?.getD 0) (ys[j]?.getD 0) == xs[j]?.getD 0
            · rfl
            · have := List.all_eq_true.1 h k (List.mem_range.2 hlt)
              rw [HX.out, HY.out] at this
              simp only [Option.getD_some] at this
              rw [HP.out] at this; cases this
          rw [this]; simp
        · have hp2 : (bits .and .i64 x y != x) = false := by simp only [bne, hp]; rfl
          have HP := Lib.hid hp
          go_wp2_with fail
          try (go_quiet (fail))
          try (go_wp2_with fail)
          go_roundw
          case rel =>
            refine ⟨k + 1, by omega, by go_num, Lib.hid (fun j hj => ?_), by first | exact hb | exact below_drewN hb _⟩
            rcases Nat.lt_or_ge j k with h1 | h1
            · exact hq.out j h1
            · obtain rfl : j = k := by omega
              rw [HX.out, HY.out]; exact HP.out
          case measure => simp [intOf]; omega
      · obtain rfl : k = n := by omega
        go_wp2_with fail
        go_ret
        refine ⟨ret_bool ?_, hb⟩
        unfold subD
        rw [hlx.out, hly.out]
        have : ((List.range k).all fun j => bits .and .i64 (xs[j]?.getD 0) (ys[j]?.getD 0) == xs[j]?.getD 0) = true := List.all_eq_true.2 fun j hj => hq.out j (List.mem_range.1 hj)
        rw [this]; simp
  · have hne : ((n : Int) != (m : Int)) = true := by simp; omega
    have he : subD xs ys = false := by unfold subD; rw [hlx.out, hly.out, decide_eq_false hnm]; rfl
    rw [he]
    clear he hnm
    go_enter Try.func38, Try.ntmps38
    go_wp2_with fail
    go_ret
    exact ⟨rfl, Below.refl _ _⟩
end Go.Proofs.Ytldpcocnhpeadaa
