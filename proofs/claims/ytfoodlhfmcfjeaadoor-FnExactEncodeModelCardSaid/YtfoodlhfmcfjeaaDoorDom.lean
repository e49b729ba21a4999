/- The functions on single numbers of impl and spec return what plain Lean functions say (contracts; every int where nothing is said, else under the stated bounds). -/
import Derived.Test.YtfoodlhfmcfjeaaDoorRows
import Derived.WalkKit
import Derived.ProofKit
import Derived.OpenShut
import Derived.Lib.Hide
import Derived.Test.YtfoodlhfmcfjeaaDoorPlain
namespace Go.Proofs.YtfoodlhfmcfjeaaDoor
open Go.ChangeShapes Go.WideShapes Go.ChangeAt Go.RowKit
set_option linter.unusedVariables false
set_option maxRecDepth 100000

theorem ret_int {k : IntKind} {a b : Int} (h : a = b) : Ending.returned (.int k a) = .returned (.int k b) := by rw [h]
theorem ret_bool {a b : Bool} (h : a = b) : Ending.returned (.bool a) = .returned (.bool b) := by rw [h]

theorem within (n lo hi : Int) (w : World) :
    Calls Tryd.prog 49 #[.int .i64 n, .int .i64 lo, .int .i64 hi] w fun e w' => e = .returned (.bool (inB n lo hi)) ∧ w = w' := by
  go_enter Tryd.func49, Tryd.ntmps49
  go_wp2
  all_goals
    go_ret
    refine ⟨ret_bool ?_, rfl⟩
    simp [inB]
    try omega
theorem inRange (n lo hi : Int) (w : World) :
    Calls Tryd.prog 25 #[.int .i64 n, .int .i64 lo, .int .i64 hi] w fun e w' => e = .returned (.bool (inB n lo hi)) ∧ w = w' := by
  go_enter Tryd.func25, Tryd.ntmps25
  go_wp2
  all_goals
    go_ret
    refine ⟨ret_bool ?_, rfl⟩
    simp [inB]
    try omega
theorem svalidDomain (n : Int) (w : World) :
    Calls Tryd.prog 23 #[.int .i64 n] w fun e w' => e = .returned (.bool (vdB n)) ∧ w = w' := by
  go_enter Tryd.func23, Tryd.ntmps23
  go_wp2_with (go_at_call 25; refine (inRange _ _ _ _).mono ?_; rintro e w' ⟨rfl, rfl⟩)
  go_ret
  exact ⟨rfl, rfl⟩
theorem ihas (d v : Int) (h0 : 0 ≤ d) (v0 : 0 ≤ v) (v1 : v ≤ 63) (w : World) :
    Calls Tryd.prog 34 #[.int .i64 d, .int .i64 v] w fun e w' => e = .returned (.bool (hasB d v)) ∧ w = w' := by
  go_enter Tryd.func34, Tryd.ntmps34
  go_wp2
  go_ret
  exact ⟨rfl, rfl⟩
theorem sdomainHas (d v : Int) (h0 : 0 ≤ d) (w : World) :
    Calls Tryd.prog 44 #[.int .i64 d, .int .i64 v] w fun e w' => e = .returned (.bool (dhB d v)) ∧ w = w' := by
  cases h : inB v 0 5
  · have e : dhB d v = false := by simp [dhB, h]
    rw [e]
    go_enter Tryd.func44, Tryd.ntmps44
    go_wp2_with (go_at_call 25; refine (inRange _ _ _ _).mono ?_; rintro e w' ⟨rfl, rfl⟩)
    go_ret
    exact ⟨rfl, rfl⟩
  · have e : dhB d v = hasB d v := by simp [dhB, h]
    rw [e]
    have hb := inB_true h
    obtain ⟨v0, v5⟩ := hb
    go_enter Tryd.func44, Tryd.ntmps44
    go_wp2_with (go_at_call 25; refine (inRange _ _ _ _).mono ?_; rintro e w' ⟨rfl, rfl⟩)
    go_ret
    exact ⟨rfl, rfl⟩
end Go.Proofs.YtfoodlhfmcfjeaaDoor
