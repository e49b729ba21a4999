/- The functions on single numbers of impl and spec return what plain Lean functions say (contracts; every int where nothing is said, else under the stated bounds). -/
import Derived.Test.YtpgmjempdpelkaaRows
import Derived.WalkKit
import Derived.ProofKit
import Derived.OpenShut
import Derived.Lib.Hide
import Derived.Test.YtpgmjempdpelkaaPlain
namespace Go.Proofs.Ytpgmjempdpelkaa
open Go.ChangeShapes Go.WideShapes Go.ChangeAt Go.RowKit
set_option linter.unusedVariables false
set_option maxRecDepth 100000

theorem ret_int {k : IntKind} {a b : Int} (h : a = b) : Ending.returned (.int k a) = .returned (.int k b) := by rw [h]
theorem ret_bool {a b : Bool} (h : a = b) : Ending.returned (.bool a) = .returned (.bool b) := by rw [h]

theorem within (n lo hi : Int) (w : World) :
    Calls Try.prog 43 #[.int .i64 n, .int .i64 lo, .int .i64 hi] w fun e w' => e = .returned (.bool (inB n lo hi)) ∧ w = w' := by
  go_enter Try.func43, Try.ntmps43
  go_wp2
  all_goals
    go_ret
    refine ⟨ret_bool ?_, rfl⟩
    simp [inB]
    try omega
theorem inRange (n lo hi : Int) (w : World) :
    Calls Try.prog 40 #[.int .i64 n, .int .i64 lo, .int .i64 hi] w fun e w' => e = .returned (.bool (inB n lo hi)) ∧ w = w' := by
  go_enter Try.func40, Try.ntmps40
  go_wp2
  all_goals
    go_ret
    refine ⟨ret_bool ?_, rfl⟩
    simp [inB]
    try omega
theorem svalidDomain (n : Int) (w : World) :
    Calls Try.prog 80 #[.int .i64 n] w fun e w' => e = .returned (.bool (vdB n)) ∧ w = w' := by
  go_enter Try.func80, Try.ntmps80
  go_wp2_with (go_at_call 40; refine (inRange _ _ _ _).mono ?_; rintro e w' ⟨rfl, rfl⟩)
  go_ret
  exact ⟨rfl, rfl⟩
theorem ihas (d v : Int) (h0 : 0 ≤ d) (v0 : 0 ≤ v) (v1 : v ≤ 63) (w : World) :
    Calls Try.prog 87 #[.int .i64 d, .int .i64 v] w fun e w' => e = .returned (.bool (hasB d v)) ∧ w = w' := by
  go_enter Try.func87, Try.ntmps87
  go_wp2
  go_ret
  exact ⟨rfl, rfl⟩
theorem sdomainHas (d v : Int) (h0 : 0 ≤ d) (w : World) :
    Calls Try.prog 84 #[.int .i64 d, .int .i64 v] w fun e w' => e = .returned (.bool (dhB d v)) ∧ w = w' := by
  cases h : inB v 0 5
  · have e : dhB d v = false := by simp [dhB, h]
    rw [e]
    go_enter Try.func84, Try.ntmps84
    go_wp2_with (go_at_call 40; refine (inRange _ _ _ _).mono ?_; rintro e w' ⟨rfl, rfl⟩)
    go_ret
    exact ⟨rfl, rfl⟩
  · have e : dhB d v = hasB d v := by simp [dhB, h]
    rw [e]
    have hb := inB_true h
    obtain ⟨v0, v5⟩ := hb
    go_enter Try.func84, Try.ntmps84
    go_wp2_with (go_at_call 40; refine (inRange _ _ _ _).mono ?_; rintro e w' ⟨rfl, rfl⟩)
    go_ret
    exact ⟨rfl, rfl⟩
end Go.Proofs.Ytpgmjempdpelkaa
