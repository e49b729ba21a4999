/- The functions on single numbers of impl and spec return what plain Lean functions say (contracts; every int where nothing is said, else under the stated bounds). -/
import Derived.Test.YtjpcdbdaimonlaaRows
import Derived.WalkKit
import Derived.ProofKit
import Derived.OpenShut
import Derived.Lib.Hide
import Derived.Test.YtjpcdbdaimonlaaPlain
namespace Go.Proofs.Ytjpcdbdaimonlaa
open Go.ChangeShapes Go.WideShapes Go.ChangeAt Go.RowKit
set_option linter.unusedVariables false
set_option maxRecDepth 100000

theorem ret_int {k : IntKind} {a b : Int} (h : a = b) : Ending.returned (.int k a) = .returned (.int k b) := by rw [h]
theorem ret_bool {a b : Bool} (h : a = b) : Ending.returned (.bool a) = .returned (.bool b) := by rw [h]

theorem within (n lo hi : Int) (w : World) :
    Calls Try.prog 15 #[.int .i64 n, .int .i64 lo, .int .i64 hi] w fun e w' => e = .returned (.bool (inB n lo hi)) ∧ w = w' := by
  go_enter Try.func15, Try.ntmps15
  go_wp2
  all_goals
    go_ret
    refine ⟨ret_bool ?_, rfl⟩
    simp [inB]
    try omega
theorem inRange (n lo hi : Int) (w : World) :
    Calls Try.prog 19 #[.int .i64 n, .int .i64 lo, .int .i64 hi] w fun e w' => e = .returned (.bool (inB n lo hi)) ∧ w = w' := by
  go_enter Try.func19, Try.ntmps19
  go_wp2
  all_goals
    go_ret
    refine ⟨ret_bool ?_, rfl⟩
    simp [inB]
    try omega
theorem svalidDomain (n : Int) (w : World) :
    Calls Try.prog 49 #[.int .i64 n] w fun e w' => e = .returned (.bool (vdB n)) ∧ w = w' := by
  go_enter Try.func49, Try.ntmps49
  go_wp2_with (go_at_call 19; refine (inRange _ _ _ _).mono ?_; rintro e w' ⟨rfl, rfl⟩)
  go_ret
  exact ⟨rfl, rfl⟩
theorem sdomainHas (d v : Int) (h0 : 0 ≤ d) (w : World) :
    Calls Try.prog 77 #[.int .i64 d, .int .i64 v] w fun e w' => e = .returned (.bool (dhB d v)) ∧ w = w' := by
  cases h : inB v 0 5
  · have e : dhB d v = false := by simp [dhB, h]
    rw [e]
    go_enter Try.func77, Try.ntmps77
    go_wp2_with (go_at_call 19; refine (inRange _ _ _ _).mono ?_; rintro e w' ⟨rfl, rfl⟩)
    go_ret
    exact ⟨rfl, rfl⟩
  · have e : dhB d v = hasB d v := by simp [dhB, h]
    rw [e]
    have hb := inB_true h
    obtain ⟨v0, v5⟩ := hb
    go_enter Try.func77, Try.ntmps77
    go_wp2_with (go_at_call 19; refine (inRange _ _ _ _).mono ?_; rintro e w' ⟨rfl, rfl⟩)
    go_ret
    exact ⟨rfl, rfl⟩
theorem sDomainRange (lo hi : Int) (w : World) :
    Calls Try.prog 60 #[.int .i64 lo, .int .i64 hi] w fun e w' => e = .returned (.int .i64 (drTo lo hi 6)) ∧ w = w' := by
  go_enter Try.func60, Try.ntmps60
  go_wp2
  go_loop [5, 6] (fun d i => ∃ k : Nat, k ≤ 6 ∧ i = .int .i64 k ∧ d = .int .i64 (drTo lo hi k)) (fun _ i => 6 - (intOf i).toNat)
  case atStart => exact ⟨0, by omega, rfl, rfl⟩
  case round =>
    obtain ⟨k, hk, rfl, rfl⟩ := hrel
    have hbd := drTo_63 lo hi k hk
    by_cases hlt : k < 6
    · have hp := pow_le5 k hlt
      have hs : ∀ b, inB k lo hi = b → drTo lo hi (k + 1) = drTo lo hi k + if b then 2 ^ k else 0 := by rintro _ rfl; rfl
      by_cases h1 : lo ≤ (k : Int)
      · by_cases h2 : (k : Int) ≤ hi
        · go_wp2
          go_round
          case rel => exact ⟨k + 1, by omega, by go_num, by rw [hs true (inB_mk ⟨h1, h2⟩)]; simp⟩
          case measure => simp [intOf]; omega
        · go_wp2
          go_round
          case rel => exact ⟨k + 1, by omega, by go_num, by rw [hs false (inB_no (by omega))]; simp⟩
          case measure => simp [intOf]; omega
      · go_wp2
        go_round
        case rel => exact ⟨k + 1, by omega, by go_num, by rw [hs false (inB_no (by omega))]; simp⟩
        case measure => simp [intOf]; omega
    · obtain rfl : k = 6 := by omega
      go_wp2
      go_ret
      exact ⟨rfl, rfl⟩
end Go.Proofs.Ytjpcdbdaimonlaa
