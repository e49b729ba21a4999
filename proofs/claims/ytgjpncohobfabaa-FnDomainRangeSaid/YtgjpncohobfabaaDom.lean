/- The functions on single numbers of impl and spec return what plain Lean functions say (contracts; every int where nothing is said, else under the stated bounds). -/
import Derived.Test.YtgjpncohobfabaaRows
import Derived.WalkKit
import Derived.ProofKit
import Derived.OpenShut
import Derived.Lib.Hide
import Derived.Test.YtgjpncohobfabaaPlain
namespace Go.Proofs.Ytgjpncohobfabaa
open Go.ChangeShapes Go.WideShapes Go.ChangeAt Go.RowKit
set_option linter.unusedVariables false

theorem ret_int {k : IntKind} {a b : Int} (h : a = b) : Ending.returned (.int k a) = .returned (.int k b) := by rw [h]
theorem ret_bool {a b : Bool} (h : a = b) : Ending.returned (.bool a) = .returned (.bool b) := by rw [h]

theorem within (n lo hi : Int) (w : World) :
    Calls Try.prog 19 #[.int .i64 n, .int .i64 lo, .int .i64 hi] w fun e w' => e = .returned (.bool (inB n lo hi)) ∧ w = w' := by
  go_enter Try.func19, Try.ntmps19
  go_wp2
  all_goals
    go_ret
    refine ⟨ret_bool ?_, rfl⟩
    simp [inB]
    try omega
theorem inRange (n lo hi : Int) (w : World) :
    Calls Try.prog 23 #[.int .i64 n, .int .i64 lo, .int .i64 hi] w fun e w' => e = .returned (.bool (inB n lo hi)) ∧ w = w' := by
  go_enter Try.func23, Try.ntmps23
  go_wp2
  all_goals
    go_ret
    refine ⟨ret_bool ?_, rfl⟩
    simp [inB]
    try omega
theorem valueOk (n : Int) (w : World) :
    Calls Try.prog 21 #[.int .i64 n] w fun e w' => e = .returned (.bool (inB n 0 5)) ∧ w = w' := by
  go_enter Try.func21, Try.ntmps21
  go_wp2_with (go_at_call 19; refine (within _ _ _ _).mono ?_; rintro e w' ⟨rfl, rfl⟩)
  go_ret
  exact ⟨rfl, rfl⟩
theorem iValidDomain (n : Int) (w : World) :
    Calls Try.prog 10 #[.int .i64 n] w fun e w' => e = .returned (.bool (vdB n)) ∧ w = w' := by
  go_enter Try.func10, Try.ntmps10
  go_wp2_with (go_at_call 19; refine (within _ _ _ _).mono ?_; rintro e w' ⟨rfl, rfl⟩)
  go_ret
  exact ⟨rfl, rfl⟩
theorem svalidDomain (n : Int) (w : World) :
    Calls Try.prog 18 #[.int .i64 n] w fun e w' => e = .returned (.bool (vdB n)) ∧ w = w' := by
  go_enter Try.func18, Try.ntmps18
  go_wp2_with (go_at_call 23; refine (inRange _ _ _ _).mono ?_; rintro e w' ⟨rfl, rfl⟩)
  go_ret
  exact ⟨rfl, rfl⟩
theorem sValidDomain (n : Int) (w : World) :
    Calls Try.prog 9 #[.int .i64 n] w fun e w' => e = .returned (.bool (vdB n)) ∧ w = w' := by
  go_enter Try.func9, Try.ntmps9
  go_wp2_with (go_at_call 18; refine (svalidDomain _ _).mono ?_; rintro e w' ⟨rfl, rfl⟩)
  go_ret
  exact ⟨rfl, rfl⟩
theorem ihas (d v : Int) (h0 : 0 ≤ d) (v0 : 0 ≤ v) (v1 : v ≤ 63) (w : World) :
    Calls Try.prog 22 #[.int .i64 d, .int .i64 v] w fun e w' => e = .returned (.bool (hasB d v)) ∧ w = w' := by
  go_enter Try.func22, Try.ntmps22
  go_wp2
  go_ret
  exact ⟨rfl, rfl⟩
theorem sdomainHas (d v : Int) (h0 : 0 ≤ d) (w : World) :
    Calls Try.prog 20 #[.int .i64 d, .int .i64 v] w fun e w' => e = .returned (.bool (dhB d v)) ∧ w = w' := by
  cases h : inB v 0 5
  · have e : dhB d v = false := by simp [dhB, h]
    rw [e]
    go_enter Try.func20, Try.ntmps20
    go_wp2_with (go_at_call 23; refine (inRange _ _ _ _).mono ?_; rintro e w' ⟨rfl, rfl⟩)
    go_ret
    exact ⟨rfl, rfl⟩
  · have e : dhB d v = hasB d v := by simp [dhB, h]
    rw [e]
    have hb := inB_true h
    obtain ⟨v0, v5⟩ := hb
    go_enter Try.func20, Try.ntmps20
    go_wp2_with (go_at_call 23; refine (inRange _ _ _ _).mono ?_; rintro e w' ⟨rfl, rfl⟩)
    go_ret
    exact ⟨rfl, rfl⟩
theorem iDomainHas (d v : Int) (w : World) :
    Calls Try.prog 12 #[.int .i64 d, .int .i64 v] w fun e w' => e = .returned (.bool (vdB d && dhB d v)) ∧ w = w' := by
  cases hd : vdB d
  · go_enter Try.func12, Try.ntmps12
    go_wp2_with (go_at_call 10; refine (iValidDomain _ _).mono ?_; rintro e w' ⟨rfl, rfl⟩)
    go_ret
    exact ⟨rfl, rfl⟩
  · have hd0 : 0 ≤ d := (inB_true hd).1
    cases h : inB v 0 5
    · have e : (true && dhB d v) = false := by simp [dhB, h]
      rw [e]
      go_enter Try.func12, Try.ntmps12
      go_wp2_with (first | (go_at_call 10; refine (iValidDomain _ _).mono ?_; rintro e w' ⟨rfl, rfl⟩) | (go_at_call 21; refine (valueOk _ _).mono ?_; rintro e w' ⟨rfl, rfl⟩))
      go_ret
      exact ⟨rfl, rfl⟩
    · have e : (true && dhB d v) = hasB d v := by simp [dhB, h]
      rw [e]
      obtain ⟨v0, v5⟩ := inB_true h
      go_enter Try.func12, Try.ntmps12
      go_wp2_with (first | (go_at_call 10; refine (iValidDomain _ _).mono ?_; rintro e w' ⟨rfl, rfl⟩) | (go_at_call 21; refine (valueOk _ _).mono ?_; rintro e w' ⟨rfl, rfl⟩) | (go_at_call 22; refine (ihas _ _ (by omega) (by omega) (by omega) _).mono ?_; rintro e w' ⟨rfl, rfl⟩))
      go_ret
      exact ⟨rfl, rfl⟩
theorem sDomainHas (d v : Int) (w : World) :
    Calls Try.prog 11 #[.int .i64 d, .int .i64 v] w fun e w' => e = .returned (.bool (vdB d && dhB d v)) ∧ w = w' := by
  cases hd : vdB d
  · go_enter Try.func11, Try.ntmps11
    go_wp2_with (go_at_call 18; refine (svalidDomain _ _).mono ?_; rintro e w' ⟨rfl, rfl⟩)
    go_ret
    exact ⟨rfl, rfl⟩
  · have hd0 : 0 ≤ d := (inB_true hd).1
    go_enter Try.func11, Try.ntmps11
    go_wp2_with (first | (go_at_call 18; refine (svalidDomain _ _).mono ?_; rintro e w' ⟨rfl, rfl⟩) | (go_at_call 20; refine (sdomainHas _ _ (by omega) _).mono ?_; rintro e w' ⟨rfl, rfl⟩))
    go_ret
    exact ⟨rfl, rfl⟩
theorem iDomainRange (lo hi : Int) (w : World) :
    Calls Try.prog 14 #[.int .i64 lo, .int .i64 hi] w fun e w' => e = .returned (.int .i64 (drTo lo hi 6)) ∧ w = w' := by
  go_enter Try.func14, Try.ntmps14
  go_wp2
  go_loop [5, 7] (fun d i => ∃ k : Nat, k ≤ 6 ∧ i = .int .i64 k ∧ d = .int .i64 (drTo lo hi k)) (fun _ i => 6 - (intOf i).toNat)
  case atStart => exact ⟨0, by omega, rfl, rfl⟩
  case round =>
    obtain ⟨k, hk, rfl, rfl⟩ := hrel
    have hbd := drTo_bd lo hi k
    by_cases hlt : k < 6
    · cases hin : inB k lo hi
      · go_wp2_with (go_at_call 19; refine (within _ _ _ _).mono ?_; rintro e w' ⟨rfl, rfl⟩)
        go_round
        case rel => exact ⟨k + 1, by omega, by go_num, by simp [drTo, hin]⟩
        case measure => simp [intOf]; omega
      · go_wp2_with (go_at_call 19; refine (within _ _ _ _).mono ?_; rintro e w' ⟨rfl, rfl⟩)
        go_round
        case rel => exact ⟨k + 1, by omega, by go_num, by rw [or_pow _ _ hlt hbd.1 hbd.2]; simp [drTo, hin]⟩
        case measure => simp [intOf]; omega
    · obtain rfl : k = 6 := by omega
      go_wp2
      go_ret
      exact ⟨rfl, rfl⟩
theorem sDomainRange (lo hi : Int) (w : World) :
    Calls Try.prog 13 #[.int .i64 lo, .int .i64 hi] w fun e w' => e = .returned (.int .i64 (drTo lo hi 6)) ∧ w = w' := by
  go_enter Try.func13, Try.ntmps13
  go_wp2
  go_loop [5, 6] (fun d i => ∃ k : Nat, k ≤ 6 ∧ i = .int .i64 k ∧ d = .int .i64 (drTo lo hi k)) (fun _ i => 6 - (intOf i).toNat)
  case atStart => exact ⟨0, by omega, rfl, rfl⟩
  case round =>
    obtain ⟨k, hk, rfl, rfl⟩ := hrel
    have hbd := drTo_63 lo hi k hk
    by_cases hlt : k < 6
    · have hp := pow_le5 k hlt
      have hs : ∀ b, inB k lo hi = b → drTo lo hi (k + 1) = drTo lo hi k + if b then 2 ^ k else 0 := by rintro _ rfl; rfl
      by_cases h1 : lo ≤ (k : Int)
      · by_cases h2 : (k : Int) ≤ hi
        · go_wp2
          go_round
          case rel => exact ⟨k + 1, by omega, by go_num, by rw [hs true (inB_mk ⟨h1, h2⟩)]; simp⟩
          case measure => simp [intOf]; omega
        · go_wp2
          go_round
          case rel => exact ⟨k + 1, by omega, by go_num, by rw [hs false (inB_no (by omega))]; simp⟩
          case measure => simp [intOf]; omega
      · go_wp2
        go_round
        case rel => exact ⟨k + 1, by omega, by go_num, by rw [hs false (inB_no (by omega))]; simp⟩
        case measure => simp [intOf]; omega
    · obtain rfl : k = 6 := by omega
      go_wp2
      go_ret
      exact ⟨rfl, rfl⟩
theorem iLuby_at (n : Nat) : ∀ (i : Int) (w : World), i ≤ n → 1 ≤ i → i ≤ 127 →
    Calls Try.prog 16 #[.int .i64 i] w fun e w' => e = .returned (.int .i64 (lub n i)) ∧ w = w' := by
  induction n with
  | zero => intro i w h h1 _; omega
  | succ n ih =>
    intro i w hn h1 h127
    have IH := Lib.hid ih
    clear ih
    have hin : inB i 1 127 = true := inB_mk ⟨h1, h127⟩
    go_enter Try.func16, Try.ntmps16
    go_wp2_with (go_at_call 19; refine (within _ _ _ _).mono ?_; rintro e w' ⟨rfl, rfl⟩)
    go_loop [3] (fun t => ∃ p : Int, t = .int .i64 p ∧ isP p ∧ p ≤ i) (fun t => (128 - intOf t).toNat)
    case atStart => exact ⟨1, rfl, .inl rfl, h1⟩
    case round =>
      obtain ⟨p, rfl, hp, hpi⟩ := hrel
      have hp64 : 1 ≤ p ∧ p ≤ 64 := by unfold isP at hp; omega
      have HP := Lib.hid hp
      clear hp
      by_cases hlt : 2 * p - 1 < i
      · go_wp2_with fail
        go_round
        case rel => exact ⟨p * 2, rfl, by have := HP.out; unfold isP at this ⊢; omega, by omega⟩
        case measure => simp [intOf]; omega
      · have hpw := pwr_of p i HP.out hpi h127 (by omega)
        have hl : ∀ m, lub (m + 1) i = if i = 2 * p - 1 then p else lub m (i - p + 1) := by intro m; rw [lub, hpw]
        have HL := Lib.hid hl
        clear hl hpw
        by_cases he : i = 2 * p - 1
        · have hb : (i == 2 * p - 1) = true := by simpa using he
          have HE := Lib.hid he
          clear he
          go_wp2_with fail
          go_ret
          exact ⟨ret_int (by rw [HL.out n, if_pos HE.out]), rfl⟩
        · have hb : (i == 2 * p - 1) = false := by simpa using he
          have h2 : 2 ≤ p := by have := HP.out; unfold isP at this; omega
          go_wp2_with (go_at_call 16; refine (IH.out _ _ (by omega) (by omega) (by omega)).mono ?_; rintro e w' ⟨rfl, rfl⟩)
          go_ret
          exact ⟨ret_int (by rw [HL.out n, if_neg he]), rfl⟩
def lubF (i : Int) : Int := if inB i 1 127 then lub 127 i else 0
theorem iLuby (i : Int) (w : World) : Calls Try.prog 16 #[.int .i64 i] w fun e w' => e = .returned (.int .i64 (lubF i)) ∧ w = w' := by
  cases hin : inB i 1 127
  · have e : lubF i = 0 := by simp [lubF, hin]
    rw [e]
    go_enter Try.func16, Try.ntmps16
    go_wp2_with (go_at_call 19; refine (within _ _ _ _).mono ?_; rintro e w' ⟨rfl, rfl⟩)
    go_ret
    exact ⟨rfl, rfl⟩
  · have e : lubF i = lub 127 i := by simp [lubF, hin]
    rw [e]
    obtain ⟨h1, h2⟩ := inB_true hin
    exact iLuby_at 127 i w (by omega) h1 h2
theorem sluby_at (n : Nat) : ∀ (i : Int) (w : World), i ≤ n → 1 ≤ i → i ≤ 127 →
    Calls Try.prog 24 #[.int .i64 i] w fun e w' => e = .returned (.int .i64 (lub n i)) ∧ w = w' := by
  induction n with
  | zero => intro i w h h1 _; omega
  | succ n ih =>
    intro i w hn h1 h127
    have IH := Lib.hid ih
    clear ih
    go_enter Try.func24, Try.ntmps24
    go_wp2_with fail
    go_loop [3] (fun t => ∃ p : Int, t = .int .i64 p ∧ (p = 1 ∨ p = 128 ∨ isP p) ∧ p ≤ 2 * i) (fun t => (256 - intOf t).toNat)
    case atStart => exact ⟨1, rfl, .inl rfl, by omega⟩
    case round =>
      obtain ⟨p, rfl, hp, hpi⟩ := hrel
      have hp64 : 1 ≤ p ∧ p ≤ 128 := by unfold isP at hp; omega
      have HP := Lib.hid hp
      clear hp
      by_cases hlt : p < i + 1
      · go_wp2_with fail
        go_round
        case rel => exact ⟨2 * p, rfl, by have := HP.out; unfold isP at this ⊢; omega, by omega⟩
        case measure => simp [intOf]; omega
      · have hx : ∃ q, p = 2 * q ∧ isP q := by
          have := HP.out; unfold isP at this ⊢
          rcases this with h | h | h | h | h | h | h | h | h
          · omega
          · exact ⟨64, by omega, by omega⟩
          · omega
          · exact ⟨1, by omega, by omega⟩
          · exact ⟨2, by omega, by omega⟩
          · exact ⟨4, by omega, by omega⟩
          · exact ⟨8, by omega, by omega⟩
          · exact ⟨16, by omega, by omega⟩
          · exact ⟨32, by omega, by omega⟩
        obtain ⟨q, rfl, hq⟩ := hx
        have hq2 : 2 * q / 2 = q := by omega
        have hpw := pwr_of q i hq (by omega) h127 (by omega)
        have hl : ∀ m, lub (m + 1) i = if i = 2 * q - 1 then q else lub m (i - q + 1) := by intro m; rw [lub, hpw]
        have HL := Lib.hid hl
        clear hl hpw
        by_cases he : i = 2 * q - 1
        · have hb : (2 * q == i + 1) = true := by simp; omega
          have HE := Lib.hid he
          clear he
          go_wp2_with fail
          go_ret
          exact ⟨ret_int (by rw [HL.out n, if_pos HE.out]), rfl⟩
        · have hb : (2 * q == i + 1) = false := by simp; omega
          have h2 : 2 ≤ q := by unfold isP at hq; omega
          go_wp2_with (go_at_call 24; refine (IH.out _ _ (by omega) (by omega) (by omega)).mono ?_; rintro e w' ⟨rfl, rfl⟩)
          go_ret
          exact ⟨ret_int (by rw [HL.out n, if_neg he]), rfl⟩
theorem sLuby (i : Int) (w : World) : Calls Try.prog 15 #[.int .i64 i] w fun e w' => e = .returned (.int .i64 (lubF i)) ∧ w = w' := by
  cases hin : inB i 1 127
  · have e : lubF i = 0 := by simp [lubF, hin]
    rw [e]
    go_enter Try.func15, Try.ntmps15
    go_wp2_with (go_at_call 23; refine (inRange _ _ _ _).mono ?_; rintro e w' ⟨rfl, rfl⟩)
    go_ret
    exact ⟨rfl, rfl⟩
  · have e : lubF i = lub 127 i := by simp [lubF, hin]
    rw [e]
    obtain ⟨h1, h2⟩ := inB_true hin
    go_enter Try.func15, Try.ntmps15
    go_wp2_with (first | (go_at_call 23; refine (inRange _ _ _ _).mono ?_; rintro e w' ⟨rfl, rfl⟩) | (go_at_call 24; refine (sluby_at 127 _ _ (by omega) (by omega) (by omega)).mono ?_; rintro e w' ⟨rfl, rfl⟩))
    go_ret
    exact ⟨rfl, rfl⟩
end Go.Proofs.Ytgjpncohobfabaa
