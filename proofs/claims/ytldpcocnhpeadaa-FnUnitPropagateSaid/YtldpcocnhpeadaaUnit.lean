/- Unit propagation, by the program and by the reference. -/
import Derived.Test.YtldpcocnhpeadaaUnitP
import Derived.Test.YtldpcocnhpeadaaHold
import Derived.Test.YtldpcocnhpeadaaHolds
namespace Go.Proofs.Ytldpcocnhpeadaa
open Go.ChangeShapes Go.WideShapes Go.ChangeAt Go.RowKit
open Go.Shelf
set_option linter.unusedVariables false
set_option maxRecDepth 100000

theorem icopied (b0 n : Nat) (v : Value) (xs : List Int) (w : World) (h : HoldR w b0 3 1 v n (xs.map (.int .i64))) (hn : n ≤ 1048576) :
    Calls Try.prog 111 #[v] w fun e w' => ∃ v', e = .returned v' ∧ HoldR w' w.heap.size 3 1 v' n (xs.map (.int .i64)) ∧ Below w.heap.size w w' := by
  have HC := Lib.hid (cloneInt b0 n v xs w h hn)
  clear h
  go_enter Try.func111, Try.ntmps111
  go_wp2_with fail
  refine HC.out.mono ?_
  rintro e w1 ⟨v1, rfl, h1, hb⟩
  obtain ⟨A, c, rfl⟩ := h1.form
  go_wp2_with fail
  refine (clipInt _ _ _ _ _ _ h1).mono ?_
  rintro e w2 ⟨rfl, rfl⟩
  have h2 := Lib.hid h1.clip
  clear h1
  go_wp2_with fail
  go_ret
  exact ⟨_, rfl, h2.out, hb⟩
theorem idomainsOk (A : Option Addr) (n c : Nat) (xs : List Int) (w : World) (h : IntR w w.heap.size A n xs) :
    Calls Try.prog 79 #[.slice A n c] w fun e w' => e = .returned (.bool (doF xs)) ∧ Below w.heap.size w w' := by
  have hl := h.len
  have e0 : doF xs = (inB (n : Int) 1 4 && xs.all fun d => inB d 0 63) := by unfold doF; rw [hl]
  rw [e0]
  clear e0 hl
  cases h1 : inB (n : Int) 1 4
  · have H1 := Lib.hid h1
    clear h1
    go_enter Try.func79, Try.ntmps79
    go_wp2_with (go_at_call 66; refine (within_b _ _ _ _ _ H1.out).mono ?_; rintro e w' ⟨rfl, rfl⟩)
    go_ret
    exact ⟨rfl, Below.refl _ _⟩
  · have H1 := Lib.hid h1
    clear h1
    go_enter Try.func79, Try.ntmps79
    go_wp2_with fail
    refine (within_b _ _ _ _ _ H1.out).mono ?_
    rintro e w' ⟨rfl, rfl⟩
    go_wp2_with fail
    refine (allIn _ _ _ _ _ _ _ h).mono ?_
    rintro e w' ⟨rfl, hb⟩
    go_wp2_with fail
    go_ret
    exact ⟨by simp, hb⟩
theorem svalidDomains (A : Option Addr) (n c : Nat) (xs : List Int) (w : World) (h : IntR w w.heap.size A n xs) :
    Calls Try.prog 77 #[.slice A n c] w fun e w' => e = .returned (.bool (doF xs)) ∧ Below w.heap.size w w' := by
  have hn := h.le
  have hl := Lib.hid h.len
  go_enter Try.func77, Try.ntmps77
  go_wp2_with fail
  go_loopw [3] (fun i wr => ∃ k : Nat, k ≤ n ∧ i = .int .i64 k ∧ Hid (AllB vdB xs k) ∧ Below w.heap.size w wr) (fun i _ => n - (intOf i).toNat)
  case atStart => exact ⟨0, by omega, rfl, AllB.zero _ _, Below.refl _ _⟩
  case round =>
    obtain ⟨k, hk, rfl, hq, hb⟩ := hrel
    by_cases hlt : k < n
    · obtain ⟨ab, ao, x, rfl, hab, hxk, hcx⟩ := IntR.at_ (h.below IntC.keeps hb) hlt
      have HX := Lib.hid hxk
      clear hxk
      cases hpx : vdB x
      · have HF := Lib.hid hpx
        clear hpx
        go_wp2_with fail
        refine (svalidDomain _ _).mono ?_
        rw [HF.out]
        rintro e w1 ⟨rfl, rfl⟩
        go_wp2_with fail
        go_ret
        refine ⟨ret_bool ?_, hb⟩
        unfold doF
        have : (xs.all fun d => inB d 0 63) = false := all_no (f := fun d => inB d 0 63) HX.out HF.out
        rw [this]; simp
      · have HF := Lib.hid hpx
        clear hpx
        go_wp2_with fail
        refine (svalidDomain _ _).mono ?_
        rw [HF.out]
        rintro e w1 ⟨rfl, rfl⟩
        go_wp2_with fail
        go_roundw
        case rel => exact ⟨k + 1, by omega, by go_num, AllB.succ hq.out HX.out HF.out, hb⟩
        case measure => simp [intOf]; omega
    · obtain rfl : k = n := by omega
      go_wp2_with fail
      refine (inRange _ _ _ _).mono ?_
      rintro e w1 ⟨rfl, rfl⟩
      go_wp2_with fail
      go_ret
      refine ⟨ret_bool ?_, hb⟩
      unfold doF
      have : (xs.all fun d => inB d 0 63) = true := AllB.done hq.out (Nat.le_of_eq hl.out)
      rw [this, hl.out]; simp
theorem literalDomain (x : Ltl) (w : World) (h0 : 0 ≤ x.val) (h1 : x.val ≤ 5) : Calls Try.prog 109 #[.agg #[.int .i64 x.var, .int .i64 x.val, .bool x.neg]] w fun e w' => e = .returned (.int .i64 (truesF x)) ∧ Below w.heap.size w w' := by
  obtain ⟨k, hk, hkv⟩ : ∃ k : Nat, k < 6 ∧ x.val = (k : Int) := ⟨x.val.toNat, by omega, by omega⟩
  have hp := pow_le5 k hk
  cases hn : x.neg
  · have e : truesF x = 2 ^ k := by simp [truesF, hn, hkv]
    rw [e, hkv]
    clear e hkv h0 h1
    go_enter Try.func109, Try.ntmps109
    go_wp2
    go_ret
    exact ⟨rfl, b_alloc _ _⟩
  · have e : truesF x = 63 - 2 ^ k := litDom x k hk hkv hn
    rw [e, hkv]
    clear e hkv h0 h1
    go_enter Try.func109, Try.ntmps109
    go_wp2
    go_ret
    exact ⟨rfl, b_alloc _ _⟩
end Go.Proofs.Ytldpcocnhpeadaa
