/- FnDomainRange: for every input the law returns true and its arguments read as before; no further condition. -/
import Derived.Test.YtgjpncohobfabaaRows
import Derived.WalkKit
import Derived.ProofKit
import Derived.OpenShut
import Derived.Carry
import Derived.Test.YtgjpncohobfabaaDraw
import Derived.Test.YtgjpncohobfabaaDom
namespace Go.Proofs.Ytgjpncohobfabaa.fnDomainRange
open Go.ChangeShapes Go.WideShapes Go.ChangeAt Go.RowKit
open Go.Shelf
set_option linter.unusedVariables false

theorem own : ownKnob Try.prog.godebug = none := by kernel_rfl
theorem laid : laidOutB Try.prog = true := by kernel_rfl

theorem inB_mk_vd (lo hi : Int) : vdB (drTo lo hi 6) = true := inB_mk (drTo_63 lo hi 6 (by omega))
theorem range_has : ∀ lo : Fin 9, ∀ hi : Fin 10, ∀ v : Fin 6, (vdB (drTo ((lo.val : Int) - 2) ((hi.val : Int) - 2) 6) && dhB (drTo ((lo.val : Int) - 2) ((hi.val : Int) - 2) 6) (v.val : Int)) = inB (v.val : Int) ((lo.val : Int) - 2) ((hi.val : Int) - 2) := by decide +kernel
theorem range_has' (lo hi : Int) (v : Nat) (h : -2 ≤ lo ∧ lo ≤ 6 ∧ -2 ≤ hi ∧ hi ≤ 7) (hv : v < 6) : (vdB (drTo lo hi 6) && dhB (drTo lo hi 6) (v : Int)) = inB (v : Int) lo hi := by
  obtain ⟨a, ha⟩ := Int.eq_ofNat_of_zero_le (show 0 ≤ lo + 2 by omega)
  obtain ⟨b, hb⟩ := Int.eq_ofNat_of_zero_le (show 0 ≤ hi + 2 by omega)
  obtain rfl : lo = (a : Int) - 2 := by omega
  obtain rfl : hi = (b : Int) - 2 := by omega
  exact range_has ⟨a, by omega⟩ ⟨b, by omega⟩ ⟨v, hv⟩
set_option maxHeartbeats 4000000 in
theorem walk {W : World} (A0 : Option Addr) (n0 c0 : Nat) (xs0 : List Int) (g0 : CodeA W W.heap.size A0 n0 c0 xs0) :
    Calls Try.prog 8 #[.slice A0 n0 c0] W fun e w' => e = .returned (.bool true) ∧ Below W.heap.size W w' := by
  by_cases hlen : (1048576 : Int) < (n0 : Int)
  · have hd : decide ((1048576 : Int) < (n0 : Int)) = true := decide_eq_true hlen
    clear hlen
    go_enter Try.func8, Try.ntmps8
    go_wp2_with fail
    go_ret
    exact ⟨rfl, Below.refl _ _⟩
  · have hd : decide ((1048576 : Int) < (n0 : Int)) = false := decide_eq_false hlen
    go_enter Try.func8, Try.ntmps8
    go_wp2_with fail
    refine (drawDomainRange _ _ _ _ _ g0).mono ?_
    rintro e W1 ⟨lo, hi, rfl, hl, hB⟩
    go_wp2_with fail
    refine (iDomainRange _ _ _).mono ?_
    rintro e W' ⟨rfl, rfl⟩
    go_wp2_with fail
    refine (sDomainRange _ _ _).mono ?_
    rintro e W' ⟨rfl, rfl⟩
    go_wp2_with fail
    go_loop [6] (fun t => ∃ k : Nat, k ≤ 6 ∧ t = .int .i64 k) (fun t => 6 - (intOf t).toNat)
    case atStart => exact ⟨0, by omega, rfl⟩
    case round =>
      obtain ⟨k, hk, rfl⟩ := hrel
      by_cases hlt : k < 6
      · have hv := range_has' lo hi k hl hlt
        have HV := Lib.hid hl
        clear hl
        by_cases h1 : lo ≤ (k : Int)
        · by_cases h2 : (k : Int) ≤ hi
          · rw [inB_mk ⟨h1, h2⟩] at hv
            go_wp2_with fail
            refine (iDomainHas _ _ _).mono ?_
            rintro e W' ⟨rfl, rfl⟩
            rw [hv]
            go_wp2_with fail
            go_round
            case rel => exact ⟨k + 1, by omega, by go_num⟩
            case measure => simp [intOf]; omega
          · rw [inB_no (by omega)] at hv
            go_wp2_with fail
            refine (iDomainHas _ _ _).mono ?_
            rintro e W' ⟨rfl, rfl⟩
            rw [hv]
            go_wp2_with fail
            go_round
            case rel => exact ⟨k + 1, by omega, by go_num⟩
            case measure => simp [intOf]; omega
        · rw [inB_no (by omega)] at hv
          go_wp2_with fail
          refine (iDomainHas _ _ _).mono ?_
          rintro e W' ⟨rfl, rfl⟩
          rw [hv]
          go_wp2_with fail
          go_round
          case rel => exact ⟨k + 1, by omega, by go_num⟩
          case measure => simp [intOf]; omega
      · have hk6 : k = 6 := by omega
        go_wp2_with fail
        refine (iValidDomain _ _).mono ?_
        rintro e W' ⟨rfl, rfl⟩
        go_wp2_with fail
        go_ret
        exact ⟨by rw [inB_mk_vd lo hi]; rfl, hB⟩

set_option maxRecDepth 100000 in
theorem lifted (os : Os) (started : os.Started) (H : Type) (enc : TypeId × Value → H) :
    ReturnsInHanded {} Try.checked os 8 .any (Rows.fnDomainRangeSpec.pre6 enc Try.prog Try.f8 Rows.fnDomainRangeRow.domain false) (Rows.fnDomainRangeSpec.post enc Try.prog Try.f8 false true false false) := by
  refine returnsInHanded_of_change (C := Try.checked) own started (by kernel_rfl) Try.func8
    (ChangeSpec.witness6 (enc := enc) (C := Try.checked) false ⟨#[], #[.slice none 0 0], []⟩ 8 (by kernel_rfl) (by kernel_rfl) (by kernel_rfl) (by kernel_rfl)) ?_
  intro W base args ds gs before hval0 hW hcnd _
  have hval : ∀ (j : Nat) t v, Try.f8.params[j]? = some t → args[j]? = some v → Value.okWide Try.prog W .any base t v := hval0
  have hW' := hW
  obtain ⟨p, q, hA0, hV, rfl, hfz, hnd⟩ := hW
  have hA : DataW.TrodAll enc Try.prog W 0 (fun _ => true) true Try.f8.params.toList args.toList ds p := hA0
  rw [Try.params8] at hA hval
  obtain ⟨v0, vs0, d0, ds0, p0, q0, hargs, rfl, rfl, h0, r0⟩ := trodAll_cons hA
  obtain ⟨rfl, rfl, rfl⟩ := trodAll_nil r0
  obtain rfl : args = #[v0] := by cases args; simp_all
  obtain ⟨rfl, rfl⟩ := trodVars_none hV
  have k0 := h0
  have l0 : ∀ x ∈ p0, x.block < W.heap.size := fun x hx => hW'.lt x (by simp [hx])
  obtain ⟨A0, n0, c0, xs0, rfl, g0⟩ := open_byteS Try.underlying27 Try.underlying5 (by kernel_rfl) (hval 0 27 v0 rfl rfl) k0
  clear hA0 hval0
  refine (walk A0 n0 c0 xs0 g0).mono fun e W' ⟨he, hb⟩ => ?_
  subst he
  exact ⟨_, rfl, _, _, _, [], _, [], hW', trodAll_cons_mk (p := []) (shut_bool Try.underlying4 _) trodAll_mk0, (trodAll_cons_mk (Below.trod laid (by kernel_rfl) (of_decide_eq_true (by kernel_rfl)) h0 hb l0) trodAll_mk0), rfl, hb.frame _, fun h => by cases h⟩

theorem over : Rows.fnDomainRangeRow.holds Try.pinned (OpenSpec.ofChange Rows.fnDomainRangeSpec) :=
  OpenClaim.holds_of_wide 8 Try.f8 rfl rfl rfl rfl rfl rfl rfl ⟨rfl, rfl, rfl, rfl, rfl⟩ rfl rfl rfl rfl rfl (by kernel_rfl) Try.func8 (by kernel_rfl)
    (of_decide_eq_true (by kernel_rfl)) (by unfold Func.isWrapper; first | (rw [if_pos (by decide +kernel)]; kernel_rfl) | (rw [if_neg (by decide +kernel)]; exact ⟨rfl, rfl⟩))
    (fun os started H enc _ => lifted os started H enc)

/-- The statement. -/
theorem proved : Rows.FnDomainRangeSaid :=
  over
#print axioms proved
end Go.Proofs.Ytgjpncohobfabaa.fnDomainRange
