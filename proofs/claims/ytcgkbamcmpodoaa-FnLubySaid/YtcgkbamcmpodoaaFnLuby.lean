/- FnLuby: for every input the law returns true and its arguments read as before; no further condition. -/
import Derived.Test.YtcgkbamcmpodoaaRows
import Derived.WalkKit
import Derived.ProofKit
import Derived.OpenShut
import Derived.Carry
import Derived.Test.YtcgkbamcmpodoaaDraw
import Derived.Test.YtcgkbamcmpodoaaDom
namespace Go.Proofs.Ytcgkbamcmpodoaa.fnLuby
open Go.ChangeShapes Go.WideShapes Go.ChangeAt Go.RowKit
open Go.Shelf
set_option linter.unusedVariables false

theorem own : ownKnob Try.prog.godebug = none := by kernel_rfl
theorem laid : laidOutB Try.prog = true := by kernel_rfl

theorem luby_last : ∀ i : Fin 128, ∀ k : Fin 8, 1 ≤ i.val → 2 ^ k.val ≤ i.val + 1 → i.val + 1 < 2 * 2 ^ k.val → (i.val + 1 = 2 ^ k.val → lubF (i.val : Int) = (2 ^ k.val : Int) / 2) ∧ (i.val + 1 ≠ 2 ^ k.val → lubF (i.val : Int) = lubF ((i.val : Int) - 2 ^ k.val + 1)) := by decide +kernel
theorem luby_end (i p : Int) (k : Nat) (hk : k ≤ 7) (hp : p = 2 ^ k) (h1 : 1 ≤ i) (h2 : i ≤ 127) (h3 : p ≤ i + 1) (h4 : i + 1 < 2 * p) : (i = p - 1 → lubF i = p / 2) ∧ (i ≠ p - 1 → lubF i = lubF (i - p + 1)) := by
  obtain ⟨j, rfl⟩ := Int.eq_ofNat_of_zero_le (show 0 ≤ i by omega)
  subst hp
  have e : ((2 ^ k : Nat) : Int) = (2 : Int) ^ k := by push_cast; rfl
  rw [← e] at h3 h4 ⊢
  have h := luby_last ⟨j, by omega⟩ ⟨k, by omega⟩ (by simp only []; omega) (by simp only []; omega) (by simp only []; omega)
  simp only [] at h
  rw [← e] at h
  exact ⟨fun h' => h.1 (by omega), fun h' => h.2 (by omega)⟩
set_option maxHeartbeats 4000000 in
theorem walk {W : World} (A0 : Option Addr) (n0 c0 : Nat) (xs0 : List Int) (g0 : CodeA W W.heap.size A0 n0 c0 xs0) :
    Calls Try.prog 4 #[.slice A0 n0 c0] W fun e w' => e = .returned (.bool true) ∧ Below W.heap.size W w' := by
  by_cases hlen : (1048576 : Int) < (n0 : Int)
  · have hd : decide ((1048576 : Int) < (n0 : Int)) = true := decide_eq_true hlen
    clear hlen
    go_enter Try.func4, Try.ntmps4
    go_wp2_with fail
    go_ret
    exact ⟨rfl, Below.refl _ _⟩
  · have hd : decide ((1048576 : Int) < (n0 : Int)) = false := decide_eq_false hlen
    go_enter Try.func4, Try.ntmps4
    go_wp2_with fail
    refine (drawLuby _ _ _ _ _ g0).mono ?_
    rintro e W1 ⟨i, rfl, ⟨hi1, hi2⟩, hB⟩
    go_wp2_with fail
    refine (iLuby _ _).mono ?_
    rintro e W' ⟨rfl, rfl⟩
    go_wp2_with fail
    refine (sLuby _ _).mono ?_
    rintro e W' ⟨rfl, rfl⟩
    by_cases h1 : i < 1
    · have hd1 : decide (i < 1) = true := decide_eq_true h1
      go_wp2_with fail
      refine (sLuby _ _).mono ?_
      rintro e W' ⟨rfl, rfl⟩
      go_wp2_with fail
      go_ret
      exact ⟨by simp, hB⟩
    · by_cases h127 : 127 < i
      · go_wp2_with fail
        refine (sLuby _ _).mono ?_
        rintro e W' ⟨rfl, rfl⟩
        go_wp2_with fail
        go_ret
        exact ⟨by simp, hB⟩
      · go_wp2_with fail
        go_loop [5] (fun t => ∃ (k : Nat) (p : Int), k ≤ 7 ∧ Hid (p = 2 ^ k) ∧ t = .int .i64 p ∧ 1 ≤ p ∧ p ≤ i + 1) (fun t => (300 - intOf t).toNat)
        case atStart => exact ⟨0, 1, by omega, Lib.hid rfl, rfl, by omega, by omega⟩
        case round =>
          obtain ⟨k, p, hk, hp, rfl, hp1, hpi⟩ := hrel
          by_cases hlt : 2 * p - 1 ≤ i
          · go_wp2_with fail
            go_round
            case rel =>
              refine ⟨k + 1, 2 * p, ?_, Lib.hid (by rw [hp.out, Int.pow_succ]; omega), rfl, by omega, by omega⟩
              by_cases h7 : k = 7
              · subst h7
                have := hp.out
                rw [show (2 : Int) ^ 7 = 128 by decide] at this
                omega
              · omega
            case measure => simp [intOf]; omega
          · have he := luby_end i p k hk hp.out (by omega) (by omega) hpi (by omega)
            by_cases hi : i = p - 1
            · have hb : (i == p - 1) = true := by simpa using hi
              have hE := Lib.hid (he.1 hi)
              clear he
              have HI := Lib.hid hi
              clear hi
              go_wp2_with fail
              go_ret
              refine ⟨?_, hB⟩
              rw [hE.out]
              simp
            · have hb : (i == p - 1) = false := by simpa using hi
              have hE := Lib.hid (he.2 hi)
              clear he
              go_wp2_with fail
              refine (iLuby _ _).mono ?_
              rintro e W' ⟨rfl, rfl⟩
              go_wp2_with fail
              go_ret
              refine ⟨?_, hB⟩
              rw [hE.out]
              simp

set_option maxRecDepth 100000 in
theorem lifted (os : Os) (started : os.Started) (H : Type) (enc : TypeId × Value → H) :
    ReturnsInHanded {} Try.checked os 4 .any (Rows.fnLubySpec.pre6 enc Try.prog Try.f4 Rows.fnLubyRow.domain false) (Rows.fnLubySpec.post enc Try.prog Try.f4 false true false false) := by
  refine returnsInHanded_of_change (C := Try.checked) own started (by kernel_rfl) Try.func4
    (ChangeSpec.witness6 (enc := enc) (C := Try.checked) false ⟨#[], #[.slice none 0 0], []⟩ 8 (by kernel_rfl) (by kernel_rfl) (by kernel_rfl) (by kernel_rfl)) ?_
  intro W base args ds gs before hval0 hW hcnd _
  have hval : ∀ (j : Nat) t v, Try.f4.params[j]? = some t → args[j]? = some v → Value.okWide Try.prog W .any base t v := hval0
  have hW' := hW
  obtain ⟨p, q, hA0, hV, rfl, hfz, hnd⟩ := hW
  have hA : DataW.TrodAll enc Try.prog W 0 (fun _ => true) true Try.f4.params.toList args.toList ds p := hA0
  rw [Try.params4] at hA hval
  obtain ⟨v0, vs0, d0, ds0, p0, q0, hargs, rfl, rfl, h0, r0⟩ := trodAll_cons hA
  obtain ⟨rfl, rfl, rfl⟩ := trodAll_nil r0
  obtain rfl : args = #[v0] := by cases args; simp_all
  obtain ⟨rfl, rfl⟩ := trodVars_none hV
  have k0 := h0
  have l0 : ∀ x ∈ p0, x.block < W.heap.size := fun x hx => hW'.lt x (by simp [hx])
  obtain ⟨A0, n0, c0, xs0, rfl, g0⟩ := open_byteS Try.underlying26 Try.underlying5 (by kernel_rfl) (hval 0 26 v0 rfl rfl) k0
  clear hA0 hval0
  refine (walk A0 n0 c0 xs0 g0).mono fun e W' ⟨he, hb⟩ => ?_
  subst he
  exact ⟨_, rfl, _, _, _, [], _, [], hW', trodAll_cons_mk (p := []) (shut_bool Try.underlying4 _) trodAll_mk0, (trodAll_cons_mk (Below.trod laid (by kernel_rfl) (of_decide_eq_true (by kernel_rfl)) h0 hb l0) trodAll_mk0), rfl, hb.frame _, fun h => by cases h⟩

theorem over : Rows.fnLubyRow.holds Try.pinned (OpenSpec.ofChange Rows.fnLubySpec) :=
  OpenClaim.holds_of_wide 4 Try.f4 rfl rfl rfl rfl rfl rfl rfl ⟨rfl, rfl, rfl, rfl, rfl⟩ rfl rfl rfl rfl rfl (by kernel_rfl) Try.func4 (by kernel_rfl)
    (of_decide_eq_true (by kernel_rfl)) (by unfold Func.isWrapper; first | (rw [if_pos (by decide +kernel)]; kernel_rfl) | (rw [if_neg (by decide +kernel)]; exact ⟨rfl, rfl⟩))
    (fun os started H enc _ => lifted os started H enc)

/-- The statement. -/
theorem proved : Rows.FnLubySaid :=
  over
#print axioms proved
end Go.Proofs.Ytcgkbamcmpodoaa.fnLuby
