/- FnExactSoftCost: for every input the law returns true and its arguments read as before; no further condition. -/
import Derived.Test.YtpgmjempdpelkaaRows
import Derived.WalkKit
import Derived.ProofKit
import Derived.OpenShut
import Derived.Carry
import Derived.StillTailTactics
import Derived.Test.YtpgmjempdpelkaaCost
import Derived.Test.YtpgmjempdpelkaaOpenC
namespace Go.Proofs.Ytpgmjempdpelkaa.fnExactSoftCost
open Go.ChangeShapes Go.WideShapes Go.ChangeAt Go.RowKit
open Go.Shelf
set_option linter.unusedVariables false
set_option maxRecDepth 100000

theorem own : ownKnob Try.prog.godebug = none := by kernel_rfl
theorem laid : laidOutB Try.prog = true := by kernel_rfl

set_option maxHeartbeats 4000000 in
theorem walk {W : World} (A0 : Option Addr) (n0 c0 : Nat) (xs0 : List Sof) (g0 : SofsA W W.heap.size A0 n0 xs0) (A1 : Option Addr) (n1 c1 : Nat) (xs1 : List Int) (g1 : IntA W W.heap.size A1 n1 xs1) :
    Calls Try.prog 7 #[.slice A0 n0 c0, .slice A1 n1 c1] W fun e w' => e = .returned (.bool true) ∧ Below W.heap.size W w' := by
  have b0 := g0.le
  have l0 := Lib.hid g0.len
  have b1 := g1.le
  have l1 := Lib.hid g1.len
  by_cases t1 : 1048576 < n1
  · go_enter Try.func7, Try.ntmps7
    go_wp2_with fail
    go_ret
    exact ⟨rfl, Below.refl _ _⟩
  go_enter Try.func7, Try.ntmps7
  go_wp2_with fail
  refine (szSoftS _ _ _ _ _ _ g0 (by omega) (by omega)).mono ?_
  rintro e W1 ⟨r1, rfl, hr, hB1⟩
  have c0 := hB1
  clear hB1
  rcases hr with rfl | ⟨hr0, hr1, hs0⟩
  · go_wp2_with fail
    go_ret
    exact ⟨rfl, c0⟩
  go_wp2_with fail
  refine (toSoftS _ _ _ _ _ (SofsA.on g0 c0) hs0).mono ?_
  rintro e W2 ⟨v, rfl, os0, hB2⟩
  obtain ⟨Bs0, ds0, rfl, rs0⟩ := OwnSofs.read_n l0.out os0
  clear os0
  replace c0 := bgo c0 hB2
  clear hB2
  go_wp2_with fail
  refine (toIntS _ _ _ _ _ (IntA.on g1 c0) (by omega)).mono ?_
  rintro e W3 ⟨v, rfl, os1, hB3⟩
  obtain ⟨Bs1, ds1, rfl, rs1, -⟩ := IntR.of_own os1 b1
  clear os1
  replace c0 := bgo c0 hB3
  have c2 := hB3
  clear hB3
  go_wp2_with fail
  refine (sSoftCost _ _ _ _ _ _ _ _ _ (SofsR.on rs0 c2) rs1).mono ?_
  rintro e W4 ⟨rfl, hB4⟩
  replace c0 := bgo c0 hB4
  replace c2 := bgo c2 hB4
  have c3 := hB4
  clear hB4
  go_wp2_with fail
  clear c2
  clear c3
  refine (toSoftS _ _ _ _ _ (SofsA.on g0 c0) hs0).mono ?_
  rintro e W5 ⟨v, rfl, oi0, hB5⟩
  obtain ⟨Bi0, di0, rfl, ri0⟩ := OwnSofs.read_n l0.out oi0
  clear oi0
  replace c0 := bgo c0 hB5
  clear hB5
  go_wp2_with fail
  refine (toIntS _ _ _ _ _ (IntA.on g1 c0) (by omega)).mono ?_
  rintro e W6 ⟨v, rfl, oi1, hB6⟩
  obtain ⟨Bi1, di1, rfl, ri1, -⟩ := IntR.of_own oi1 b1
  clear oi1
  replace c0 := bgo c0 hB6
  have c5 := hB6
  clear hB6
  go_wp2_with fail
  refine (iSoftCost _ _ _ _ _ _ _ _ _ (SofsR.on ri0 c5) ri1).mono ?_
  rintro e W7 ⟨rfl, hB7⟩
  replace c0 := bgo c0 hB7
  replace c5 := bgo c5 hB7
  have c6 := hB7
  clear hB7
  go_wp2_with fail
  refine (toSoftS _ _ _ _ _ (SofsA.on g0 c0) hs0).mono ?_
  rintro e W8 ⟨v, rfl, oe0, hB8⟩
  obtain ⟨Be0, de0, rfl, re0⟩ := OwnSofs.read_n l0.out oe0
  clear oe0
  replace c0 := bgo c0 hB8
  replace c5 := bgo c5 hB8
  replace c6 := bgo c6 hB8
  clear hB8
  go_wp2_with fail
  refine (eqSoftS _ _ _ _ _ _ _ _ _ (SofsR.on ri0 c5) re0).mono ?_
  rintro e W9 ⟨rfl, hB9⟩
  replace c0 := bgo c0 hB9
  replace c5 := bgo c5 hB9
  replace c6 := bgo c6 hB9
  have c8 := hB9
  clear hB9
  go_wp2_with fail
  clear c8
  refine (toIntS _ _ _ _ _ (IntA.on g1 c0) (by omega)).mono ?_
  rintro e W10 ⟨v, rfl, oe1, hB10⟩
  obtain ⟨Be1, de1, rfl, re1, -⟩ := IntR.of_own oe1 b1
  clear oe1
  replace c0 := bgo c0 hB10
  replace c5 := bgo c5 hB10
  replace c6 := bgo c6 hB10
  clear hB10
  go_wp2_with fail
  refine (eqIntS _ _ _ _ _ _ _ _ _ (IntR.on ri1 c6) re1).mono ?_
  rintro e W11 ⟨rfl, hB11⟩
  replace c0 := bgo c0 hB11
  replace c5 := bgo c5 hB11
  replace c6 := bgo c6 hB11
  have c10 := hB11
  clear hB11
  go_wp2_with fail
  clear c10
  go_ret
  exact ⟨rfl, c0⟩

set_option maxRecDepth 100000 in
theorem lifted (os : Os) (started : os.Started) (H : Type) (enc : TypeId × Value → H) :
    ReturnsInHanded {} Try.checked os 7 .any (Rows.fnExactSoftCostSpec.pre6 enc Try.prog Try.f7 Rows.fnExactSoftCostRow.domain false) (Rows.fnExactSoftCostSpec.post enc Try.prog Try.f7 false true false false) := by
  refine returnsInHanded_of_change (C := Try.checked) own started (by kernel_rfl) Try.func7
    (ChangeSpec.witness6 (enc := enc) (C := Try.checked) false ⟨#[], #[.slice none 0 0, .slice none 0 0], []⟩ 8 (by kernel_rfl) (by kernel_rfl) (by kernel_rfl) (by kernel_rfl)) ?_
  intro W base args ds gs before hval0 hW hcnd _
  have hval : ∀ (j : Nat) t v, Try.f7.params[j]? = some t → args[j]? = some v → Value.okWide Try.prog W .any base t v := hval0
  have hW' := hW
  obtain ⟨p, q, hA0, hV, rfl, hfz, hnd⟩ := hW
  have hA : DataW.TrodAll enc Try.prog W 0 (fun _ => true) true Try.f7.params.toList args.toList ds p := hA0
  rw [Try.params7] at hA hval
  obtain ⟨v0, vs0, d0, ds0, p0, q0, hargs, rfl, rfl, h0, r0⟩ := trodAll_cons hA
  obtain ⟨v1, vs1, d1, ds1, p1, q1, rfl, rfl, rfl, h1, r1⟩ := trodAll_cons r0
  obtain ⟨rfl, rfl, rfl⟩ := trodAll_nil r1
  obtain rfl : args = #[v0, v1] := by cases args; simp_all
  obtain ⟨rfl, rfl⟩ := trodVars_none hV
  have k0 := h0
  have l0 : ∀ x ∈ p0, x.block < W.heap.size := fun x hx => hW'.lt x (by simp [hx])
  have k1 := h1
  have l1 : ∀ x ∈ p1, x.block < W.heap.size := fun x hx => hW'.lt x (by simp [hx])
  obtain ⟨A0, n0, c0, xs0, rfl, g0⟩ := open_softS (hval 0 56 v0 rfl rfl) k0
  obtain ⟨A1, n1, c1, xs1, rfl, g1⟩ := open_intS Try.underlying22 Try.underlying3 (by kernel_rfl) (hval 1 22 v1 rfl rfl) k1
  clear hA0 hval0
  refine (walk A0 n0 c0 xs0 g0 A1 n1 c1 xs1 g1).mono fun e W' ⟨he, hb⟩ => ?_
  subst he
  exact ⟨_, rfl, _, _, _, [], _, [], hW', trodAll_cons_mk (p := []) (shut_bool Try.underlying4 _) trodAll_mk0, (trodAll_cons_mk (Below.trod laid (by kernel_rfl) (of_decide_eq_true (by kernel_rfl)) h0 hb l0) (trodAll_cons_mk (Below.trod laid (by kernel_rfl) (of_decide_eq_true (by kernel_rfl)) h1 hb l1) trodAll_mk0)), rfl, hb.frame _, fun h => by cases h⟩

theorem over : Rows.fnExactSoftCostRow.holds Try.pinned (OpenSpec.ofChange Rows.fnExactSoftCostSpec) :=
  OpenClaim.holds_of_wide 7 Try.f7 rfl rfl rfl rfl rfl rfl rfl ⟨rfl, rfl, rfl, rfl, rfl⟩ rfl rfl rfl rfl rfl (by kernel_rfl) Try.func7 (by kernel_rfl)
    (of_decide_eq_true (by kernel_rfl)) (by unfold Func.isWrapper; first | (rw [if_pos (by decide +kernel)]; kernel_rfl) | (rw [if_neg (by decide +kernel)]; exact ⟨rfl, rfl⟩))
    (fun os started H enc _ => lifted os started H enc)

/-- The statement. -/
theorem proved : Rows.FnExactSoftCostSaid :=
  over
#print axioms proved
end Go.Proofs.Ytpgmjempdpelkaa.fnExactSoftCost
