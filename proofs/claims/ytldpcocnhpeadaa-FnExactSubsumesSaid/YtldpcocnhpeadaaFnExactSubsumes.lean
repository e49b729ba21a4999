/- FnExactSubsumes: for every input the law returns true and its arguments read as before; no further condition. -/
import Derived.Test.YtldpcocnhpeadaaRows
import Derived.WalkKit
import Derived.ProofKit
import Derived.OpenShut
import Derived.Carry
import Derived.StillTailTactics
import Derived.Test.YtldpcocnhpeadaaSubs
namespace Go.Proofs.Ytldpcocnhpeadaa.fnExactSubsumes
open Go.ChangeShapes Go.WideShapes Go.ChangeAt Go.RowKit
open Go.Shelf
set_option linter.unusedVariables false
set_option maxRecDepth 100000

theorem own : ownKnob Try.prog.godebug = none := by kernel_rfl
theorem laid : laidOutB Try.prog = true := by kernel_rfl

set_option maxHeartbeats 4000000 in
theorem walk {W : World} (a0 : Int) (w0 : (Lit.int .i64 a0).wf = true) (A1 : Option Addr) (n1 c1 : Nat) (xs1 : List Ltl) (g1 : LitA W W.heap.size A1 n1 xs1) (A2 : Option Addr) (n2 c2 : Nat) (xs2 : List Ltl) (g2 : LitA W W.heap.size A2 n2 xs2) :
    Calls Try.prog 4 #[.int .i64 a0, .slice A1 n1 c1, .slice A2 n2 c2] W fun e w' => e = .returned (.bool true) ∧ Below W.heap.size W w' := by
  have b1 := g1.le
  have l1 := Lib.hid g1.len
  have b2 := g2.le
  have l2 := Lib.hid g2.len
  go_enter Try.func4, Try.ntmps4
  go_wp2_with fail
  refine (szLiteralS _ _ _ _ _ b1 (by omega) (by omega)).mono ?_
  rintro e W1 ⟨r1, rfl, hr, hB1⟩
  have c0 := hB1
  clear hB1
  rcases hr with rfl | ⟨hr0, hr1, hs1⟩
  · go_wp2_with fail
    go_ret
    exact ⟨rfl, c0⟩
  go_wp2_with fail
  refine (szLiteralS _ _ _ _ _ b2 (by omega) (by omega)).mono ?_
  rintro e W2 ⟨r2, rfl, hr, hB2⟩
  replace c0 := bgo c0 hB2
  have c1 := hB2
  clear hB2
  rcases hr with rfl | ⟨hr0, hr1, hs2⟩
  · go_wp2_with fail
    go_ret
    exact ⟨rfl, c0⟩
  go_wp2_with fail
  refine (toLiteralS _ _ _ _ _ (LitA.on g1 c0) (by omega)).mono ?_
  rintro e W3 ⟨v, rfl, os1, hB3⟩
  obtain ⟨Bs1, ds1, rfl, rs1⟩ := LitR.of_own l1.out os1 b1
  replace c0 := bgo c0 hB3
  replace c1 := bgo c1 hB3
  clear hB3
  clear c1
  go_wp2_with fail
  refine (toLiteralS _ _ _ _ _ (LitA.on g2 c0) (by omega)).mono ?_
  rintro e W4 ⟨v, rfl, os2, hB4⟩
  obtain ⟨Bs2, ds2, rfl, rs2⟩ := LitR.of_own l2.out os2 b2
  replace c0 := bgo c0 hB4
  have c3 := hB4
  clear hB4
  go_wp2_with fail
  refine (sSubsumes _ _ _ _ _ _ _ _ _ _ (own_below os1 c3) l1.out os2 l2.out b1 b2).mono ?_
  rintro e W5 ⟨rfl, hB5⟩
  replace c0 := bgo c0 hB5
  replace c3 := bgo c3 hB5
  have c4 := hB5
  clear hB5
  go_wp2_with fail
  clear c3
  clear c4
  refine (toLiteralS _ _ _ _ _ (LitA.on g1 c0) (by omega)).mono ?_
  rintro e W6 ⟨v, rfl, oi1, hB6⟩
  obtain ⟨Bi1, di1, rfl, ri1⟩ := LitR.of_own l1.out oi1 b1
  clear oi1
  replace c0 := bgo c0 hB6
  clear hB6
  go_wp2_with fail
  refine (toLiteralS _ _ _ _ _ (LitA.on g2 c0) (by omega)).mono ?_
  rintro e W7 ⟨v, rfl, oi2, hB7⟩
  obtain ⟨Bi2, di2, rfl, ri2⟩ := LitR.of_own l2.out oi2 b2
  clear oi2
  replace c0 := bgo c0 hB7
  have c6 := hB7
  clear hB7
  go_wp2_with fail
  refine (iSubsumes _ _ _ _ _ _ _ _ _ _ (LitR.on ri1 c6) ri2).mono ?_
  rintro e W8 ⟨rfl, hB8⟩
  replace c0 := bgo c0 hB8
  replace c6 := bgo c6 hB8
  have c7 := hB8
  clear hB8
  go_wp2_with fail
  refine (toLiteralS _ _ _ _ _ (LitA.on g1 c0) (by omega)).mono ?_
  rintro e W9 ⟨v, rfl, oe1, hB9⟩
  obtain ⟨Be1, de1, rfl, re1⟩ := LitR.of_own l1.out oe1 b1
  clear oe1
  replace c0 := bgo c0 hB9
  replace c6 := bgo c6 hB9
  replace c7 := bgo c7 hB9
  clear hB9
  go_wp2_with fail
  refine (eqLiteralS _ _ _ _ _ _ _ _ _ (LitR.on ri1 c6) re1).mono ?_
  rintro e W10 ⟨rfl, hB10⟩
  replace c0 := bgo c0 hB10
  replace c6 := bgo c6 hB10
  replace c7 := bgo c7 hB10
  have c9 := hB10
  clear hB10
  go_wp2_with fail
  clear c9
  refine (toLiteralS _ _ _ _ _ (LitA.on g2 c0) (by omega)).mono ?_
  rintro e W11 ⟨v, rfl, oe2, hB11⟩
  obtain ⟨Be2, de2, rfl, re2⟩ := LitR.of_own l2.out oe2 b2
  clear oe2
  replace c0 := bgo c0 hB11
  replace c6 := bgo c6 hB11
  replace c7 := bgo c7 hB11
  clear hB11
  go_wp2_with fail
  refine (eqLiteralS _ _ _ _ _ _ _ _ _ (LitR.on ri2 c7) re2).mono ?_
  rintro e W12 ⟨rfl, hB12⟩
  replace c0 := bgo c0 hB12
  replace c6 := bgo c6 hB12
  replace c7 := bgo c7 hB12
  have c11 := hB12
  clear hB12
  go_wp2_with fail
  clear c11
  go_ret
  exact ⟨rfl, c0⟩

set_option maxRecDepth 100000 in
theorem lifted (os : Os) (started : os.Started) (H : Type) (enc : TypeId × Value → H) :
    ReturnsInHanded {} Try.checked os 4 .any (Rows.fnExactSubsumesSpec.pre6 enc Try.prog Try.f4 Rows.fnExactSubsumesRow.domain false) (Rows.fnExactSubsumesSpec.post enc Try.prog Try.f4 false true false false) := by
  refine returnsInHanded_of_change (C := Try.checked) own started (by kernel_rfl) Try.func4
    (ChangeSpec.witness6 (enc := enc) (C := Try.checked) false ⟨#[], #[.int .i64 0, .slice none 0 0, .slice none 0 0], []⟩ 8 (by kernel_rfl) (by kernel_rfl) (by kernel_rfl) (by kernel_rfl)) ?_
  intro W base args ds gs before hval0 hW hcnd _
  have hval : ∀ (j : Nat) t v, Try.f4.params[j]? = some t → args[j]? = some v → Value.okWide Try.prog W .any base t v := hval0
  have hW' := hW
  obtain ⟨p, q, hA0, hV, rfl, hfz, hnd⟩ := hW
  have hA : DataW.TrodAll enc Try.prog W 0 (fun _ => true) true Try.f4.params.toList args.toList ds p := hA0
  rw [Try.params4] at hA hval
  obtain ⟨v0, vs0, d0, ds0, p0, q0, hargs, rfl, rfl, h0, r0⟩ := trodAll_cons hA
  obtain ⟨v1, vs1, d1, ds1, p1, q1, rfl, rfl, rfl, h1, r1⟩ := trodAll_cons r0
  obtain ⟨v2, vs2, d2, ds2, p2, q2, rfl, rfl, rfl, h2, r2⟩ := trodAll_cons r1
  obtain ⟨rfl, rfl, rfl⟩ := trodAll_nil r2
  obtain rfl : args = #[v0, v1, v2] := by cases args; simp_all
  obtain ⟨rfl, rfl⟩ := trodVars_none hV
  have k0 := h0
  have l0 : ∀ x ∈ p0, x.block < W.heap.size := fun x hx => hW'.lt x (by simp [hx])
  have k1 := h1
  have l1 : ∀ x ∈ p1, x.block < W.heap.size := fun x hx => hW'.lt x (by simp [hx])
  have k2 := h2
  have l2 : ∀ x ∈ p2, x.block < W.heap.size := fun x hx => hW'.lt x (by simp [hx])
  obtain ⟨a0, rfl, rfl, rfl, w0⟩ := open_int Try.underlying3 (hval 0 3 v0 rfl rfl) k0
  obtain ⟨A1, n1, c1, xs1, rfl, g1⟩ := open_litS (hval 1 29 v1 rfl rfl) k1
  obtain ⟨A2, n2, c2, xs2, rfl, g2⟩ := open_litS (hval 2 29 v2 rfl rfl) k2
  clear hA0 hval0
  refine (walk a0 w0 A1 n1 c1 xs1 g1 A2 n2 c2 xs2 g2).mono fun e W' ⟨he, hb⟩ => ?_
  subst he
  exact ⟨_, rfl, _, _, _, [], _, [], hW', trodAll_cons_mk (p := []) (shut_bool Try.underlying4 _) trodAll_mk0, (trodAll_cons_mk (Below.trod laid (by kernel_rfl) (of_decide_eq_true (by kernel_rfl)) h0 hb l0) (trodAll_cons_mk (Below.trod laid (by kernel_rfl) (of_decide_eq_true (by kernel_rfl)) h1 hb l1) (trodAll_cons_mk (Below.trod laid (by kernel_rfl) (of_decide_eq_true (by kernel_rfl)) h2 hb l2) trodAll_mk0))), rfl, hb.frame _, fun h => by cases h⟩

theorem over : Rows.fnExactSubsumesRow.holds Try.pinned (OpenSpec.ofChange Rows.fnExactSubsumesSpec) :=
  OpenClaim.holds_of_wide 4 Try.f4 rfl rfl rfl rfl rfl rfl rfl ⟨rfl, rfl, rfl, rfl, rfl⟩ rfl rfl rfl rfl rfl (by kernel_rfl) Try.func4 (by kernel_rfl)
    (of_decide_eq_true (by kernel_rfl)) (by unfold Func.isWrapper; first | (rw [if_pos (by decide +kernel)]; kernel_rfl) | (rw [if_neg (by decide +kernel)]; exact ⟨rfl, rfl⟩))
    (fun os started H enc _ => lifted os started H enc)

/-- The statement. -/
theorem proved : Rows.FnExactSubsumesSaid :=
  over
#print axioms proved
end Go.Proofs.Ytldpcocnhpeadaa.fnExactSubsumes
