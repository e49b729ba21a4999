/- FnExactDomainValues: for every input the law returns true and its arguments read as before; no further condition. -/
import Derived.Test.YtcgkbamcmpodoaaRows
import Derived.WalkKit
import Derived.ProofKit
import Derived.OpenShut
import Derived.Carry
import Derived.Test.YtcgkbamcmpodoaaDvals
import Derived.Test.YtcgkbamcmpodoaaOpen
namespace Go.Proofs.Ytcgkbamcmpodoaa.fnExactDomainValues
open Go.ChangeShapes Go.WideShapes Go.ChangeAt Go.RowKit
open Go.Shelf
set_option linter.unusedVariables false

theorem own : ownKnob Try.prog.godebug = none := by kernel_rfl
theorem laid : laidOutB Try.prog = true := by kernel_rfl

set_option maxHeartbeats 4000000 in
theorem walk {W : World} (a0 : Int) (w0 : (Lit.int .i64 a0).wf = true) :
    Calls Try.prog 8 #[.int .i64 a0] W fun e w' => e = .returned (.bool true) ∧ Below W.heap.size W w' := by
  go_enter Try.func8, Try.ntmps8
  go_wp2_with fail
  refine (sDomainValues _ _).mono ?_
  rintro e W1 ⟨v, rfl, ow, hB1⟩
  have qw := ow
  obtain ⟨Bw, dw, rfl, rw, -⟩ := IntR.of_own qw (by have := dvF_len a0; omega)
  clear qw
  have c0 := hB1
  clear hB1
  go_wp2_with fail
  have z0_1 := c0.size
  refine (iDomainValues _ _).mono ?_
  rintro e W2 ⟨v, rfl, og, hB2⟩
  have qg := og
  obtain ⟨Bg, dg, rfl, rg, -⟩ := IntR.of_own qg (by have := dvF_len a0; omega)
  clear qg
  replace c0 := bgo c0 hB2
  have c1 := hB2
  clear hB2
  go_wp2_with fail
  refine (eqIntS _ _ _ _ _ _ _ _ _ rg (IntR.on rw c1)).mono ?_
  rintro e W3 ⟨rfl, hB3⟩
  replace c0 := bgo c0 hB3
  replace c1 := bgo c1 hB3
  have c2 := hB3
  clear hB3
  go_wp2_with fail
  refine (markIntS _ _ _ _ W1.heap.size 1 _ _ rfl (own_below og c2) (by have := dvF_len a0; omega) (by omega) (by omega)).mono ?_
  rintro e W4 ⟨rfl, om, hB4⟩
  have qm := om
  obtain ⟨Bm, dm, em, rm, -⟩ := IntR.of_own qm (by have := dvF_len a0; omega)
  injection em with em1 em2 em3
  rw [← em1] at rm
  clear qm om em1 em2 em3
  replace c0 := c0.trans (hB4.mono z0_1)
  replace c1 := c1.trans hB4
  clear c2
  clear hB4
  go_wp2_with fail
  refine (heldIntS _ _ _ _ _ rm (by have := dvF_len a0; omega) (by omega) (by omega)).mono ?_
  rintro e W5 ⟨rfl, hB5⟩
  replace c0 := bgo c0 hB5
  replace c1 := bgo c1 hB5
  have c4 := hB5
  clear hB5
  go_wp2_with fail
  refine (iDomainValues _ _).mono ?_
  rintro e W6 ⟨v, rfl, oh, hB6⟩
  have qh := oh
  obtain ⟨Bh, dh, rfl, rh, -⟩ := IntR.of_own qh (by have := dvF_len a0; omega)
  clear qh
  replace c0 := bgo c0 hB6
  replace c1 := bgo c1 hB6
  replace c4 := bgo c4 hB6
  clear hB6
  go_wp2_with fail
  refine (eqIntS _ _ _ _ _ _ _ _ _ rh (IntR.on rw c1)).mono ?_
  rintro e W7 ⟨rfl, hB7⟩
  replace c0 := bgo c0 hB7
  replace c1 := bgo c1 hB7
  replace c4 := bgo c4 hB7
  have c6 := hB7
  clear hB7
  go_wp2_with fail
  refine (heldIntS _ _ _ _ _ (IntR.on rm c4) (by have := dvF_len a0; omega) (by omega) (by omega)).mono ?_
  rintro e W8 ⟨rfl, hB8⟩
  replace c0 := bgo c0 hB8
  replace c1 := bgo c1 hB8
  replace c4 := bgo c4 hB8
  replace c6 := bgo c6 hB8
  clear hB8
  go_wp2_with fail
  go_ret
  exact ⟨rfl, c0⟩

set_option maxRecDepth 100000 in
theorem lifted (os : Os) (started : os.Started) (H : Type) (enc : TypeId × Value → H) :
    ReturnsInHanded {} Try.checked os 8 .any (Rows.fnExactDomainValuesSpec.pre6 enc Try.prog Try.f8 Rows.fnExactDomainValuesRow.domain false) (Rows.fnExactDomainValuesSpec.post enc Try.prog Try.f8 false true false false) := by
  refine returnsInHanded_of_change (C := Try.checked) own started (by kernel_rfl) Try.func8
    (ChangeSpec.witness6 (enc := enc) (C := Try.checked) false ⟨#[], #[.int .i64 0], []⟩ 8 (by kernel_rfl) (by kernel_rfl) (by kernel_rfl) (by kernel_rfl)) ?_
  intro W base args ds gs before hval0 hW hcnd _
  have hval : ∀ (j : Nat) t v, Try.f8.params[j]? = some t → args[j]? = some v → Value.okWide Try.prog W .any base t v := hval0
  have hW' := hW
  obtain ⟨p, q, hA0, hV, rfl, hfz, hnd⟩ := hW
  have hA : DataW.TrodAll enc Try.prog W 0 (fun _ => true) true Try.f8.params.toList args.toList ds p := hA0
  rw [Try.params8] at hA hval
  obtain ⟨v0, vs0, d0, ds0, p0, q0, hargs, rfl, rfl, h0, r0⟩ := trodAll_cons hA
  obtain ⟨rfl, rfl, rfl⟩ := trodAll_nil r0
  obtain rfl : args = #[v0] := by cases args; simp_all
  obtain ⟨rfl, rfl⟩ := trodVars_none hV
  have k0 := h0
  have l0 : ∀ x ∈ p0, x.block < W.heap.size := fun x hx => hW'.lt x (by simp [hx])
  obtain ⟨a0, rfl, rfl, rfl, w0⟩ := open_int Try.underlying3 (hval 0 3 v0 rfl rfl) k0
  clear hA0 hval0
  refine (walk a0 w0).mono fun e W' ⟨he, hb⟩ => ?_
  subst he
  exact ⟨_, rfl, _, _, _, [], _, [], hW', trodAll_cons_mk (p := []) (shut_bool Try.underlying4 _) trodAll_mk0, (trodAll_cons_mk (Below.trod laid (by kernel_rfl) (of_decide_eq_true (by kernel_rfl)) h0 hb l0) trodAll_mk0), rfl, hb.frame _, fun h => by cases h⟩

theorem over : Rows.fnExactDomainValuesRow.holds Try.pinned (OpenSpec.ofChange Rows.fnExactDomainValuesSpec) :=
  OpenClaim.holds_of_wide 8 Try.f8 rfl rfl rfl rfl rfl rfl rfl ⟨rfl, rfl, rfl, rfl, rfl⟩ rfl rfl rfl rfl rfl (by kernel_rfl) Try.func8 (by kernel_rfl)
    (of_decide_eq_true (by kernel_rfl)) (by unfold Func.isWrapper; first | (rw [if_pos (by decide +kernel)]; kernel_rfl) | (rw [if_neg (by decide +kernel)]; exact ⟨rfl, rfl⟩))
    (fun os started H enc _ => lifted os started H enc)

/-- The statement. -/
theorem proved : Rows.FnExactDomainValuesSaid :=
  over
#print axioms proved
end Go.Proofs.Ytcgkbamcmpodoaa.fnExactDomainValues
