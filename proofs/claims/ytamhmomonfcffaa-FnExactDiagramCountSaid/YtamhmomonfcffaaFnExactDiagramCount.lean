/- FnExactDiagramCount: for every input the law returns true and its arguments read as before; no further condition. -/
import Derived.Test.YtamhmomonfcffaaRows
import Derived.WalkKit
import Derived.ProofKit
import Derived.OpenShut
import Derived.Carry
import Derived.StillTailTactics
import Derived.Test.YtamhmomonfcffaaPath
namespace Go.Proofs.Ytamhmomonfcffaa.fnExactDiagramCount
open Go.ChangeShapes Go.WideShapes Go.ChangeAt Go.RowKit
open Go.Shelf
set_option linter.unusedVariables false
set_option maxRecDepth 100000

theorem own : ownKnob Try.prog.godebug = none := by kernel_rfl
theorem laid : laidOutB Try.prog = true := by kernel_rfl

set_option maxHeartbeats 4000000 in
theorem walk {W : World} (A0 : Option Addr) (n0 c0 : Nat) (xs0 : List (List (List Int))) (g0 : SlA (RowA (RowA IntC)) W W.heap.size A0 n0 xs0) :
    Calls Try.prog 3 #[.slice A0 n0 c0] W fun e w' => e = .returned (.bool true) ∧ Below W.heap.size W w' := by
  have b0 := g0.le
  have l0 := Lib.hid g0.len
  go_enter Try.func3, Try.ntmps3
  go_wp2_with fail
  refine (szIntSSS _ _ _ _ _ _ g0 (by omega) (by omega)).mono ?_
  rintro e W1 ⟨r1, rfl, hr, hB1⟩
  have c0 := hB1
  clear hB1
  rcases hr with rfl | ⟨hr0, hr1, hs0⟩
  · go_wp2_with fail
    go_ret
    exact ⟨rfl, c0⟩
  go_wp2_with fail
  refine (toIntSSS _ _ _ _ _ (LayA.on g0 c0) (by rw [← l0.out]; exact hs0.1) hs0.2).mono ?_
  rintro e W2 ⟨v, rfl, os0, hB2⟩
  obtain ⟨Bs0, ds0, rfl, rs0⟩ := read3 os0
  clear os0
  replace c0 := bgo c0 hB2
  clear hB2
  go_wp2_with fail
  refine (sDiagramCount _ _ _ _ _ rs0).mono ?_
  rintro e W3 ⟨rfl, hB3⟩
  replace c0 := bgo c0 hB3
  have c2 := hB3
  clear hB3
  go_wp2_with fail
  clear c2
  refine (toIntSSS _ _ _ _ _ (LayA.on g0 c0) (by rw [← l0.out]; exact hs0.1) hs0.2).mono ?_
  rintro e W4 ⟨v, rfl, oi0, hB4⟩
  obtain ⟨Bi0, di0, rfl, ri0⟩ := read3 oi0
  clear oi0
  replace c0 := bgo c0 hB4
  clear hB4
  go_wp2_with fail
  refine (iDiagramCount _ _ _ _ _ ri0).mono ?_
  rintro e W5 ⟨rfl, hB5⟩
  replace c0 := bgo c0 hB5
  have c4 := hB5
  clear hB5
  go_wp2_with fail
  refine (toIntSSS _ _ _ _ _ (LayA.on g0 c0) (by rw [← l0.out]; exact hs0.1) hs0.2).mono ?_
  rintro e W6 ⟨v, rfl, oe0, hB6⟩
  obtain ⟨Be0, de0, rfl, re0⟩ := read3 oe0
  clear oe0
  replace c0 := bgo c0 hB6
  replace c4 := bgo c4 hB6
  clear hB6
  go_wp2_with fail
  refine (eqIntSSS _ _ _ _ _ _ _ _ _ (LayR.on ri0 c4) re0).mono ?_
  rintro e W7 ⟨rfl, hB7⟩
  replace c0 := bgo c0 hB7
  replace c4 := bgo c4 hB7
  have c6 := hB7
  clear hB7
  go_wp2_with fail
  clear c6
  go_ret
  exact ⟨rfl, c0⟩

set_option maxRecDepth 100000 in
theorem lifted (os : Os) (started : os.Started) (H : Type) (enc : TypeId × Value → H) :
    ReturnsInHanded {} Try.checked os 3 .any (Rows.fnExactDiagramCountSpec.pre6 enc Try.prog Try.f3 Rows.fnExactDiagramCountRow.domain false) (Rows.fnExactDiagramCountSpec.post enc Try.prog Try.f3 false true false false) := by
  refine returnsInHanded_of_change (C := Try.checked) own started (by kernel_rfl) Try.func3
    (ChangeSpec.witness6 (enc := enc) (C := Try.checked) false ⟨#[], #[.slice none 0 0], []⟩ 8 (by kernel_rfl) (by kernel_rfl) (by kernel_rfl) (by kernel_rfl)) ?_
  intro W base args ds gs before hval0 hW hcnd _
  have hval : ∀ (j : Nat) t v, Try.f3.params[j]? = some t → args[j]? = some v → Value.okWide Try.prog W .any base t v := hval0
  have hW' := hW
  obtain ⟨p, q, hA0, hV, rfl, hfz, hnd⟩ := hW
  have hA : DataW.TrodAll enc Try.prog W 0 (fun _ => true) true Try.f3.params.toList args.toList ds p := hA0
  rw [Try.params3] at hA hval
  obtain ⟨v0, vs0, d0, ds0, p0, q0, hargs, rfl, rfl, h0, r0⟩ := trodAll_cons hA
  obtain ⟨rfl, rfl, rfl⟩ := trodAll_nil r0
  obtain rfl : args = #[v0] := by cases args; simp_all
  obtain ⟨rfl, rfl⟩ := trodVars_none hV
  have k0 := h0
  have l0 : ∀ x ∈ p0, x.block < W.heap.size := fun x hx => hW'.lt x (by simp [hx])
  obtain ⟨A0, n0, c0, xs0, rfl, g0⟩ := open_int3 Try.underlying22 Try.underlying33 Try.underlying28 Try.underlying3 (by kernel_rfl) (by kernel_rfl) (by kernel_rfl) (hval 0 22 v0 rfl rfl) k0
  clear hA0 hval0
  refine (walk A0 n0 c0 xs0 g0).mono fun e W' ⟨he, hb⟩ => ?_
  subst he
  exact ⟨_, rfl, _, _, _, [], _, [], hW', trodAll_cons_mk (p := []) (shut_bool Try.underlying4 _) trodAll_mk0, (trodAll_cons_mk (Below.trod laid (by kernel_rfl) (of_decide_eq_true (by kernel_rfl)) h0 hb l0) trodAll_mk0), rfl, hb.frame _, fun h => by cases h⟩

theorem over : Rows.fnExactDiagramCountRow.holds Try.pinned (OpenSpec.ofChange Rows.fnExactDiagramCountSpec) :=
  OpenClaim.holds_of_wide 3 Try.f3 rfl rfl rfl rfl rfl rfl rfl ⟨rfl, rfl, rfl, rfl, rfl⟩ rfl rfl rfl rfl rfl (by kernel_rfl) Try.func3 (by kernel_rfl)
    (of_decide_eq_true (by kernel_rfl)) (by unfold Func.isWrapper; first | (rw [if_pos (by decide +kernel)]; kernel_rfl) | (rw [if_neg (by decide +kernel)]; exact ⟨rfl, rfl⟩))
    (fun os started H enc _ => lifted os started H enc)

/-- The statement. -/
theorem proved : Rows.FnExactDiagramCountSaid :=
  over
#print axioms proved
end Go.Proofs.Ytamhmomonfcffaa.fnExactDiagramCount
