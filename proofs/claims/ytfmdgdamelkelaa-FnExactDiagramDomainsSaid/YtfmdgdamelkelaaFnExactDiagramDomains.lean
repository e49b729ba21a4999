/- FnExactDiagramDomains: for every input the law returns true and its arguments read as before; no further condition. -/
import Derived.Test.YtfmdgdamelkelaaRows
import Derived.WalkKit
import Derived.ProofKit
import Derived.OpenShut
import Derived.Carry
import Derived.StillTailTactics
import Derived.Test.YtfmdgdamelkelaaDdoI
import Derived.Test.YtfmdgdamelkelaaMark3
namespace Go.Proofs.Ytfmdgdamelkelaa.fnExactDiagramDomains
open Go.ChangeShapes Go.WideShapes Go.ChangeAt Go.RowKit
open Go.Shelf
set_option linter.unusedVariables false
set_option maxRecDepth 100000

theorem own : ownKnob Try.prog.godebug = none := by kernel_rfl
theorem laid : laidOutB Try.prog = true := by kernel_rfl

set_option maxHeartbeats 8000000 in
theorem walk {W : World} (A0 : Option Addr) (n0 c0 : Nat) (xs0 : List (List (List Int))) (g0 : SlA (RowA (RowA IntC)) W W.heap.size A0 n0 xs0) :
    Calls Try.prog 8 #[.slice A0 n0 c0] W fun e w' => e = .returned (.bool true) ∧ Below W.heap.size W w' := by
  have b0 := g0.le
  have l0 := Lib.hid g0.len
  go_enter Try.func8, Try.ntmps8
  go_wp2_with fail
  refine (szIntSSS _ _ _ _ _ _ g0 (by omega) (by omega)).mono ?_
  rintro e W1 ⟨r1, rfl, hr, hB1⟩
  have c0 := hB1
  clear hB1
  rcases hr with rfl | ⟨hr0, hr1, hs0⟩
  · go_wp2_with fail
    go_ret
    exact ⟨rfl, c0⟩
  go_wp2_with fail
  refine (toIntSSS _ _ _ _ _ (LayA.on g0 c0) (by rw [← l0.out]; exact hs0.1) hs0.2).mono ?_
  rintro e W2 ⟨v, rfl, os0, hB2⟩
  obtain ⟨Bs0, ds0, rfl, rs0⟩ := read3 os0
  clear os0
  replace c0 := bgo c0 hB2
  clear hB2
  go_wp2_with fail
  refine (sDiagramDomains _ _ _ _ _ rs0).mono ?_
  rintro e W3 ⟨v, rfl, ow, hB3⟩
  replace ow := HoldR.of_own ow
  have qw := ow
  obtain ⟨Bw, dw, rfl, rw⟩ := IntR.of_hold qw (by have := ddF_len4 xs0; omega)
  clear qw
  replace c0 := bgo c0 hB3
  have c2 := hB3
  clear hB3
  go_wp2_with fail
  clear c2
  have z0_3 := c0.size
  refine (toIntSSS _ _ _ _ _ (LayA.on g0 c0) (by rw [← l0.out]; exact hs0.1) hs0.2).mono ?_
  rintro e W4 ⟨v, rfl, oi0, hB4⟩
  obtain ⟨Bi0, di0, rfl, ri0⟩ := read3 oi0
  have hm0 := Lib.hid (HLays.of_own oi0 hs0.2)
  have zq0 := hB4.size
  clear oi0
  replace c0 := bgo c0 hB4
  have c3 := hB4
  clear hB4
  go_wp2_with fail
  have z0_4 := c0.size
  have z3_4 := c3.size
  refine (iDiagramDomains _ _ _ _ _ ri0).mono ?_
  rintro e W5 ⟨v, rfl, og, hB5⟩
  have qg := og
  obtain ⟨Bg, dg, rfl, rg⟩ := IntR.of_hold qg (by have := ddF_len4 xs0; omega)
  clear qg
  replace c0 := bgo c0 hB5
  replace c3 := bgo c3 hB5
  have c4 := hB5
  clear hB5
  go_wp2_with fail
  refine (eqIntS _ _ _ _ _ _ _ _ _ rg (IntR.on rw c3)).mono ?_
  rintro e W6 ⟨rfl, hB6⟩
  replace c0 := bgo c0 hB6
  replace c3 := bgo c3 hB6
  replace c4 := bgo c4 hB6
  have c5 := hB6
  clear hB6
  go_wp2_with fail
  refine (toIntSSS _ _ _ _ _ (LayA.on g0 c0) (by rw [← l0.out]; exact hs0.1) hs0.2).mono ?_
  rintro e W7 ⟨v, rfl, oe0, hB7⟩
  obtain ⟨Be0, de0, rfl, re0⟩ := read3 oe0
  clear oe0
  replace c0 := bgo c0 hB7
  replace c3 := bgo c3 hB7
  replace c4 := bgo c4 hB7
  replace c5 := bgo c5 hB7
  clear hB7
  go_wp2_with fail
  refine (eqIntSSS _ _ _ _ _ _ _ _ _ (LayR.on ri0 c4) re0).mono ?_
  rintro e W8 ⟨rfl, hB8⟩
  replace c0 := bgo c0 hB8
  replace c3 := bgo c3 hB8
  replace c4 := bgo c4 hB8
  replace c5 := bgo c5 hB8
  have c7 := hB8
  clear hB8
  clear c7
  go_wp2_with fail
  have k_hm0 := Lib.hid (hm0.out.keep (Keep.of_below c4))
  have k_og := Lib.hid (HoldR.below og c5)
  have yp0 := c3.size
  refine (markIntSSST _ _ _ W3.heap.size W4.heap.size 1 _ k_hm0.out (by omega) hs0.1 (by omega) (by omega)).mono ?_
  rintro e W9 ⟨kk0, rfl, pa0, pb0, ht, hq⟩
  replace c0 := c0.trans (ht.1.mono z0_3)
  replace c3 := c3.trans ht.1
  clear c4
  clear c5
  replace k_og := Lib.hid (k_og.out.touch ht (by omega))
  have yt0 := ht.1.size
  clear ht hq k_hm0
  have og := k_og.out
  clear k_og
  have hkd : decide (kk0 < 0) = false := decide_eq_false (by omega)
  go_wp2_with fail
  clear hkd
  have qg2 := og
  obtain ⟨Bg2, dg2, eg2, rg2⟩ := IntR.of_hold qg2 (by have := ddF_len4 xs0; omega)
  injection eg2 with eg3 eg4 eg5
  rw [← eg3] at rg2
  clear qg2 eg3 eg4 eg5
  refine (eqIntS _ _ _ _ _ _ _ _ _ rg2 (IntR.on rw c3)).mono ?_
  rintro e W10 ⟨rfl, hB10⟩
  replace c0 := bgo c0 hB10
  replace c3 := bgo c3 hB10
  have c9 := hB10
  clear hB10
  go_wp2_with fail
  have k_cur := (HoldR.below og c9)
  clear c9
  refine (markIntH _ _ _ _ _ _ k_cur (by have := ddF_len4 xs0; omega) (by omega) (by omega)).mono ?_
  rintro e W11 ⟨rfl, om, hB11, -⟩
  have qm := om
  obtain ⟨Bm, dm, em, rm⟩ := IntR.of_hold qm (by have := ddF_len4 xs0; omega)
  injection em with em1 em2 em3
  rw [← em1] at rm
  clear qm om em1 em2 em3 k_cur
  replace c0 := c0.trans (hB11.mono z0_4)
  replace c3 := c3.trans (hB11.mono z3_4)
  clear hB11
  go_wp2_with fail
  refine (heldIntS _ _ _ _ _ rm (by have := ddF_len4 xs0; omega) (by omega) (by omega)).mono ?_
  rintro e W12 ⟨rfl, hB12⟩
  replace c0 := bgo c0 hB12
  replace c3 := bgo c3 hB12
  have c11 := hB12
  clear hB12
  go_wp2_with fail
  refine (toIntSSS _ _ _ _ _ (LayA.on g0 c0) (by rw [← l0.out]; exact hs0.1) hs0.2).mono ?_
  rintro e W13 ⟨v, rfl, oh0, hB13⟩
  obtain ⟨Bh0, dh0, rfl, rh0⟩ := read3 oh0
  clear oh0
  replace c0 := bgo c0 hB13
  replace c3 := bgo c3 hB13
  replace c11 := bgo c11 hB13
  clear hB13
  go_wp2_with fail
  refine (iDiagramDomains _ _ _ _ _ rh0).mono ?_
  rintro e W14 ⟨v, rfl, oh, hB14⟩
  have qh := oh
  obtain ⟨Bh, dh, rfl, rh⟩ := IntR.of_hold qh (by have := ddF_len4 xs0; omega)
  clear qh
  replace c0 := bgo c0 hB14
  replace c3 := bgo c3 hB14
  replace c11 := bgo c11 hB14
  have c13 := hB14
  clear hB14
  go_wp2_with fail
  refine (eqIntS _ _ _ _ _ _ _ _ _ rh (IntR.on rw c3)).mono ?_
  rintro e W15 ⟨rfl, hB15⟩
  replace c0 := bgo c0 hB15
  replace c3 := bgo c3 hB15
  replace c11 := bgo c11 hB15
  replace c13 := bgo c13 hB15
  have c14 := hB15
  clear hB15
  go_wp2_with fail
  refine (heldIntS _ _ _ _ _ (IntR.on rm c11) (by have := ddF_len4 xs0; omega) (by omega) (by omega)).mono ?_
  rintro e W16 ⟨rfl, hB16⟩
  replace c0 := bgo c0 hB16
  replace c3 := bgo c3 hB16
  replace c11 := bgo c11 hB16
  replace c13 := bgo c13 hB16
  replace c14 := bgo c14 hB16
  clear hB16
  go_wp2_with fail
  go_ret
  exact ⟨rfl, c0⟩

set_option maxRecDepth 100000 in
theorem lifted (os : Os) (started : os.Started) (H : Type) (enc : TypeId × Value → H) :
    ReturnsInHanded {} Try.checked os 8 .any (Rows.fnExactDiagramDomainsSpec.pre6 enc Try.prog Try.f8 Rows.fnExactDiagramDomainsRow.domain false) (Rows.fnExactDiagramDomainsSpec.post enc Try.prog Try.f8 false true false false) := by
  refine returnsInHanded_of_change (C := Try.checked) own started (by kernel_rfl) Try.func8
    (ChangeSpec.witness6 (enc := enc) (C := Try.checked) false ⟨#[], #[.slice none 0 0], []⟩ 8 (by kernel_rfl) (by kernel_rfl) (by kernel_rfl) (by kernel_rfl)) ?_
  intro W base args ds gs before hval0 hW hcnd _
  have hval : ∀ (j : Nat) t v, Try.f8.params[j]? = some t → args[j]? = some v → Value.okWide Try.prog W .any base t v := hval0
  have hW' := hW
  obtain ⟨p, q, hA0, hV, rfl, hfz, hnd⟩ := hW
  have hA : DataW.TrodAll enc Try.prog W 0 (fun _ => true) true Try.f8.params.toList args.toList ds p := hA0
  rw [Try.params8] at hA hval
  obtain ⟨v0, vs0, d0, ds0, p0, q0, hargs, rfl, rfl, h0, r0⟩ := trodAll_cons hA
  obtain ⟨rfl, rfl, rfl⟩ := trodAll_nil r0
  obtain rfl : args = #[v0] := by cases args; simp_all
  obtain ⟨rfl, rfl⟩ := trodVars_none hV
  have k0 := h0
  have l0 : ∀ x ∈ p0, x.block < W.heap.size := fun x hx => hW'.lt x (by simp [hx])
  obtain ⟨A0, n0, c0, xs0, rfl, g0⟩ := open_int3 Try.underlying27 Try.underlying23 Try.underlying22 Try.underlying3 (by kernel_rfl) (by kernel_rfl) (by kernel_rfl) (hval 0 27 v0 rfl rfl) k0
  clear hA0 hval0
  refine (walk A0 n0 c0 xs0 g0).mono fun e W' ⟨he, hb⟩ => ?_
  subst he
  exact ⟨_, rfl, _, _, _, [], _, [], hW', trodAll_cons_mk (p := []) (shut_bool Try.underlying4 _) trodAll_mk0, (trodAll_cons_mk (Below.trod laid (by kernel_rfl) (of_decide_eq_true (by kernel_rfl)) h0 hb l0) trodAll_mk0), rfl, hb.frame _, fun h => by cases h⟩

theorem over : Rows.fnExactDiagramDomainsRow.holds Try.pinned (OpenSpec.ofChange Rows.fnExactDiagramDomainsSpec) :=
  OpenClaim.holds_of_wide 8 Try.f8 rfl rfl rfl rfl rfl rfl rfl ⟨rfl, rfl, rfl, rfl, rfl⟩ rfl rfl rfl rfl rfl (by kernel_rfl) Try.func8 (by kernel_rfl)
    (of_decide_eq_true (by kernel_rfl)) (by unfold Func.isWrapper; first | (rw [if_pos (by decide +kernel)]; kernel_rfl) | (rw [if_neg (by decide +kernel)]; exact ⟨rfl, rfl⟩))
    (fun os started H enc _ => lifted os started H enc)

/-- The statement. -/
theorem proved : Rows.FnExactDiagramDomainsSaid :=
  over
#print axioms proved
end Go.Proofs.Ytfmdgdamelkelaa.fnExactDiagramDomains
