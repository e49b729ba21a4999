/- FnExactUnitPropagate: for every input the law returns true and its arguments read as before; no further condition. -/
import Derived.Test.YtldpcocnhpeadaaRows
import Derived.WalkKit
import Derived.ProofKit
import Derived.OpenShut
import Derived.Carry
import Derived.StillTailTactics
import Derived.Test.YtldpcocnhpeadaaUnitI
import Derived.Test.YtldpcocnhpeadaaMarks
namespace Go.Proofs.Ytldpcocnhpeadaa.fnExactUnitPropagate
open Go.ChangeShapes Go.WideShapes Go.ChangeAt Go.RowKit
open Go.Shelf
set_option linter.unusedVariables false
set_option maxRecDepth 100000

theorem own : ownKnob Try.prog.godebug = none := by kernel_rfl
theorem laid : laidOutB Try.prog = true := by kernel_rfl

set_option maxHeartbeats 8000000 in
theorem walk {W : World} (A0 : Option Addr) (n0 c0 : Nat) (xs0 : List Ltl) (g0 : LitA W W.heap.size A0 n0 xs0) (A1 : Option Addr) (n1 c1 : Nat) (xs1 : List Int) (g1 : IntA W W.heap.size A1 n1 xs1) :
    Calls Try.prog 7 #[.slice A0 n0 c0, .slice A1 n1 c1] W fun e w' => e = .returned (.bool true) ∧ Below W.heap.size W w' := by
  have b0 := g0.le
  have l0 := Lib.hid g0.len
  have b1 := g1.le
  have l1 := Lib.hid g1.len
  by_cases t1 : 1048576 < n1
  · go_enter Try.func7, Try.ntmps7
    go_wp2_with fail
    go_ret
    exact ⟨rfl, Below.refl _ _⟩
  go_enter Try.func7, Try.ntmps7
  go_wp2_with fail
  refine (szLiteralS _ _ _ _ _ b0 (by omega) (by omega)).mono ?_
  rintro e W1 ⟨r1, rfl, hr, hB1⟩
  have c0 := hB1
  clear hB1
  rcases hr with rfl | ⟨hr0, hr1, hs0⟩
  · go_wp2_with fail
    go_ret
    exact ⟨rfl, c0⟩
  go_wp2_with fail
  refine (toLiteralS _ _ _ _ _ (LitA.on g0 c0) (by omega)).mono ?_
  rintro e W2 ⟨v, rfl, os0, hB2⟩
  obtain ⟨Bs0, ds0, rfl, rs0⟩ := LitR.of_own l0.out os0 b0
  clear os0
  replace c0 := bgo c0 hB2
  clear hB2
  go_wp2_with fail
  refine (toIntS _ _ _ _ _ (IntA.on g1 c0) (by omega)).mono ?_
  rintro e W3 ⟨v, rfl, os1, hB3⟩
  obtain ⟨Bs1, ds1, rfl, rs1, -⟩ := IntR.of_own os1 b1
  replace c0 := bgo c0 hB3
  have c2 := hB3
  clear hB3
  go_wp2_with fail
  refine (sUnitPropagate _ _ _ _ _ _ _ _ _ _ (LitR.on rs0 c2) os1).mono ?_
  rintro e W4 ⟨v, rfl, ow, hB4⟩
  replace ow := HoldR.of_own ow
  have qw := ow
  obtain ⟨Bw, dw, rfl, rw⟩ := IntR.of_hold qw (by have := upF_len xs0 xs1; omega)
  clear qw
  replace c0 := bgo c0 hB4
  replace c2 := bgo c2 hB4
  have c3 := hB4
  clear hB4
  go_wp2_with fail
  clear c2
  clear c3
  have z0_4 := c0.size
  refine (toLiteralS _ _ _ _ _ (LitA.on g0 c0) (by omega)).mono ?_
  rintro e W5 ⟨v, rfl, oi0, hB5⟩
  obtain ⟨Bi0, di0, rfl, ri0⟩ := LitR.of_own l0.out oi0 b0
  replace oi0 := HoldR.of_own oi0
  replace c0 := bgo c0 hB5
  have c4 := hB5
  clear hB5
  go_wp2_with fail
  have bl0 := HoldR.blk oi0
  have BL0 := Lib.hid bl0
  clear bl0
  have z0_5 := c0.size
  have z4_5 := c4.size
  have Y0_5 := Lib.hid (fun x (hx : (Value.slice Bi0 n0 di0).ownBlock = some x) => Nat.lt_of_lt_of_le (BL0.out x hx).2 (Nat.le_refl _))
  refine (toIntS _ _ _ _ _ (IntA.on g1 c0) (by omega)).mono ?_
  rintro e W6 ⟨v, rfl, oi1, hB6⟩
  obtain ⟨Bi1, di1, rfl, ri1, -⟩ := IntR.of_own oi1 b1
  replace oi1 := HoldR.of_own oi1
  replace c0 := bgo c0 hB6
  replace c4 := bgo c4 hB6
  have c5 := hB6
  clear hB6
  go_wp2_with fail
  have bl1 := HoldR.blk oi1
  have BL1 := Lib.hid bl1
  clear bl1
  have z0_6 := c0.size
  have z4_6 := c4.size
  have z5_6 := c5.size
  have Y0_6 := Lib.hid (fun x (hx : (Value.slice Bi0 n0 di0).ownBlock = some x) => Nat.lt_of_lt_of_le (BL0.out x hx).2 (c5.size))
  have Y1_6 := Lib.hid (fun x (hx : (Value.slice Bi1 n1 di1).ownBlock = some x) => Nat.lt_of_lt_of_le (BL1.out x hx).2 (Nat.le_refl _))
  refine (iUnitPropagate _ _ _ _ _ _ _ _ _ _ (LitR.on ri0 c5) oi1 b1).mono ?_
  rintro e W7 ⟨v, rfl, og, hB7⟩
  have qg := og
  obtain ⟨Bg, dg, rfl, rg⟩ := IntR.of_hold qg (by have := upF_len xs0 xs1; omega)
  clear qg
  replace c0 := bgo c0 hB7
  replace c4 := bgo c4 hB7
  replace c5 := bgo c5 hB7
  have c6 := hB7
  clear hB7
  go_wp2_with fail
  refine (eqIntS _ _ _ _ _ _ _ _ _ rg (IntR.on rw c4)).mono ?_
  rintro e W8 ⟨rfl, hB8⟩
  replace c0 := bgo c0 hB8
  replace c4 := bgo c4 hB8
  replace c5 := bgo c5 hB8
  replace c6 := bgo c6 hB8
  have c7 := hB8
  clear hB8
  go_wp2_with fail
  refine (toLiteralS _ _ _ _ _ (LitA.on g0 c0) (by omega)).mono ?_
  rintro e W9 ⟨v, rfl, oe0, hB9⟩
  obtain ⟨Be0, de0, rfl, re0⟩ := LitR.of_own l0.out oe0 b0
  clear oe0
  replace c0 := bgo c0 hB9
  replace c4 := bgo c4 hB9
  replace c5 := bgo c5 hB9
  replace c6 := bgo c6 hB9
  replace c7 := bgo c7 hB9
  clear hB9
  go_wp2_with fail
  refine (eqLiteralS _ _ _ _ _ _ _ _ _ (LitR.on ri0 c5) re0).mono ?_
  rintro e W10 ⟨rfl, hB10⟩
  replace c0 := bgo c0 hB10
  replace c4 := bgo c4 hB10
  replace c5 := bgo c5 hB10
  replace c6 := bgo c6 hB10
  replace c7 := bgo c7 hB10
  have c9 := hB10
  clear hB10
  go_wp2_with fail
  clear c9
  refine (toIntS _ _ _ _ _ (IntA.on g1 c0) (by omega)).mono ?_
  rintro e W11 ⟨v, rfl, oe1, hB11⟩
  obtain ⟨Be1, de1, rfl, re1, -⟩ := IntR.of_own oe1 b1
  clear oe1
  replace c0 := bgo c0 hB11
  replace c4 := bgo c4 hB11
  replace c5 := bgo c5 hB11
  replace c6 := bgo c6 hB11
  replace c7 := bgo c7 hB11
  clear hB11
  go_wp2_with fail
  refine (eqIntS _ _ _ _ _ _ _ _ _ (IntR.on ri1 c6) re1).mono ?_
  rintro e W12 ⟨rfl, hB12⟩
  replace c0 := bgo c0 hB12
  replace c4 := bgo c4 hB12
  replace c5 := bgo c5 hB12
  replace c6 := bgo c6 hB12
  replace c7 := bgo c7 hB12
  have c11 := hB12
  clear hB12
  go_wp2_with fail
  clear c11
  have k_og := (HoldR.below og c7)
  have k_oi1 := (HoldR.below oi1 c6)
  have k_cur := (HoldR.below oi0 c5)
  clear c5
  clear c6
  clear c7
  refine (markLitH _ _ _ _ _ _ k_cur l0.out (by omega) (by omega) (by omega)).mono ?_
  rintro e W13 ⟨rfl, -, hB13, hgr⟩
  replace k_og := k_og.far hgr (fun x hx => Y0_6.out x hx)
  clear og
  have og := k_og
  clear k_og
  replace k_oi1 := k_oi1.far hgr (fun x hx => Y0_5.out x hx)
  clear oi1
  have oi1 := k_oi1
  clear k_oi1
  clear hgr k_cur
  replace c0 := c0.trans (hB13.mono z0_4)
  replace c4 := c4.trans hB13
  clear hB13
  go_wp2_with fail
  have k_og := og
  have k_cur := oi1
  refine (markIntH _ _ _ _ _ _ k_cur (by omega) (by omega) (by omega)).mono ?_
  rintro e W14 ⟨rfl, -, hB14, hgr⟩
  replace k_og := k_og.far hgr (fun x hx => Y1_6.out x hx)
  clear og
  have og := k_og
  clear k_og
  clear hgr k_cur
  replace c0 := c0.trans (hB14.mono z0_5)
  replace c4 := c4.trans (hB14.mono z4_5)
  clear hB14
  go_wp2_with fail
  have qg2 := og
  obtain ⟨Bg2, dg2, eg2, rg2⟩ := IntR.of_hold qg2 (by have := upF_len xs0 xs1; omega)
  injection eg2 with eg3 eg4 eg5
  rw [← eg3] at rg2
  clear qg2 eg3 eg4 eg5
  refine (eqIntS _ _ _ _ _ _ _ _ _ rg2 (IntR.on rw c4)).mono ?_
  rintro e W15 ⟨rfl, hB15⟩
  replace c0 := bgo c0 hB15
  replace c4 := bgo c4 hB15
  have c14 := hB15
  clear hB15
  go_wp2_with fail
  have k_cur := (HoldR.below og c14)
  clear c14
  refine (markIntH _ _ _ _ _ _ k_cur (by have := upF_len xs0 xs1; omega) (by omega) (by omega)).mono ?_
  rintro e W16 ⟨rfl, om, hB16, -⟩
  have qm := om
  obtain ⟨Bm, dm, em, rm⟩ := IntR.of_hold qm (by have := upF_len xs0 xs1; omega)
  injection em with em1 em2 em3
  rw [← em1] at rm
  clear qm om em1 em2 em3 k_cur
  replace c0 := c0.trans (hB16.mono z0_6)
  replace c4 := c4.trans (hB16.mono z4_6)
  clear hB16
  go_wp2_with fail
  refine (heldIntS _ _ _ _ _ rm (by have := upF_len xs0 xs1; omega) (by omega) (by omega)).mono ?_
  rintro e W17 ⟨rfl, hB17⟩
  replace c0 := bgo c0 hB17
  replace c4 := bgo c4 hB17
  have c16 := hB17
  clear hB17
  go_wp2_with fail
  refine (toLiteralS _ _ _ _ _ (LitA.on g0 c0) (by omega)).mono ?_
  rintro e W18 ⟨v, rfl, oh0, hB18⟩
  obtain ⟨Bh0, dh0, rfl, rh0⟩ := LitR.of_own l0.out oh0 b0
  clear oh0
  replace c0 := bgo c0 hB18
  replace c4 := bgo c4 hB18
  replace c16 := bgo c16 hB18
  clear hB18
  go_wp2_with fail
  refine (toIntS _ _ _ _ _ (IntA.on g1 c0) (by omega)).mono ?_
  rintro e W19 ⟨v, rfl, oh1, hB19⟩
  obtain ⟨Bh1, dh1, rfl, rh1, -⟩ := IntR.of_own oh1 b1
  replace oh1 := HoldR.of_own oh1
  replace c0 := bgo c0 hB19
  replace c4 := bgo c4 hB19
  replace c16 := bgo c16 hB19
  have c18 := hB19
  clear hB19
  go_wp2_with fail
  refine (iUnitPropagate _ _ _ _ _ _ _ _ _ _ (LitR.on rh0 c18) oh1 b1).mono ?_
  rintro e W20 ⟨v, rfl, oh, hB20⟩
  have qh := oh
  obtain ⟨Bh, dh, rfl, rh⟩ := IntR.of_hold qh (by have := upF_len xs0 xs1; omega)
  clear qh
  replace c0 := bgo c0 hB20
  replace c4 := bgo c4 hB20
  replace c16 := bgo c16 hB20
  replace c18 := bgo c18 hB20
  have c19 := hB20
  clear hB20
  go_wp2_with fail
  refine (eqIntS _ _ _ _ _ _ _ _ _ rh (IntR.on rw c4)).mono ?_
  rintro e W21 ⟨rfl, hB21⟩
  replace c0 := bgo c0 hB21
  replace c4 := bgo c4 hB21
  replace c16 := bgo c16 hB21
  replace c18 := bgo c18 hB21
  replace c19 := bgo c19 hB21
  have c20 := hB21
  clear hB21
  go_wp2_with fail
  refine (heldIntS _ _ _ _ _ (IntR.on rm c16) (by have := upF_len xs0 xs1; omega) (by omega) (by omega)).mono ?_
  rintro e W22 ⟨rfl, hB22⟩
  replace c0 := bgo c0 hB22
  replace c4 := bgo c4 hB22
  replace c16 := bgo c16 hB22
  replace c18 := bgo c18 hB22
  replace c19 := bgo c19 hB22
  replace c20 := bgo c20 hB22
  clear hB22
  go_wp2_with fail
  go_ret
  exact ⟨rfl, c0⟩

set_option maxRecDepth 100000 in
theorem lifted (os : Os) (started : os.Started) (H : Type) (enc : TypeId × Value → H) :
    ReturnsInHanded {} Try.checked os 7 .any (Rows.fnExactUnitPropagateSpec.pre6 enc Try.prog Try.f7 Rows.fnExactUnitPropagateRow.domain false) (Rows.fnExactUnitPropagateSpec.post enc Try.prog Try.f7 false true false false) := by
  refine returnsInHanded_of_change (C := Try.checked) own started (by kernel_rfl) Try.func7
    (ChangeSpec.witness6 (enc := enc) (C := Try.checked) false ⟨#[], #[.slice none 0 0, .slice none 0 0], []⟩ 8 (by kernel_rfl) (by kernel_rfl) (by kernel_rfl) (by kernel_rfl)) ?_
  intro W base args ds gs before hval0 hW hcnd _
  have hval : ∀ (j : Nat) t v, Try.f7.params[j]? = some t → args[j]? = some v → Value.okWide Try.prog W .any base t v := hval0
  have hW' := hW
  obtain ⟨p, q, hA0, hV, rfl, hfz, hnd⟩ := hW
  have hA : DataW.TrodAll enc Try.prog W 0 (fun _ => true) true Try.f7.params.toList args.toList ds p := hA0
  rw [Try.params7] at hA hval
  obtain ⟨v0, vs0, d0, ds0, p0, q0, hargs, rfl, rfl, h0, r0⟩ := trodAll_cons hA
  obtain ⟨v1, vs1, d1, ds1, p1, q1, rfl, rfl, rfl, h1, r1⟩ := trodAll_cons r0
  obtain ⟨rfl, rfl, rfl⟩ := trodAll_nil r1
  obtain rfl : args = #[v0, v1] := by cases args; simp_all
  obtain ⟨rfl, rfl⟩ := trodVars_none hV
  have k0 := h0
  have l0 : ∀ x ∈ p0, x.block < W.heap.size := fun x hx => hW'.lt x (by simp [hx])
  have k1 := h1
  have l1 : ∀ x ∈ p1, x.block < W.heap.size := fun x hx => hW'.lt x (by simp [hx])
  obtain ⟨A0, n0, c0, xs0, rfl, g0⟩ := open_litS (hval 0 29 v0 rfl rfl) k0
  obtain ⟨A1, n1, c1, xs1, rfl, g1⟩ := open_intS Try.underlying23 Try.underlying3 (by kernel_rfl) (hval 1 23 v1 rfl rfl) k1
  clear hA0 hval0
  refine (walk A0 n0 c0 xs0 g0 A1 n1 c1 xs1 g1).mono fun e W' ⟨he, hb⟩ => ?_
  subst he
  exact ⟨_, rfl, _, _, _, [], _, [], hW', trodAll_cons_mk (p := []) (shut_bool Try.underlying4 _) trodAll_mk0, (trodAll_cons_mk (Below.trod laid (by kernel_rfl) (of_decide_eq_true (by kernel_rfl)) h0 hb l0) (trodAll_cons_mk (Below.trod laid (by kernel_rfl) (of_decide_eq_true (by kernel_rfl)) h1 hb l1) trodAll_mk0)), rfl, hb.frame _, fun h => by cases h⟩

theorem over : Rows.fnExactUnitPropagateRow.holds Try.pinned (OpenSpec.ofChange Rows.fnExactUnitPropagateSpec) :=
  OpenClaim.holds_of_wide 7 Try.f7 rfl rfl rfl rfl rfl rfl rfl ⟨rfl, rfl, rfl, rfl, rfl⟩ rfl rfl rfl rfl rfl (by kernel_rfl) Try.func7 (by kernel_rfl)
    (of_decide_eq_true (by kernel_rfl)) (by unfold Func.isWrapper; first | (rw [if_pos (by decide +kernel)]; kernel_rfl) | (rw [if_neg (by decide +kernel)]; exact ⟨rfl, rfl⟩))
    (fun os started H enc _ => lifted os started H enc)

/-- The statement. -/
theorem proved : Rows.FnExactUnitPropagateSaid :=
  over
#print axioms proved
end Go.Proofs.Ytldpcocnhpeadaa.fnExactUnitPropagate
