/- FnExactResolve: for every input the law returns true and its arguments read as before; no further condition. -/
import Derived.Test.YtjkgndedffildaaRows
import Derived.WalkKit
import Derived.ProofKit
import Derived.OpenShut
import Derived.Carry
import Derived.StillTailTactics
import Derived.Test.YtjkgndedffildaaResI
import Derived.Test.YtjkgndedffildaaMarks
namespace Go.Proofs.Ytjkgndedffildaa.fnExactResolve
open Go.ChangeShapes Go.WideShapes Go.ChangeAt Go.RowKit
open Go.Shelf
set_option linter.unusedVariables false
set_option maxRecDepth 100000

theorem own : ownKnob Try.prog.godebug = none := by kernel_rfl
theorem laid : laidOutB Try.prog = true := by kernel_rfl

set_option maxHeartbeats 8000000 in
theorem walk {W : World} (a0 : Int) (w0 : (Lit.int .i64 a0).wf = true) (A1 : Option Addr) (n1 c1 : Nat) (xs1 : List Ltl) (g1 : LitA W W.heap.size A1 n1 xs1) (A2 : Option Addr) (n2 c2 : Nat) (xs2 : List Ltl) (g2 : LitA W W.heap.size A2 n2 xs2) (us3 : List Value) (a3 : Ltl) (g3 : LitC W W.heap.size us3 a3) :
    Calls Try.prog 3 #[.int .i64 a0, .slice A1 n1 c1, .slice A2 n2 c2, .agg us3.toArray] W fun e w' => e = .returned (.bool true) ∧ Below W.heap.size W w' := by
  have b1 := g1.le
  have l1 := Lib.hid g1.len
  have b2 := g2.le
  have l2 := Lib.hid g2.len
  rw [show us3.toArray = #[.int .i64 a3.var, .int .i64 a3.val, .bool a3.neg] from by rw [show us3 = _ from g3]]
  clear g3
  obtain ⟨W1, hW1⟩ : ∃ W1, W1 = W.alloc (.cells #[.int .i64 a3.var, .int .i64 a3.val, .bool a3.neg] 24) := ⟨_, rfl⟩
  have hB1 : Below W.heap.size W W1 := by rw [hW1]; exact b_alloc _ _
  have zz1 : W1.heap.size = W.heap.size + 1 := by rw [hW1, size_alloc_]
  have hx1 : TBlk 24 W1 W.heap.size #[.int .i64 a3.var, .int .i64 a3.val, .bool a3.neg] := by rw [hW1]; exact TBlk.new _ _ _
  have HX_a3 := Lib.hid hx1
  clear hx1
  have c0 := hB1
  clear hB1
  have hy_a3 := HX_a3.out
  have pa3_0 : W1.cell? ⟨W.heap.size, 0, none⟩ = some (.int .i64 a3.var) := hy_a3.at_ 0 rfl
  have pa3_1 : W1.cell? ⟨W.heap.size, 1, none⟩ = some (.int .i64 a3.val) := hy_a3.at_ 1 rfl
  have pa3_2 : W1.cell? ⟨W.heap.size, 2, none⟩ = some (.bool a3.neg) := hy_a3.at_ 2 rfl
  clear hy_a3
  go_enter Try.func3, Try.ntmps3
  go_wp2_with fail
  rw [← hW1]
  clear hW1
  clear pa3_0 pa3_1 pa3_2
  refine (szLiteralS _ _ _ _ _ b1 (by omega) (by omega)).mono ?_
  rintro e W2 ⟨r2, rfl, hr, hB2⟩
  replace c0 := bgo c0 hB2
  have c1 := hB2
  clear hB2
  rcases hr with rfl | ⟨hr0, hr1, hs1⟩
  · go_wp2_with fail
    go_ret
    exact ⟨rfl, c0⟩
  go_wp2_with fail
  refine (szLiteralS _ _ _ _ _ b2 (by omega) (by omega)).mono ?_
  rintro e W3 ⟨r3, rfl, hr, hB3⟩
  replace c0 := bgo c0 hB3
  replace c1 := bgo c1 hB3
  have c2 := hB3
  clear hB3
  rcases hr with rfl | ⟨hr0, hr1, hs2⟩
  · go_wp2_with fail
    go_ret
    exact ⟨rfl, c0⟩
  go_wp2_with fail
  have hrb : (rsB a0 xs1 xs2 a3 == rsB a0 xs1 xs2 a3) = true := by simp
  have hbd : Below W3.heap.size W3 W3.drew := below_drewN (Below.refl _ _) 1
  have HS : Hid (∀ w', Below W3.heap.size W3 w' → w'.cell? ⟨W.heap.size, 0, none⟩ = some (.int .i64 a3.var) ∧ w'.cell? ⟨W.heap.size, 1, none⟩ = some (.int .i64 a3.val) ∧ w'.cell? ⟨W.heap.size, 2, none⟩ = some (.bool a3.neg)) := Lib.hid fun w' hb => by
    have hbz := c1.size
    have k1 := HX_a3.out.below_ (c1.trans (hb.mono hbz)) (by omega)
    exact ⟨k1.at_ 0 rfl, k1.at_ 1 rfl, k1.at_ 2 rfl⟩
  have hS0 := HS.out _ hbd
  have hA0 := bgo c0 hbd
  go_region_held3 (fun w' => w'.cell? ⟨W.heap.size, 0, none⟩ = some (.int .i64 a3.var) ∧ w'.cell? ⟨W.heap.size, 1, none⟩ = some (.int .i64 a3.val) ∧ w'.cell? ⟨W.heap.size, 2, none⟩ = some (.bool a3.neg))
    (first | with_reducible exact hS0 | with_reducible exact HS.out _ hb3 | with_reducible exact HS.out _ hb2 | with_reducible exact HS.out _ hb1 | with_reducible exact HS.out _ hb0)
    (first
      | (go_at_call 6
         refine (sResolve _ _ _ _ _ _ _ _ _ _ _ (LitR.on rs1 (bgo hBq1 hBq2)) (LitR.on rs2 hBq2)).mono ?_
         rintro e W4 ⟨v, rfl, ow, hBq3⟩
         replace ow := HoldR.of_own ow
         have qw := ow
         obtain ⟨Bw, dw, rfl, rw⟩ := LitR.of_hold rfl qw (by have := rsF_len a0 xs1 xs2 a3; omega)
         clear qw
         have hb3 := bgo hb2 hBq3)
      | (go_at_call 8
         refine (toLiteral _ _).mono ?_
         rintro e Wx2 ⟨rfl, hBq2⟩
         have hb2 := bgo hb1 hBq2
         have hA3 := bgo hA2 hBq2)
      | (go_at_call 7
         have hq := hb0
         clear hq
         refine (toLiteralS _ _ _ _ _ (LitA.on g2 hA1) (by omega)).mono ?_
         rintro e Wx1 ⟨v, rfl, os2, hBq1⟩
         obtain ⟨Bs2, ds2, rfl, rs2⟩ := LitR.of_own l2.out os2 b2
         have hb1 := bgo hb0 hBq1
         have hA2 := bgo hA1 hBq1)
      | (go_at_call 7
         refine (toLiteralS _ _ _ _ _ (LitA.on g1 hA0) (by omega)).mono ?_
         rintro e Wx0 ⟨v, rfl, os1, hBq0⟩
         obtain ⟨Bs1, ds1, rfl, rs1⟩ := LitR.of_own l1.out os1 b1
         have hb0 := bgo hbd hBq0
         have hA1 := bgo hA0 hBq0))
  have hb9 := hb3
  replace c0 := bgo c0 hb9
  replace c1 := bgo c1 hb9
  replace c2 := bgo c2 hb9
  clear hb9 hS0 HS hbd hb0 hb1 hb2 hb3 hA0 hA1 hA2 hA3 hBq0 hBq1 hBq2 hBq3
  clear rs1
  clear rs2
  clear c2
  go_wp2_with fail
  have z0_4 := c0.size
  have z1_4 := c1.size
  refine (toLiteralS _ _ _ _ _ (LitA.on g1 c0) (by omega)).mono ?_
  rintro e W5 ⟨v, rfl, oi1, hB5⟩
  obtain ⟨Bi1, di1, rfl, ri1⟩ := LitR.of_own l1.out oi1 b1
  replace oi1 := HoldR.of_own oi1
  replace c0 := bgo c0 hB5
  replace c1 := bgo c1 hB5
  have c4 := hB5
  clear hB5
  go_wp2_with fail
  have bl1 := HoldR.blk oi1
  have BL1 := Lib.hid bl1
  clear bl1
  have z0_5 := c0.size
  have z1_5 := c1.size
  have z4_5 := c4.size
  have Y1_5 := Lib.hid (fun x (hx : (Value.slice Bi1 n1 di1).ownBlock = some x) => Nat.lt_of_lt_of_le (BL1.out x hx).2 (Nat.le_refl _))
  refine (toLiteralS _ _ _ _ _ (LitA.on g2 c0) (by omega)).mono ?_
  rintro e W6 ⟨v, rfl, oi2, hB6⟩
  obtain ⟨Bi2, di2, rfl, ri2⟩ := LitR.of_own l2.out oi2 b2
  replace oi2 := HoldR.of_own oi2
  replace c0 := bgo c0 hB6
  replace c1 := bgo c1 hB6
  replace c4 := bgo c4 hB6
  have c5 := hB6
  clear hB6
  have hy_a3 := HX_a3.out.below_ c1 (by omega)
  have pa3_0 : W6.cell? ⟨W.heap.size, 0, none⟩ = some (.int .i64 a3.var) := hy_a3.at_ 0 rfl
  have pa3_1 : W6.cell? ⟨W.heap.size, 1, none⟩ = some (.int .i64 a3.val) := hy_a3.at_ 1 rfl
  have pa3_2 : W6.cell? ⟨W.heap.size, 2, none⟩ = some (.bool a3.neg) := hy_a3.at_ 2 rfl
  clear hy_a3
  go_wp2_with fail
  clear pa3_0 pa3_1 pa3_2
  have bl2 := HoldR.blk oi2
  have BL2 := Lib.hid bl2
  clear bl2
  refine (toLiteral _ _).mono ?_
  rintro e W7 ⟨rfl, hB7⟩
  replace c0 := bgo c0 hB7
  replace c1 := bgo c1 hB7
  replace c4 := bgo c4 hB7
  replace c5 := bgo c5 hB7
  have c6 := hB7
  clear hB7
  go_wp2_with fail
  have z0_7 := c0.size
  have z1_7 := c1.size
  have z4_7 := c4.size
  have z5_7 := c5.size
  have z6_7 := c6.size
  have Y1_7 := Lib.hid (fun x (hx : (Value.slice Bi1 n1 di1).ownBlock = some x) => Nat.lt_of_lt_of_le (BL1.out x hx).2 (c5.size))
  have Y2_7 := Lib.hid (fun x (hx : (Value.slice Bi2 n2 di2).ownBlock = some x) => Nat.lt_of_lt_of_le (BL2.out x hx).2 (c6.size))
  refine (iResolve _ _ _ _ _ _ _ _ _ _ _ (HoldR.below oi1 c5) l1.out (HoldR.below oi2 c6) l2.out b1 b2).mono ?_
  rintro e W8 ⟨v, rfl, og, hB8⟩
  have qg := og
  obtain ⟨Bg, dg, rfl, rg⟩ := LitR.of_hold rfl qg (by have := rsF_len a0 xs1 xs2 a3; omega)
  clear qg
  replace c0 := bgo c0 hB8
  replace c1 := bgo c1 hB8
  replace c4 := bgo c4 hB8
  replace c5 := bgo c5 hB8
  replace c6 := bgo c6 hB8
  clear hB8
  go_wp2_with fail
  refine (eqLiteralS _ _ _ _ _ _ _ _ _ rg (LitR.on rw c4)).mono ?_
  rintro e W9 ⟨rfl, hB9⟩
  replace c0 := bgo c0 hB9
  replace c1 := bgo c1 hB9
  replace c4 := bgo c4 hB9
  replace c5 := bgo c5 hB9
  replace c6 := bgo c6 hB9
  have c8 := hB9
  clear hB9
  go_wp2_with fail
  refine (toLiteralS _ _ _ _ _ (LitA.on g1 c0) (by omega)).mono ?_
  rintro e W10 ⟨v, rfl, oe1, hB10⟩
  obtain ⟨Be1, de1, rfl, re1⟩ := LitR.of_own l1.out oe1 b1
  clear oe1
  replace c0 := bgo c0 hB10
  replace c1 := bgo c1 hB10
  replace c4 := bgo c4 hB10
  replace c5 := bgo c5 hB10
  replace c6 := bgo c6 hB10
  replace c8 := bgo c8 hB10
  clear hB10
  go_wp2_with fail
  refine (eqLiteralS _ _ _ _ _ _ _ _ _ (LitR.on ri1 c5) re1).mono ?_
  rintro e W11 ⟨rfl, hB11⟩
  replace c0 := bgo c0 hB11
  replace c1 := bgo c1 hB11
  replace c4 := bgo c4 hB11
  replace c5 := bgo c5 hB11
  replace c6 := bgo c6 hB11
  replace c8 := bgo c8 hB11
  have c10 := hB11
  clear hB11
  go_wp2_with fail
  clear c10
  refine (toLiteralS _ _ _ _ _ (LitA.on g2 c0) (by omega)).mono ?_
  rintro e W12 ⟨v, rfl, oe2, hB12⟩
  obtain ⟨Be2, de2, rfl, re2⟩ := LitR.of_own l2.out oe2 b2
  clear oe2
  replace c0 := bgo c0 hB12
  replace c1 := bgo c1 hB12
  replace c4 := bgo c4 hB12
  replace c5 := bgo c5 hB12
  replace c6 := bgo c6 hB12
  replace c8 := bgo c8 hB12
  clear hB12
  go_wp2_with fail
  refine (eqLiteralS _ _ _ _ _ _ _ _ _ (LitR.on ri2 c6) re2).mono ?_
  rintro e W13 ⟨rfl, hB13⟩
  replace c0 := bgo c0 hB13
  replace c1 := bgo c1 hB13
  replace c4 := bgo c4 hB13
  replace c5 := bgo c5 hB13
  replace c6 := bgo c6 hB13
  replace c8 := bgo c8 hB13
  have c12 := hB13
  clear hB13
  go_wp2_with fail
  clear c12
  have k_og := (HoldR.below og c8)
  have k_oi2 := (HoldR.below oi2 c6)
  have k_cur := (HoldR.below oi1 c5)
  clear c5
  clear c6
  clear c8
  refine (markLitH _ _ _ _ _ _ k_cur l1.out (by omega) (by omega) (by omega)).mono ?_
  rintro e W14 ⟨rfl, -, hB14, hgr⟩
  replace k_og := k_og.far hgr (fun x hx => Y1_7.out x hx)
  clear og
  have og := k_og
  clear k_og
  replace k_oi2 := k_oi2.far hgr (fun x hx => Y1_5.out x hx)
  clear oi2
  have oi2 := k_oi2
  clear k_oi2
  clear hgr k_cur
  replace c0 := c0.trans (hB14.mono z0_4)
  replace c1 := c1.trans (hB14.mono z1_4)
  replace c4 := c4.trans hB14
  clear hB14
  go_wp2_with fail
  have k_og := og
  have k_cur := oi2
  refine (markLitH _ _ _ _ _ _ k_cur l2.out (by omega) (by omega) (by omega)).mono ?_
  rintro e W15 ⟨rfl, -, hB15, hgr⟩
  replace k_og := k_og.far hgr (fun x hx => Y2_7.out x hx)
  clear og
  have og := k_og
  clear k_og
  clear hgr k_cur
  replace c0 := c0.trans (hB15.mono z0_5)
  replace c1 := c1.trans (hB15.mono z1_5)
  replace c4 := c4.trans (hB15.mono z4_5)
  clear hB15
  go_wp2_with fail
  have qg2 := og
  obtain ⟨Bg2, dg2, eg2, rg2⟩ := LitR.of_hold rfl qg2 (by have := rsF_len a0 xs1 xs2 a3; omega)
  injection eg2 with eg3 eg4 eg5
  rw [← eg3] at rg2
  clear qg2 eg3 eg4 eg5
  refine (eqLiteralS _ _ _ _ _ _ _ _ _ rg2 (LitR.on rw c4)).mono ?_
  rintro e W16 ⟨rfl, hB16⟩
  replace c0 := bgo c0 hB16
  replace c1 := bgo c1 hB16
  replace c4 := bgo c4 hB16
  have c15 := hB16
  clear hB16
  go_wp2_with fail
  have k_cur := (HoldR.below og c15)
  clear c15
  refine (markLitH _ _ _ _ _ _ k_cur rfl (by have := rsF_len a0 xs1 xs2 a3; omega) (by omega) (by omega)).mono ?_
  rintro e W17 ⟨rfl, om, hB17, -⟩
  have qm := om
  obtain ⟨Bm, dm, em, rm⟩ := LitR.of_hold (mkL_len _ _) qm (by have := rsF_len a0 xs1 xs2 a3; omega)
  injection em with em1 em2 em3
  rw [← em1] at rm
  clear qm om em1 em2 em3 k_cur
  replace c0 := c0.trans (hB17.mono z0_7)
  replace c1 := c1.trans (hB17.mono z1_7)
  replace c4 := c4.trans (hB17.mono z4_7)
  clear hB17
  go_wp2_with fail
  refine (heldLitS _ _ _ _ _ rm (by have := rsF_len a0 xs1 xs2 a3; omega) (by omega) (by omega)).mono ?_
  rintro e W18 ⟨rfl, hB18⟩
  replace c0 := bgo c0 hB18
  replace c1 := bgo c1 hB18
  replace c4 := bgo c4 hB18
  have c17 := hB18
  clear hB18
  go_wp2_with fail
  have hbd : Below W18.heap.size W18 W18.drew := below_drewN (Below.refl _ _) 1
  have HS : Hid (∀ w', Below W18.heap.size W18 w' → w'.cell? ⟨W.heap.size, 0, none⟩ = some (.int .i64 a3.var) ∧ w'.cell? ⟨W.heap.size, 1, none⟩ = some (.int .i64 a3.val) ∧ w'.cell? ⟨W.heap.size, 2, none⟩ = some (.bool a3.neg)) := Lib.hid fun w' hb => by
    have hbz := c1.size
    have k1 := HX_a3.out.below_ (c1.trans (hb.mono hbz)) (by omega)
    exact ⟨k1.at_ 0 rfl, k1.at_ 1 rfl, k1.at_ 2 rfl⟩
  have hS0 := HS.out _ hbd
  have hA0 := bgo c0 hbd
  go_region_held3 (fun w' => w'.cell? ⟨W.heap.size, 0, none⟩ = some (.int .i64 a3.var) ∧ w'.cell? ⟨W.heap.size, 1, none⟩ = some (.int .i64 a3.val) ∧ w'.cell? ⟨W.heap.size, 2, none⟩ = some (.bool a3.neg))
    (first | with_reducible exact hS0 | with_reducible exact HS.out _ hb3 | with_reducible exact HS.out _ hb2 | with_reducible exact HS.out _ hb1 | with_reducible exact HS.out _ hb0)
    (first
      | (go_at_call 9
         refine (iResolve _ _ _ _ _ _ _ _ _ _ _ (HoldR.below oh1 (bgo hBq1 hBq2)) l1.out (HoldR.below oh2 hBq2) l2.out b1 b2).mono ?_
         rintro e W19 ⟨v, rfl, oh, hBq3⟩
         have qh := oh
         obtain ⟨Bh, dh, rfl, rh⟩ := LitR.of_hold rfl qh (by have := rsF_len a0 xs1 xs2 a3; omega)
         clear qh
         have hb3 := bgo hb2 hBq3)
      | (go_at_call 8
         refine (toLiteral _ _).mono ?_
         rintro e Wx2 ⟨rfl, hBq2⟩
         have hb2 := bgo hb1 hBq2
         have hA3 := bgo hA2 hBq2)
      | (go_at_call 7
         have hq := hb0
         clear hq
         refine (toLiteralS _ _ _ _ _ (LitA.on g2 hA1) (by omega)).mono ?_
         rintro e Wx1 ⟨v, rfl, oh2, hBq1⟩
         obtain ⟨Bh2, dh2, rfl, rh2⟩ := LitR.of_own l2.out oh2 b2
         replace oh2 := HoldR.of_own oh2
         have hb1 := bgo hb0 hBq1
         have hA2 := bgo hA1 hBq1)
      | (go_at_call 7
         refine (toLiteralS _ _ _ _ _ (LitA.on g1 hA0) (by omega)).mono ?_
         rintro e Wx0 ⟨v, rfl, oh1, hBq0⟩
         obtain ⟨Bh1, dh1, rfl, rh1⟩ := LitR.of_own l1.out oh1 b1
         replace oh1 := HoldR.of_own oh1
         have hb0 := bgo hbd hBq0
         have hA1 := bgo hA0 hBq0))
  have hb9 := hb3
  replace c0 := bgo c0 hb9
  replace c1 := bgo c1 hb9
  replace c4 := bgo c4 hb9
  replace c17 := bgo c17 hb9
  clear hb9 hS0 HS hbd hb0 hb1 hb2 hb3 hA0 hA1 hA2 hA3 hBq0 hBq1 hBq2 hBq3
  clear rh1 oh1
  clear rh2 oh2
  go_wp2_with fail
  refine (eqLiteralS _ _ _ _ _ _ _ _ _ rh (LitR.on rw c4)).mono ?_
  rintro e W20 ⟨rfl, hB20⟩
  replace c0 := bgo c0 hB20
  replace c1 := bgo c1 hB20
  replace c4 := bgo c4 hB20
  replace c17 := bgo c17 hB20
  have c19 := hB20
  clear hB20
  go_wp2_with fail
  refine (heldLitS _ _ _ _ _ (LitR.on rm c17) (by have := rsF_len a0 xs1 xs2 a3; omega) (by omega) (by omega)).mono ?_
  rintro e W21 ⟨rfl, hB21⟩
  replace c0 := bgo c0 hB21
  replace c1 := bgo c1 hB21
  replace c4 := bgo c4 hB21
  replace c17 := bgo c17 hB21
  replace c19 := bgo c19 hB21
  clear hB21
  go_wp2_with fail
  go_ret
  exact ⟨rfl, c0⟩

set_option maxRecDepth 100000 in
theorem lifted (os : Os) (started : os.Started) (H : Type) (enc : TypeId × Value → H) :
    ReturnsInHanded {} Try.checked os 3 .any (Rows.fnExactResolveSpec.pre6 enc Try.prog Try.f3 Rows.fnExactResolveRow.domain false) (Rows.fnExactResolveSpec.post enc Try.prog Try.f3 false true false false) := by
  refine returnsInHanded_of_change (C := Try.checked) own started (by kernel_rfl) Try.func3
    (ChangeSpec.witness6 (enc := enc) (C := Try.checked) false ⟨#[], #[.int .i64 0, .slice none 0 0, .slice none 0 0, .agg #[.int .i64 0, .int .i64 0, .bool false]], []⟩ 8 (by kernel_rfl) (by kernel_rfl) (by kernel_rfl) (by kernel_rfl)) ?_
  intro W base args ds gs before hval0 hW hcnd _
  have hval : ∀ (j : Nat) t v, Try.f3.params[j]? = some t → args[j]? = some v → Value.okWide Try.prog W .any base t v := hval0
  have hW' := hW
  obtain ⟨p, q, hA0, hV, rfl, hfz, hnd⟩ := hW
  have hA : DataW.TrodAll enc Try.prog W 0 (fun _ => true) true Try.f3.params.toList args.toList ds p := hA0
  rw [Try.params3] at hA hval
  obtain ⟨v0, vs0, d0, ds0, p0, q0, hargs, rfl, rfl, h0, r0⟩ := trodAll_cons hA
  obtain ⟨v1, vs1, d1, ds1, p1, q1, rfl, rfl, rfl, h1, r1⟩ := trodAll_cons r0
  obtain ⟨v2, vs2, d2, ds2, p2, q2, rfl, rfl, rfl, h2, r2⟩ := trodAll_cons r1
  obtain ⟨v3, vs3, d3, ds3, p3, q3, rfl, rfl, rfl, h3, r3⟩ := trodAll_cons r2
  obtain ⟨rfl, rfl, rfl⟩ := trodAll_nil r3
  obtain rfl : args = #[v0, v1, v2, v3] := by cases args; simp_all
  obtain ⟨rfl, rfl⟩ := trodVars_none hV
  have k0 := h0
  have l0 : ∀ x ∈ p0, x.block < W.heap.size := fun x hx => hW'.lt x (by simp [hx])
  have k1 := h1
  have l1 : ∀ x ∈ p1, x.block < W.heap.size := fun x hx => hW'.lt x (by simp [hx])
  have k2 := h2
  have l2 : ∀ x ∈ p2, x.block < W.heap.size := fun x hx => hW'.lt x (by simp [hx])
  have k3 := h3
  have l3 : ∀ x ∈ p3, x.block < W.heap.size := fun x hx => hW'.lt x (by simp [hx])
  obtain ⟨a0, rfl, rfl, rfl, w0⟩ := open_int Try.underlying3 (hval 0 3 v0 rfl rfl) k0
  obtain ⟨A1, n1, c1, xs1, rfl, g1⟩ := open_litS (hval 1 22 v1 rfl rfl) k1
  obtain ⟨A2, n2, c2, xs2, rfl, g2⟩ := open_litS (hval 2 22 v2 rfl rfl) k2
  obtain ⟨us3, x3, rfl, g3⟩ := open_lit (hval 3 24 v3 rfl rfl) k3
  clear hA0 hval0
  refine (walk a0 w0 A1 n1 c1 xs1 g1 A2 n2 c2 xs2 g2 us3 x3 g3).mono fun e W' ⟨he, hb⟩ => ?_
  subst he
  exact ⟨_, rfl, _, _, _, [], _, [], hW', trodAll_cons_mk (p := []) (shut_bool Try.underlying4 _) trodAll_mk0, (trodAll_cons_mk (Below.trod laid (by kernel_rfl) (of_decide_eq_true (by kernel_rfl)) h0 hb l0) (trodAll_cons_mk (Below.trod laid (by kernel_rfl) (of_decide_eq_true (by kernel_rfl)) h1 hb l1) (trodAll_cons_mk (Below.trod laid (by kernel_rfl) (of_decide_eq_true (by kernel_rfl)) h2 hb l2) (trodAll_cons_mk (Below.trod laid (by kernel_rfl) (of_decide_eq_true (by kernel_rfl)) h3 hb l3) trodAll_mk0)))), rfl, hb.frame _, fun h => by cases h⟩

theorem over : Rows.fnExactResolveRow.holds Try.pinned (OpenSpec.ofChange Rows.fnExactResolveSpec) :=
  OpenClaim.holds_of_wide 3 Try.f3 rfl rfl rfl rfl rfl rfl rfl ⟨rfl, rfl, rfl, rfl, rfl⟩ rfl rfl rfl rfl rfl (by kernel_rfl) Try.func3 (by kernel_rfl)
    (of_decide_eq_true (by kernel_rfl)) (by unfold Func.isWrapper; first | (rw [if_pos (by decide +kernel)]; kernel_rfl) | (rw [if_neg (by decide +kernel)]; exact ⟨rfl, rfl⟩))
    (fun os started H enc _ => lifted os started H enc)

/-- The statement. -/
theorem proved : Rows.FnExactResolveSaid :=
  over
#print axioms proved
end Go.Proofs.Ytjkgndedffildaa.fnExactResolve
