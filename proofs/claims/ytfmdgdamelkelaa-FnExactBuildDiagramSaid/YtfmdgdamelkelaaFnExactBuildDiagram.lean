/- FnExactBuildDiagram: for every input the law returns true and its arguments read as before; no further condition. -/
import Derived.Test.YtfmdgdamelkelaaRows
import Derived.WalkKit
import Derived.ProofKit
import Derived.OpenShut
import Derived.Carry
import Derived.StillTailTactics
import Derived.Test.YtfmdgdamelkelaaHiFnExactBuildDiagramB
import Derived.Test.YtfmdgdamelkelaaSolI
import Derived.Test.YtfmdgdamelkelaaOpenC
namespace Go.Proofs.Ytfmdgdamelkelaa.fnExactBuildDiagram
open Go.ChangeShapes Go.WideShapes Go.ChangeAt Go.RowKit
open Go.Shelf
set_option linter.unusedVariables false
set_option maxRecDepth 100000

theorem own : ownKnob Try.prog.godebug = none := by kernel_rfl
theorem laid : laidOutB Try.prog = true := by kernel_rfl

set_option maxHeartbeats 8000000 in
theorem walk {W : World} (us0 : List Value) (x0 : Con) (g0 : ConA W W.heap.size us0 x0) (A1 : Option Addr) (n1 c1 : Nat) (xs1 : List Int) (g1 : IntA W W.heap.size A1 n1 xs1) :
    Calls Try.prog 3 #[.agg us0.toArray, .slice A1 n1 c1] W fun e w' => e = .returned (.bool true) ∧ Below W.heap.size W w' := by
  have b1 := g1.le
  have l1 := Lib.hid g1.len
  obtain ⟨u00, u01, u02, u03, u04, rfl⟩ := g0.five
  obtain ⟨W1, hW1⟩ : ∃ W1, W1 = W.alloc (.cells #[u00, u01, u02, u03, u04] 25) := ⟨_, rfl⟩
  have hB1 : Below W.heap.size W W1 := by rw [hW1]; exact b_alloc _ _
  have zz1 : W1.heap.size = W.heap.size + 1 := by rw [hW1, size_alloc_]
  have hx1 : TBlk 25 W1 W.heap.size #[u00, u01, u02, u03, u04] := by rw [hW1]; exact TBlk.new _ _ _
  have HX_a0 := Lib.hid hx1
  clear hx1
  have c0 := hB1
  clear hB1
  by_cases t1 : 1048576 < n1
  · go_enter Try.func3, Try.ntmps3
    go_wp2_with fail
    rw [← hW1]
    go_ret
    exact ⟨rfl, c0⟩
  have hy_a0 := HX_a0.out
  have pa0_0 : W1.cell? ⟨W.heap.size, 0, none⟩ = some u00 := hy_a0.at_ 0 rfl
  have pa0_1 : W1.cell? ⟨W.heap.size, 1, none⟩ = some u01 := hy_a0.at_ 1 rfl
  have pa0_2 : W1.cell? ⟨W.heap.size, 2, none⟩ = some u02 := hy_a0.at_ 2 rfl
  have pa0_3 : W1.cell? ⟨W.heap.size, 3, none⟩ = some u03 := hy_a0.at_ 3 rfl
  have pa0_4 : W1.cell? ⟨W.heap.size, 4, none⟩ = some u04 := hy_a0.at_ 4 rfl
  clear hy_a0
  go_enter Try.func3, Try.ntmps3
  go_wp2_with fail
  rw [← hW1]
  clear hW1
  clear pa0_0 pa0_1 pa0_2 pa0_3 pa0_4
  refine (szConstraint _ _ _ _ (ConA.on g0 c0) (by omega) (by omega)).mono ?_
  rintro e W2 ⟨r2, rfl, hr, hB2⟩
  replace c0 := bgo c0 hB2
  have c1 := hB2
  clear hB2
  rcases hr with rfl | ⟨hr0, hr1, hs0⟩
  · go_wp2_with fail
    go_ret
    exact ⟨rfl, c0⟩
  have hy_a0 := HX_a0.out.below_ c1 (by omega)
  have pa0_0 : W2.cell? ⟨W.heap.size, 0, none⟩ = some u00 := hy_a0.at_ 0 rfl
  have pa0_1 : W2.cell? ⟨W.heap.size, 1, none⟩ = some u01 := hy_a0.at_ 1 rfl
  have pa0_2 : W2.cell? ⟨W.heap.size, 2, none⟩ = some u02 := hy_a0.at_ 2 rfl
  have pa0_3 : W2.cell? ⟨W.heap.size, 3, none⟩ = some u03 := hy_a0.at_ 3 rfl
  have pa0_4 : W2.cell? ⟨W.heap.size, 4, none⟩ = some u04 := hy_a0.at_ 4 rfl
  clear hy_a0
  go_wp2_with fail
  clear pa0_0 pa0_1 pa0_2 pa0_3 pa0_4
  refine (toConstraint _ _ _ (ConA.on g0 c0) hs0).mono ?_
  rintro e W3 ⟨v, rfl, os0, hB3⟩
  obtain ⟨vss0, rfl, rs0⟩ := os0.read
  clear os0
  replace c0 := bgo c0 hB3
  replace c1 := bgo c1 hB3
  clear hB3
  go_wp2_with fail
  refine (toIntS _ _ _ _ _ (IntA.on g1 c0) (by omega)).mono ?_
  rintro e W4 ⟨v, rfl, os1, hB4⟩
  obtain ⟨Bs1, ds1, rfl, rs1, -⟩ := IntR.of_own os1 b1
  clear os1
  replace c0 := bgo c0 hB4
  replace c1 := bgo c1 hB4
  have c3 := hB4
  clear hB4
  go_wp2_with fail
  refine (sBuildDiagram _ _ _ _ _ _ _ (ConR.on rs0 c3) rs1).mono ?_
  rintro e W5 ⟨v, rfl, ow, hB5⟩
  have hsh := bdg_sh x0 xs1
  obtain ⟨gss0, hA0, -⟩ := ow
  have rw0 := (OwnOf.read (fun w base v x hx => OwnOf.read (fun w base v x hx => hx.read) hx) hA0.read : RowC (RowC (RowC IntC)) W5 W5.heap.size v (bdgF x0 xs1))
  obtain ⟨D, hD⟩ : ∃ D, bdgF x0 xs1 = D := ⟨_, rfl⟩
  rw [hD] at rw0 hsh
  obtain ⟨Bw, dw, rfl, rw⟩ := rw0
  have rw : LayersR W5 W5.heap.size Bw D.length D := rw
  have HDD := Lib.hid hD
  have HSH := Lib.hid hsh
  clear hA0 gss0 hD hsh
  replace c0 := bgo c0 hB5
  replace c1 := bgo c1 hB5
  replace c3 := bgo c3 hB5
  have c4 := hB5
  clear hB5
  have hy_a0 := HX_a0.out.below_ c1 (by omega)
  have pa0_0 : W5.cell? ⟨W.heap.size, 0, none⟩ = some u00 := hy_a0.at_ 0 rfl
  have pa0_1 : W5.cell? ⟨W.heap.size, 1, none⟩ = some u01 := hy_a0.at_ 1 rfl
  have pa0_2 : W5.cell? ⟨W.heap.size, 2, none⟩ = some u02 := hy_a0.at_ 2 rfl
  have pa0_3 : W5.cell? ⟨W.heap.size, 3, none⟩ = some u03 := hy_a0.at_ 3 rfl
  have pa0_4 : W5.cell? ⟨W.heap.size, 4, none⟩ = some u04 := hy_a0.at_ 4 rfl
  clear hy_a0
  go_wp2_with fail
  clear pa0_0 pa0_1 pa0_2 pa0_3 pa0_4
  clear c3
  clear c4
  have z0_5 := c0.size
  have z1_5 := c1.size
  refine (toConstraint _ _ _ (ConA.on g0 c0) hs0).mono ?_
  rintro e W6 ⟨v, rfl, oi0, hB6⟩
  obtain ⟨vsi0, rfl, ri0⟩ := oi0.read
  have hm0 := Lib.hid (HConV.of_own oi0 hs0)
  have zq0 := hB6.size
  clear oi0
  obtain ⟨ik0, ib0, ia0, ic0, ie0, in0, io0, ip0, iq0, ir0, is0, rfl⟩ := ri0.five
  replace c0 := bgo c0 hB6
  replace c1 := bgo c1 hB6
  have c5 := hB6
  clear hB6
  obtain ⟨W7, hW7⟩ : ∃ W7, W7 = W6.alloc (.cells #[.int .i64 ik0, .slice ia0 in0 io0, .slice ic0 ip0 iq0, .int .i64 ib0, .slice ie0 ir0 is0] 29) := ⟨_, rfl⟩
  have hB7 : Below W6.heap.size W6 W7 := by rw [hW7]; exact b_alloc _ _
  have zz7 : W7.heap.size = W6.heap.size + 1 := by rw [hW7, size_alloc_]
  have hx7 : TBlk 29 W7 W6.heap.size #[.int .i64 ik0, .slice ia0 in0 io0, .slice ic0 ip0 iq0, .int .i64 ib0, .slice ie0 ir0 is0] := by rw [hW7]; exact TBlk.new _ _ _
  have HX_x0 := Lib.hid hx7
  clear hx7
  replace c0 := bgo c0 hB7
  replace c1 := bgo c1 hB7
  replace c5 := bgo c5 hB7
  have c6 := hB7
  clear hB7
  go_wp2_with fail
  rw [← hW7]
  clear hW7
  have z0_7 := c0.size
  have z1_7 := c1.size
  have z5_7 := c5.size
  have z6_7 := c6.size
  refine (toIntS _ _ _ _ _ (IntA.on g1 c0) (by omega)).mono ?_
  rintro e W8 ⟨v, rfl, oi1, hB8⟩
  obtain ⟨Bi1, di1, rfl, ri1, -⟩ := IntR.of_own oi1 b1
  have hm1 := Lib.hid (HI.of_own (show OwnI 3 _ _ _ xs1 from ⟨by rw [l1.out]; exact oi1, by rw [l1.out]; exact b1⟩))
  have zq1 := hB8.size
  clear oi1
  replace c0 := bgo c0 hB8
  replace c1 := bgo c1 hB8
  replace c5 := bgo c5 hB8
  replace c6 := bgo c6 hB8
  have c7 := hB8
  clear hB8
  have hy_x0 := HX_x0.out.below_ c7 (by omega)
  have px0_0 : W8.cell? ⟨W6.heap.size, 0, none⟩ = some (.int .i64 ik0) := hy_x0.at_ 0 rfl
  have px0_1 : W8.cell? ⟨W6.heap.size, 1, none⟩ = some (.slice ia0 in0 io0) := hy_x0.at_ 1 rfl
  have px0_2 : W8.cell? ⟨W6.heap.size, 2, none⟩ = some (.slice ic0 ip0 iq0) := hy_x0.at_ 2 rfl
  have px0_3 : W8.cell? ⟨W6.heap.size, 3, none⟩ = some (.int .i64 ib0) := hy_x0.at_ 3 rfl
  have px0_4 : W8.cell? ⟨W6.heap.size, 4, none⟩ = some (.slice ie0 ir0 is0) := hy_x0.at_ 4 rfl
  clear hy_x0
  go_wp2_with fail
  clear px0_0 px0_1 px0_2 px0_3 px0_4
  have z0_8 := c0.size
  have z1_8 := c1.size
  have z5_8 := c5.size
  have z6_8 := c6.size
  have z7_8 := c7.size
  refine (iBuildDiagram _ _ _ _ _ _ _ (ConR.on ri0 c6) ri1).mono ?_
  rintro e W9 ⟨v, rfl, og, hB9⟩
  rw [HDD.out] at og
  obtain ⟨Bg, dg, rfl, rg⟩ := og.lays
  have rg : LayersR W9 W9.heap.size Bg D.length D := rg
  replace c0 := bgo c0 hB9
  replace c1 := bgo c1 hB9
  replace c5 := bgo c5 hB9
  replace c6 := bgo c6 hB9
  replace c7 := bgo c7 hB9
  have c8 := hB9
  clear hB9
  go_wp2_with fail
  refine (eqIntSSS _ _ _ _ _ _ _ _ _ rg (SlR.on (RowC.keeps (RowC.keeps IntC.keeps)) (RowC.widens (RowC.widens IntC.widens)) rw c5)).mono ?_
  rintro e W10 ⟨rfl, hB10⟩
  replace c0 := bgo c0 hB10
  replace c1 := bgo c1 hB10
  replace c5 := bgo c5 hB10
  replace c6 := bgo c6 hB10
  replace c7 := bgo c7 hB10
  replace c8 := bgo c8 hB10
  have c9 := hB10
  clear hB10
  have hy_x0 := HX_x0.out.below_ c7 (by omega)
  have px0_0 : W10.cell? ⟨W6.heap.size, 0, none⟩ = some (.int .i64 ik0) := hy_x0.at_ 0 rfl
  have px0_1 : W10.cell? ⟨W6.heap.size, 1, none⟩ = some (.slice ia0 in0 io0) := hy_x0.at_ 1 rfl
  have px0_2 : W10.cell? ⟨W6.heap.size, 2, none⟩ = some (.slice ic0 ip0 iq0) := hy_x0.at_ 2 rfl
  have px0_3 : W10.cell? ⟨W6.heap.size, 3, none⟩ = some (.int .i64 ib0) := hy_x0.at_ 3 rfl
  have px0_4 : W10.cell? ⟨W6.heap.size, 4, none⟩ = some (.slice ie0 ir0 is0) := hy_x0.at_ 4 rfl
  clear hy_x0
  have hy_a0 := HX_a0.out.below_ c1 (by omega)
  have pa0_0 : W10.cell? ⟨W.heap.size, 0, none⟩ = some u00 := hy_a0.at_ 0 rfl
  have pa0_1 : W10.cell? ⟨W.heap.size, 1, none⟩ = some u01 := hy_a0.at_ 1 rfl
  have pa0_2 : W10.cell? ⟨W.heap.size, 2, none⟩ = some u02 := hy_a0.at_ 2 rfl
  have pa0_3 : W10.cell? ⟨W.heap.size, 3, none⟩ = some u03 := hy_a0.at_ 3 rfl
  have pa0_4 : W10.cell? ⟨W.heap.size, 4, none⟩ = some u04 := hy_a0.at_ 4 rfl
  clear hy_a0
  go_wp2_with fail
  clear px0_0 px0_1 px0_2 px0_3 px0_4 pa0_0 pa0_1 pa0_2 pa0_3 pa0_4
  have hS : ∀ w', Below W10.heap.size W10 w' → (w'.cell? ⟨W.heap.size, 0, none⟩ = some u00 ∧ w'.cell? ⟨W.heap.size, 1, none⟩ = some u01 ∧ w'.cell? ⟨W.heap.size, 2, none⟩ = some u02 ∧ w'.cell? ⟨W.heap.size, 3, none⟩ = some u03 ∧ w'.cell? ⟨W.heap.size, 4, none⟩ = some u04 ∧ w'.cell? ⟨W6.heap.size, 0, none⟩ = some (.int .i64 ik0) ∧ w'.cell? ⟨W6.heap.size, 1, none⟩ = some (.slice ia0 in0 io0) ∧ w'.cell? ⟨W6.heap.size, 2, none⟩ = some (.slice ic0 ip0 iq0) ∧ w'.cell? ⟨W6.heap.size, 3, none⟩ = some (.int .i64 ib0) ∧ w'.cell? ⟨W6.heap.size, 4, none⟩ = some (.slice ie0 ir0 is0)) := by
    intro w' h
    have hya := c1.size
    have hyx := c7.size
    have ka := HX_a0.out.below_ (c1.trans (h.mono hya)) (by omega)
    have kx := HX_x0.out.below_ (c7.trans (h.mono hyx)) (by omega)
    exact ⟨ka.at_ 0 rfl, ka.at_ 1 rfl, ka.at_ 2 rfl, ka.at_ 3 rfl, ka.at_ 4 rfl, kx.at_ 0 rfl, kx.at_ 1 rfl, kx.at_ 2 rfl, kx.at_ 3 rfl, kx.at_ 4 rfl⟩
  have hbd : Below W10.heap.size W10 W10.drew := below_drewN (Below.refl _ _) 1
  have hS0 := hS _ hbd
  go_region_held3 (fun w' => w'.cell? ⟨W.heap.size, 0, none⟩ = some u00 ∧ w'.cell? ⟨W.heap.size, 1, none⟩ = some u01 ∧ w'.cell? ⟨W.heap.size, 2, none⟩ = some u02 ∧ w'.cell? ⟨W.heap.size, 3, none⟩ = some u03 ∧ w'.cell? ⟨W.heap.size, 4, none⟩ = some u04 ∧ w'.cell? ⟨W6.heap.size, 0, none⟩ = some (.int .i64 ik0) ∧ w'.cell? ⟨W6.heap.size, 1, none⟩ = some (.slice ia0 in0 io0) ∧ w'.cell? ⟨W6.heap.size, 2, none⟩ = some (.slice ic0 ip0 iq0) ∧ w'.cell? ⟨W6.heap.size, 3, none⟩ = some (.int .i64 ib0) ∧ w'.cell? ⟨W6.heap.size, 4, none⟩ = some (.slice ie0 ir0 is0))
    (first | exact hS0 | exact hS _ hb8 | exact hS _ hb9)
    (first
      | (go_at_call 11
         refine (toConstraint _ _ _ (ConA.on g0 (bgo c0 hbd)) hs0).mono ?_
         rintro e Wq ⟨v, rfl, oe0, hBq⟩
         obtain ⟨vse0, rfl, re0⟩ := oe0.read
         clear oe0
         have hb8 := bgo hbd hBq
         clear hBq)
      | (go_at_call 15
         refine (eqConstraint _ _ _ _ _ (ConR.on ri0 (bgo c6 hb8)) re0).mono ?_
         rintro e W11 ⟨rfl, hBq⟩
         have hb9 := bgo hb8 hBq
         clear hBq))
  clear hS hS0 hbd hb8 re0
  replace c0 := bgo c0 hb9
  replace c1 := bgo c1 hb9
  replace c5 := bgo c5 hb9
  replace c6 := bgo c6 hb9
  replace c7 := bgo c7 hb9
  replace c8 := bgo c8 hb9
  replace c9 := bgo c9 hb9
  clear hb9
  go_wp2_with fail
  refine (toIntS _ _ _ _ _ (IntA.on g1 c0) (by omega)).mono ?_
  rintro e W12 ⟨v, rfl, oe1, hB12⟩
  obtain ⟨Be1, de1, rfl, re1, -⟩ := IntR.of_own oe1 b1
  clear oe1
  replace c0 := bgo c0 hB12
  replace c1 := bgo c1 hB12
  replace c5 := bgo c5 hB12
  replace c6 := bgo c6 hB12
  replace c7 := bgo c7 hB12
  replace c8 := bgo c8 hB12
  replace c9 := bgo c9 hB12
  clear hB12
  go_wp2_with fail
  refine (eqIntS _ _ _ _ _ _ _ _ _ (IntR.on ri1 c8) re1).mono ?_
  rintro e W13 ⟨rfl, hB13⟩
  replace c0 := bgo c0 hB13
  replace c1 := bgo c1 hB13
  replace c5 := bgo c5 hB13
  replace c6 := bgo c6 hB13
  replace c7 := bgo c7 hB13
  replace c8 := bgo c8 hB13
  replace c9 := bgo c9 hB13
  have c12 := hB13
  clear hB13
  clear c12
  have hy_x0 := HX_x0.out.below_ c7 (by omega)
  have px0_0 : W13.cell? ⟨W6.heap.size, 0, none⟩ = some (.int .i64 ik0) := hy_x0.at_ 0 rfl
  have px0_1 : W13.cell? ⟨W6.heap.size, 1, none⟩ = some (.slice ia0 in0 io0) := hy_x0.at_ 1 rfl
  have px0_2 : W13.cell? ⟨W6.heap.size, 2, none⟩ = some (.slice ic0 ip0 iq0) := hy_x0.at_ 2 rfl
  have px0_3 : W13.cell? ⟨W6.heap.size, 3, none⟩ = some (.int .i64 ib0) := hy_x0.at_ 3 rfl
  have px0_4 : W13.cell? ⟨W6.heap.size, 4, none⟩ = some (.slice ie0 ir0 is0) := hy_x0.at_ 4 rfl
  clear hy_x0
  go_wp2_with fail
  clear px0_0 px0_1 px0_2 px0_3 px0_4
  have k_hm0 := Lib.hid (hm0.out.keep (Keep.of_below c6))
  have k_hm1 := Lib.hid (hm1.out.keep (Keep.of_below c8))
  have k_og := Lib.hid (DgHR.below og c9)
  have yp0 := c5.size
  have yp1 := c7.size
  refine (markConT [.int .i64 ik0, .slice ia0 in0 io0, .slice ic0 ip0 iq0, .int .i64 ib0, .slice ie0 ir0 is0] W5.heap.size W6.heap.size 1 _ k_hm0.out (by omega) (by omega) (by omega)).mono ?_
  rintro e W14 ⟨kk0, rfl, pa0, pb0, ht, hq⟩
  replace c0 := c0.trans (ht.1.mono z0_5)
  replace c1 := c1.trans (ht.1.mono z1_5)
  replace c5 := c5.trans ht.1
  clear c6
  clear c7
  clear c8
  clear c9
  replace k_og := Lib.hid (k_og.out.same (fun g hg hlt => ht.2 g (by omega) hlt))
  replace k_hm1 := Lib.hid (k_hm1.out.keep hq)
  have yt0 := ht.1.size
  clear ht hq k_hm0
  go_wp2_with fail
  refine (markIntT _ _ _ W7.heap.size W8.heap.size kk0 _ k_hm1.out (by omega) (by omega) (by omega) (by omega)).mono ?_
  rintro e W15 ⟨kk1, rfl, pa1, pb1, ht, hq⟩
  replace c0 := c0.trans (ht.1.mono z0_7)
  replace c1 := c1.trans (ht.1.mono z1_7)
  replace c5 := c5.trans (ht.1.mono z5_7)
  replace k_og := Lib.hid (k_og.out.same (fun g hg hlt => ht.2 g (by omega) hlt))
  have yt1 := ht.1.size
  clear ht hq k_hm1
  have og := k_og.out
  clear k_og
  have hkd : decide (kk1 < 0) = false := decide_eq_false (by omega)
  go_wp2_with fail
  clear hkd
  obtain ⟨Bg2, dg2, eg2, rg2⟩ := og.lays
  injection eg2 with eg3 eg4 eg5
  rw [← eg3] at rg2
  have rg2 : LayersR W15 W15.heap.size Bg D.length D := rg2
  clear eg3 eg4 eg5
  refine (eqIntSSS _ _ _ _ _ _ _ _ _ rg2 (SlR.on (RowC.keeps (RowC.keeps IntC.keeps)) (RowC.widens (RowC.widens IntC.widens)) rw c5)).mono ?_
  rintro e W16 ⟨rfl, hB16⟩
  replace c0 := bgo c0 hB16
  replace c1 := bgo c1 hB16
  replace c5 := bgo c5 hB16
  have c15 := hB16
  clear hB16
  go_wp2_with fail
  obtain ⟨Sss, Ss, hSe, hSL, hSN, hSl, hD4⟩ := (DgHR.below og c15).sites HSH.out
  clear c15
  refine (markIntSSSW _ _ _ W8.heap.size 1 Sss Ss hSe _ hSL (by omega) (by omega) (by omega)).mono ?_
  rintro e W17 ⟨rfl, hwr⟩
  have hB17 := hwr.below
  have HSL := Lib.hid (hSL.keep hwr.keep)
  have HHO := Lib.hid (Holds.of_wr hwr hSN)
  have HSE := Lib.hid hSe
  clear hSL hwr hSe hSN
  replace c0 := c0.trans (hB17.mono z0_8)
  replace c1 := c1.trans (hB17.mono z1_8)
  replace c5 := c5.trans (hB17.mono z5_8)
  clear hB17
  go_wp2_with fail
  refine (heldIntSSSW _ _ _ W8.heap.size 1 Sss Ss HSE.out _ HSL.out HHO.out (by omega) (by omega) (by omega)).mono ?_
  rintro e W18 ⟨rfl, hB18⟩
  replace c0 := bgo c0 hB18
  replace c1 := bgo c1 hB18
  replace c5 := bgo c5 hB18
  have c17 := hB18
  clear hB18
  have hy_a0 := HX_a0.out.below_ c1 (by omega)
  have pa0_0 : W18.cell? ⟨W.heap.size, 0, none⟩ = some u00 := hy_a0.at_ 0 rfl
  have pa0_1 : W18.cell? ⟨W.heap.size, 1, none⟩ = some u01 := hy_a0.at_ 1 rfl
  have pa0_2 : W18.cell? ⟨W.heap.size, 2, none⟩ = some u02 := hy_a0.at_ 2 rfl
  have pa0_3 : W18.cell? ⟨W.heap.size, 3, none⟩ = some u03 := hy_a0.at_ 3 rfl
  have pa0_4 : W18.cell? ⟨W.heap.size, 4, none⟩ = some u04 := hy_a0.at_ 4 rfl
  clear hy_a0
  go_wp2_with fail
  clear pa0_0 pa0_1 pa0_2 pa0_3 pa0_4
  refine (toConstraint _ _ _ (ConA.on g0 c0) hs0).mono ?_
  rintro e W19 ⟨v, rfl, oh0, hB19⟩
  obtain ⟨vsh0, rfl, rh0⟩ := oh0.read
  clear oh0
  replace c0 := bgo c0 hB19
  replace c1 := bgo c1 hB19
  replace c5 := bgo c5 hB19
  replace c17 := bgo c17 hB19
  clear hB19
  go_wp2_with fail
  refine (toIntS _ _ _ _ _ (IntA.on g1 c0) (by omega)).mono ?_
  rintro e W20 ⟨v, rfl, oh1, hB20⟩
  obtain ⟨Bh1, dh1, rfl, rh1, -⟩ := IntR.of_own oh1 b1
  clear oh1
  replace c0 := bgo c0 hB20
  replace c1 := bgo c1 hB20
  replace c5 := bgo c5 hB20
  replace c17 := bgo c17 hB20
  have c19 := hB20
  clear hB20
  go_wp2_with fail
  refine (iBuildDiagram _ _ _ _ _ _ _ (ConR.on rh0 c19) rh1).mono ?_
  rintro e W21 ⟨v, rfl, oh, hB21⟩
  rw [HDD.out] at oh
  obtain ⟨Bh, dh, rfl, rh⟩ := oh.lays
  have rh : LayersR W21 W21.heap.size Bh D.length D := rh
  replace c0 := bgo c0 hB21
  replace c1 := bgo c1 hB21
  replace c5 := bgo c5 hB21
  replace c17 := bgo c17 hB21
  replace c19 := bgo c19 hB21
  have c20 := hB21
  clear hB21
  go_wp2_with fail
  refine (eqIntSSS _ _ _ _ _ _ _ _ _ rh (SlR.on (RowC.keeps (RowC.keeps IntC.keeps)) (RowC.widens (RowC.widens IntC.widens)) rw c5)).mono ?_
  rintro e W22 ⟨rfl, hB22⟩
  replace c0 := bgo c0 hB22
  replace c1 := bgo c1 hB22
  replace c5 := bgo c5 hB22
  replace c17 := bgo c17 hB22
  replace c19 := bgo c19 hB22
  replace c20 := bgo c20 hB22
  have c21 := hB22
  clear hB22
  go_wp2_with fail
  refine (heldIntSSSW _ _ _ W8.heap.size 1 Sss Ss HSE.out _ (HSL.out.keep (Keep.of_below c17)) (HHO.out.below c17 (fun s hs => HSL.out.lt s (by rw [HSE.out]; exact hs))) (by omega) (by omega) (by omega)).mono ?_
  rintro e W23 ⟨rfl, hB23⟩
  replace c0 := bgo c0 hB23
  replace c1 := bgo c1 hB23
  replace c5 := bgo c5 hB23
  replace c17 := bgo c17 hB23
  replace c19 := bgo c19 hB23
  replace c20 := bgo c20 hB23
  replace c21 := bgo c21 hB23
  clear hB23
  go_wp2_with fail
  go_ret
  exact ⟨rfl, c0⟩

set_option maxRecDepth 100000 in
theorem lifted (os : Os) (started : os.Started) (H : Type) (enc : TypeId × Value → H) :
    ReturnsInHanded {} Try.checked os 3 .any (Rows.fnExactBuildDiagramSpec.pre6 enc Try.prog Try.f3 Rows.fnExactBuildDiagramRow.domain false) (Rows.fnExactBuildDiagramSpec.post enc Try.prog Try.f3 false true false false) := by
  refine returnsInHanded_of_change (C := Try.checked) own started (by kernel_rfl) Try.func3
    (ChangeSpec.witness6 (enc := enc) (C := Try.checked) false ⟨#[], #[.agg #[.int .i64 0, .slice none 0 0, .slice none 0 0, .int .i64 0, .slice none 0 0], .slice none 0 0], []⟩ 8 (by kernel_rfl) (by kernel_rfl) (by kernel_rfl) (by kernel_rfl)) ?_
  intro W base args ds gs before hval0 hW hcnd _
  have hval : ∀ (j : Nat) t v, Try.f3.params[j]? = some t → args[j]? = some v → Value.okWide Try.prog W .any base t v := hval0
  have hW' := hW
  obtain ⟨p, q, hA0, hV, rfl, hfz, hnd⟩ := hW
  have hA : DataW.TrodAll enc Try.prog W 0 (fun _ => true) true Try.f3.params.toList args.toList ds p := hA0
  rw [Try.params3] at hA hval
  obtain ⟨v0, vs0, d0, ds0, p0, q0, hargs, rfl, rfl, h0, r0⟩ := trodAll_cons hA
  obtain ⟨v1, vs1, d1, ds1, p1, q1, rfl, rfl, rfl, h1, r1⟩ := trodAll_cons r0
  obtain ⟨rfl, rfl, rfl⟩ := trodAll_nil r1
  obtain rfl : args = #[v0, v1] := by cases args; simp_all
  obtain ⟨rfl, rfl⟩ := trodVars_none hV
  have k0 := h0
  have l0 : ∀ x ∈ p0, x.block < W.heap.size := fun x hx => hW'.lt x (by simp [hx])
  have k1 := h1
  have l1 : ∀ x ∈ p1, x.block < W.heap.size := fun x hx => hW'.lt x (by simp [hx])
  obtain ⟨us0, x0, rfl, g0⟩ := open_con (hval 0 25 v0 rfl rfl) k0
  obtain ⟨A1, n1, c1, xs1, rfl, g1⟩ := open_intS Try.underlying22 Try.underlying3 (by kernel_rfl) (hval 1 22 v1 rfl rfl) k1
  clear hA0 hval0
  refine (walk us0 x0 g0 A1 n1 c1 xs1 g1).mono fun e W' ⟨he, hb⟩ => ?_
  subst he
  exact ⟨_, rfl, _, _, _, [], _, [], hW', trodAll_cons_mk (p := []) (shut_bool Try.underlying4 _) trodAll_mk0, (trodAll_cons_mk (Below.trod laid (by kernel_rfl) (of_decide_eq_true (by kernel_rfl)) h0 hb l0) (trodAll_cons_mk (Below.trod laid (by kernel_rfl) (of_decide_eq_true (by kernel_rfl)) h1 hb l1) trodAll_mk0)), rfl, hb.frame _, fun h => by cases h⟩

theorem over : Rows.fnExactBuildDiagramRow.holds Try.pinned (OpenSpec.ofChange Rows.fnExactBuildDiagramSpec) :=
  OpenClaim.holds_of_wide 3 Try.f3 rfl rfl rfl rfl rfl rfl rfl ⟨rfl, rfl, rfl, rfl, rfl⟩ rfl rfl rfl rfl rfl (by kernel_rfl) Try.func3 (by kernel_rfl)
    (of_decide_eq_true (by kernel_rfl)) (by unfold Func.isWrapper; first | (rw [if_pos (by decide +kernel)]; kernel_rfl) | (rw [if_neg (by decide +kernel)]; exact ⟨rfl, rfl⟩))
    (fun os started H enc _ => lifted os started H enc)

/-- The statement. -/
theorem proved : Rows.FnExactBuildDiagramSaid :=
  over
#print axioms proved
end Go.Proofs.Ytfmdgdamelkelaa.fnExactBuildDiagram
