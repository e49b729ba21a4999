/- FnExactWithoutConstraint: for every input the law returns true and its arguments read as before; no further condition. -/
import Derived.Test.YtcghhnajjmnkkaaRows
import Derived.WalkKit
import Derived.ProofKit
import Derived.OpenShut
import Derived.Carry
import Derived.StillTailTactics
import Derived.Test.YtcghhnajjmnkkaaMarkC
import Derived.Test.YtcghhnajjmnkkaaOpenC
namespace Go.Proofs.Ytcghhnajjmnkkaa.fnExactWithoutConstraint
open Go.ChangeShapes Go.WideShapes Go.ChangeAt Go.RowKit
open Go.Shelf
set_option linter.unusedVariables false
set_option maxRecDepth 100000

theorem own : ownKnob Try.prog.godebug = none := by kernel_rfl
theorem laid : laidOutB Try.prog = true := by kernel_rfl

set_option maxHeartbeats 8000000 in
theorem walk {W0 : World} (us0 : List Value) (x0 : Mod) (g0 : ModA W0 W0.heap.size us0 x0) (a1 : Int) (w1 : (Lit.int .i64 a1).wf = true) :
    Calls Try.prog 4 #[.agg us0.toArray, .int .i64 a1] W0 fun e w' => e = .returned (.bool true) ∧ Below W0.heap.size W0 w' := by
  obtain ⟨u00, u01, rfl⟩ := g0.two
  obtain ⟨W1, hW1⟩ : ∃ W1, W1 = W0.alloc (.cells #[u00, u01] 25) := ⟨_, rfl⟩
  have hB1 : Below W0.heap.size W0 W1 := by rw [hW1]; exact b_alloc _ _
  have HX_a0 : Hid (TBlk 25 W1 W0.heap.size #[u00, u01]) := by rw [hW1]; exact TBlk.new _ _ _
  have c0 := hB1
  clear hB1
  have hy_a0 := HX_a0.out
  have pa0_0 : W1.cell? ⟨W0.heap.size, 0, none⟩ = some (u00) := hy_a0.at_ 0 rfl
  have pa0_1 : W1.cell? ⟨W0.heap.size, 1, none⟩ = some (u01) := hy_a0.at_ 1 rfl
  clear hy_a0
  go_enter Try.func4, Try.ntmps4
  go_wp2_with fail
  rw [← hW1]
  clear hW1
  clear pa0_0 pa0_1
  refine (szModel _ _ _ _ (ModA.on g0 c0) (by omega) (by omega)).mono ?_
  rintro e W2 ⟨r0, rfl, hr, hB2⟩
  replace c0 := bgo c0 hB2
  have c1 := hB2
  clear hB2
  rcases hr with rfl | ⟨hr0, hr1, hs0⟩
  · go_wp2_with fail
    go_ret
    exact ⟨rfl, c0⟩
  have hy_a0 := HX_a0.out.below_ c1 HX_a0.out.lt
  have pa0_0 : W2.cell? ⟨W0.heap.size, 0, none⟩ = some (u00) := hy_a0.at_ 0 rfl
  have pa0_1 : W2.cell? ⟨W0.heap.size, 1, none⟩ = some (u01) := hy_a0.at_ 1 rfl
  clear hy_a0
  go_wp2_with fail
  clear pa0_0 pa0_1
  refine (toModel _ _ _ (ModA.on g0 c0) hs0).mono ?_
  rintro e W3 ⟨v, rfl, os0, hB3⟩
  replace c0 := bgo c0 hB3
  replace c1 := bgo c1 hB3
  have c2 := hB3
  clear hB3
  obtain ⟨vss0, rfl, rs0⟩ := os0.read
  clear os0
  go_wp2_with fail
  refine (sWithout _ _ a1 _ rs0 hs0).mono ?_
  rintro e W4 ⟨rsw, rfl, ow, hB4⟩
  replace c0 := bgo c0 hB4
  replace c1 := bgo c1 hB4
  replace c2 := bgo c2 hB4
  have c3 := hB4
  clear hB4
  clear rs0
  obtain ⟨wa, wn, wb, wc, wm, wd, rfl, rw0⟩ := OwnModL.shape ow
  clear ow
  clear c2
  clear c3
  obtain ⟨W5, hW5⟩ : ∃ W5, W5 = W4.alloc (.cells #[.slice wa wn wb, .slice wc wm wd] 33) := ⟨_, rfl⟩
  have hB5 : Below W4.heap.size W4 W5 := by rw [hW5]; exact b_alloc _ _
  have HX_w : Hid (TBlk 33 W5 W4.heap.size #[.slice wa wn wb, .slice wc wm wd]) := by rw [hW5]; exact TBlk.new _ _ _
  replace c0 := bgo c0 hB5
  replace c1 := bgo c1 hB5
  have c4 := hB5
  clear hB5
  have hy_a0 := HX_a0.out.below_ c1 HX_a0.out.lt
  have ra0_0 : (W4.alloc (.cells #[.slice wa wn wb, .slice wc wm wd] 33)).cell? ⟨W0.heap.size, 0, none⟩ = some (u00) := by rw [← hW5]; exact hy_a0.at_ 0 rfl
  have ra0_1 : (W4.alloc (.cells #[.slice wa wn wb, .slice wc wm wd] 33)).cell? ⟨W0.heap.size, 1, none⟩ = some (u01) := by rw [← hW5]; exact hy_a0.at_ 1 rfl
  clear hy_a0
  go_wp2_with fail
  rw [← hW5]
  clear hW5 ra0_0 ra0_1
  have y0 := c0.size
  have y1 := c1.size
  have y4 := c4.size
  refine (toModel _ _ _ (ModA.on g0 c0) hs0).mono ?_
  rintro e W6 ⟨v, rfl, oi0, hB6⟩
  replace c0 := bgo c0 hB6
  replace c1 := bgo c1 hB6
  replace c4 := bgo c4 hB6
  have c5 := hB6
  clear hB6
  obtain ⟨vsi0, rfl, ri0⟩ := oi0.read
  have hm0 := Lib.hid (HMod.of_own oi0 hs0)
  clear oi0
  have zlh := c5.size
  obtain ⟨ia, ib, ic, id0, ie, if0, rfl⟩ := ri0.two
  obtain ⟨W7, hW7⟩ : ∃ W7, W7 = W6.alloc (.cells #[.slice ia ic id0, .slice ib ie if0] 33) := ⟨_, rfl⟩
  have hB7 : Below W6.heap.size W6 W7 := by rw [hW7]; exact b_alloc _ _
  have HX_x : Hid (TBlk 33 W7 W6.heap.size #[.slice ia ic id0, .slice ib ie if0]) := by rw [hW7]; exact TBlk.new _ _ _
  replace c0 := bgo c0 hB7
  replace c1 := bgo c1 hB7
  replace c4 := bgo c4 hB7
  replace c5 := bgo c5 hB7
  have c6 := hB7
  clear hB7
  go_wp2_with fail
  rw [← hW7]
  clear hW7 
  have zhg := c6.size
  have zlg := c5.size
  refine (iWithout _ _ a1 _ (ModR.on ri0 c6) hs0).mono ?_
  rintro e W8 ⟨rsg, D, xs, rfl, og, fg, hB8⟩
  replace c0 := bgo c0 hB8
  replace c1 := bgo c1 hB8
  replace c4 := bgo c4 hB8
  replace c5 := bgo c5 hB8
  replace c6 := bgo c6 hB8
  have c7 := hB8
  clear hB8
  have zgw := c7.size
  obtain ⟨ga, gn, gb0, gc, gm, gd, rfl⟩ := CMod.shape og
  obtain ⟨S, sg0, sg1, sg2, sg3⟩ := CMod.site og fg
  have SG := Lib.hid sg0
  have SN := Lib.hid sg1
  have SL := Lib.hid sg3
  have KG := Lib.hid og
  clear sg0 sg1 sg3 og fg
  obtain ⟨W9, hW9⟩ : ∃ W9, W9 = W8.alloc (.cells #[.slice ga gn gb0, .slice gc gm gd] 33) := ⟨_, rfl⟩
  have hB9 : Below W8.heap.size W8 W9 := by rw [hW9]; exact b_alloc _ _
  have HX_g : Hid (TBlk 33 W9 W8.heap.size #[.slice ga gn gb0, .slice gc gm gd]) := by rw [hW9]; exact TBlk.new _ _ _
  replace c0 := bgo c0 hB9
  replace c1 := bgo c1 hB9
  replace c4 := bgo c4 hB9
  replace c5 := bgo c5 hB9
  replace c6 := bgo c6 hB9
  replace c7 := bgo c7 hB9
  have c8 := hB9
  clear hB9
  replace KG := Lib.hid (KG.out.below c8)
  have hy_w := HX_w.out.below_ c5 HX_w.out.lt
  have rw_0 : (W8.alloc (.cells #[.slice ga gn gb0, .slice gc gm gd] 33)).cell? ⟨W4.heap.size, 0, none⟩ = some (.slice wa wn wb) := by rw [← hW9]; exact hy_w.at_ 0 rfl
  have rw_1 : (W8.alloc (.cells #[.slice ga gn gb0, .slice gc gm gd] 33)).cell? ⟨W4.heap.size, 1, none⟩ = some (.slice wc wm wd) := by rw [← hW9]; exact hy_w.at_ 1 rfl
  clear hy_w
  go_wp2_with fail
  rw [← hW9]
  clear hW9 rw_0 rw_1
  refine (eqModel _ _ _ _ _ (CMod.read KG.out) (ModR.on rw0 c4)).mono ?_
  rintro e W10 ⟨rfl, hB10⟩
  replace c0 := bgo c0 hB10
  replace c1 := bgo c1 hB10
  replace c4 := bgo c4 hB10
  replace c5 := bgo c5 hB10
  replace c6 := bgo c6 hB10
  replace c7 := bgo c7 hB10
  replace c8 := bgo c8 hB10
  have c9 := hB10
  clear hB10
  replace KG := Lib.hid (KG.out.below c9)
  have hy_x := HX_x.out.below_ c7 HX_x.out.lt
  have px_0 : W10.cell? ⟨W6.heap.size, 0, none⟩ = some (.slice ia ic id0) := hy_x.at_ 0 rfl
  have px_1 : W10.cell? ⟨W6.heap.size, 1, none⟩ = some (.slice ib ie if0) := hy_x.at_ 1 rfl
  clear hy_x
  have hy_a0 := HX_a0.out.below_ c1 HX_a0.out.lt
  have pa0_0 : W10.cell? ⟨W0.heap.size, 0, none⟩ = some (u00) := hy_a0.at_ 0 rfl
  have pa0_1 : W10.cell? ⟨W0.heap.size, 1, none⟩ = some (u01) := hy_a0.at_ 1 rfl
  clear hy_a0
  go_wp2_with fail
  clear px_0 px_1 pa0_0 pa0_1
  have hS : ∀ w', Below W10.heap.size W10 w' → (w'.cell? ⟨W0.heap.size, 0, none⟩ = some (u00) ∧ w'.cell? ⟨W0.heap.size, 1, none⟩ = some (u01) ∧ w'.cell? ⟨W6.heap.size, 0, none⟩ = some (.slice ia ic id0) ∧ w'.cell? ⟨W6.heap.size, 1, none⟩ = some (.slice ib ie if0)) := by
    intro w' h
    have ka0 := HX_a0.out.below_ (bgo c1 h) HX_a0.out.lt
    have kx := HX_x.out.below_ (bgo c7 h) HX_x.out.lt
    exact ⟨ka0.at_ 0 rfl, ka0.at_ 1 rfl, kx.at_ 0 rfl, kx.at_ 1 rfl⟩
  have hbd : Below W10.heap.size W10 W10.drew := below_drewN (Below.refl _ _) 1
  have hS0 := hS _ hbd
  go_region_held3 (fun w' => w'.cell? ⟨W0.heap.size, 0, none⟩ = some (u00) ∧ w'.cell? ⟨W0.heap.size, 1, none⟩ = some (u01) ∧ w'.cell? ⟨W6.heap.size, 0, none⟩ = some (.slice ia ic id0) ∧ w'.cell? ⟨W6.heap.size, 1, none⟩ = some (.slice ib ie if0))
    (first | with_reducible exact hS0 | with_reducible exact hS _ hb8 | with_reducible exact hS _ hb9)
    (first
      | (go_at_call 11
         refine (toModel _ _ _ (ModA.on g0 (bgo c0 hbd)) hs0).mono ?_
         rintro e Wq ⟨v, rfl, oe0, hBq⟩
         obtain ⟨vse0, rfl, re0⟩ := oe0.read
         clear oe0
         have hb8 := bgo hbd hBq
         clear hBq)
      | (go_at_call 14
         refine (eqModel _ _ _ _ _ (ModR.on ri0 (bgo c6 hb8)) re0).mono ?_
         rintro e W11 ⟨rfl, hBq⟩
         have hb9 := bgo hb8 hBq
         clear hBq))
  clear hS hS0 hbd hb8 re0
  have hB11 := hb9
  clear hb9
  replace c0 := bgo c0 hB11
  replace c1 := bgo c1 hB11
  replace c4 := bgo c4 hB11
  replace c5 := bgo c5 hB11
  replace c6 := bgo c6 hB11
  replace c7 := bgo c7 hB11
  replace c8 := bgo c8 hB11
  replace c9 := bgo c9 hB11
  have c10 := hB11
  clear hB11
  replace KG := Lib.hid (KG.out.below c10)
  clear c10
  have hy_x := HX_x.out.below_ c7 HX_x.out.lt
  have px_0 : W11.cell? ⟨W6.heap.size, 0, none⟩ = some (.slice ia ic id0) := hy_x.at_ 0 rfl
  have px_1 : W11.cell? ⟨W6.heap.size, 1, none⟩ = some (.slice ib ie if0) := hy_x.at_ 1 rfl
  clear hy_x
  go_wp2_with fail
  clear px_0 px_1
  have k_hm0 := Lib.hid (hm0.out.keep (Keep.of_below c6))
  have zlc := c5.size
  refine (markModelT [.slice ia ic id0, .slice ib ie if0] W5.heap.size W6.heap.size 1 _ k_hm0.out zlc (by omega) (by omega)).mono ?_
  rintro e W12 ⟨kk0, rfl, pa0, pb0, ht, hq⟩
  replace KG : Hid (CMod W12 W7.heap.size [.slice ga gn gb0, .slice gc gm gd] _ D xs) := CMod.apart KG.out ⟨ht.1.size, fun b h1 h2 => ht.2 b (by omega) h2⟩
  replace SG := Lib.hid (SMod.keep (SMod.keep SG.out (Keep.of_below c8)) hq)
  have HY_g := Lib.hid ((HX_g.out.below_ c9 HX_g.out.lt).touch ht (by omega))
  have HX_g := HY_g
  clear HY_g
  replace c0 := c0.trans (ht.1.mono y0)
  replace c1 := c1.trans (ht.1.mono y1)
  replace c4 := c4.trans (ht.1.mono y4)
  replace c5 := c5.trans (ht.1.mono (Nat.le_refl _))
  clear c6
  clear c7
  clear c8
  clear c9
  clear ht hq k_hm0 HX_x
  have hkd : decide (kk0 < 0) = false := decide_eq_false (by omega)
  have hy_g := HX_g.out
  have pg_0 : W12.cell? ⟨W8.heap.size, 0, none⟩ = some (.slice ga gn gb0) := hy_g.at_ 0 rfl
  have pg_1 : W12.cell? ⟨W8.heap.size, 1, none⟩ = some (.slice gc gm gd) := hy_g.at_ 1 rfl
  clear hy_g
  have hy_w := HX_w.out.below_ c5 HX_w.out.lt
  have pw_0 : W12.cell? ⟨W4.heap.size, 0, none⟩ = some (.slice wa wn wb) := hy_w.at_ 0 rfl
  have pw_1 : W12.cell? ⟨W4.heap.size, 1, none⟩ = some (.slice wc wm wd) := hy_w.at_ 1 rfl
  clear hy_w
  go_wp2_with fail
  clear pg_0 pg_1 pw_0 pw_1
  clear hkd
  refine (eqModel _ _ _ _ _ (CMod.read KG.out) (ModR.on rw0 c4)).mono ?_
  rintro e W13 ⟨rfl, hB13⟩
  replace c0 := bgo c0 hB13
  replace c1 := bgo c1 hB13
  replace c4 := bgo c4 hB13
  replace c5 := bgo c5 hB13
  have c12 := hB13
  clear hB13
  replace SG := Lib.hid (SMod.keep SG.out (Keep.of_below c12))
  clear KG
  have hy_g := HX_g.out.below_ c12 HX_g.out.lt
  have pg_0 : W13.cell? ⟨W8.heap.size, 0, none⟩ = some (.slice ga gn gb0) := hy_g.at_ 0 rfl
  have pg_1 : W13.cell? ⟨W8.heap.size, 1, none⟩ = some (.slice gc gm gd) := hy_g.at_ 1 rfl
  clear hy_g
  have hgl := (HX_g.out.below_ c12 HX_g.out.lt).lt
  go_wp2_with fail
  have zgb : W7.heap.size ≤ W13.heap.size := by omega
  refine (markModelW [.slice ga gn gb0, .slice gc gm gd] W7.heap.size 1 S _ SG.out zgb (by omega) (by omega)).mono ?_
  rintro e W14 ⟨rfl, hw⟩
  have G0 : W14.cell? ⟨W8.heap.size, 0, none⟩ = some (.slice ga gn gb0) := (hw.old _ 0 hgl (fun h => absurd (SL.out _ h) (by simp))).trans pg_0
  have G1 : W14.cell? ⟨W8.heap.size, 1, none⟩ = some (.slice gc gm gd) := (hw.old _ 1 hgl (fun h => absurd (SL.out _ h) (by simp))).trans pg_1
  have HG0 := Lib.hid G0
  have HG1 := Lib.hid G1
  have HGL := Lib.hid (Nat.lt_of_lt_of_le hgl hw.below.size)
  clear pg_0 pg_1 hgl
  replace c0 := c0.trans (hw.below.mono (by omega))
  replace c1 := c1.trans (hw.below.mono (by omega))
  replace c4 := c4.trans (hw.below.mono (by omega))
  replace c5 := c5.trans (hw.below.mono (by omega))
  clear c12
  replace SG := Lib.hid (SMod.keep SG.out hw.keep)
  have HH := Lib.hid (Holds.of_wr hw SN.out)
  have HL := Lib.hid hw.lt
  clear hw HX_g SL
  go_wp2_with fail
  clear G0 G1
  have hkd : decide ((1 : Int) + (S.length : Int) < 0) = false := decide_eq_false (by omega)
  have hkn : (((1 : Int) + (S.length : Int)) == ((1 : Int) + (S.length : Int))) = true := by simp
  refine (heldModelW [.slice ga gn gb0, .slice gc gm gd] W7.heap.size 1 S _ SG.out HH.out HL.out (by omega) (by omega)).mono ?_
  rintro e W15 ⟨rfl, hB15⟩
  replace c0 := bgo c0 hB15
  replace c1 := bgo c1 hB15
  replace c4 := bgo c4 hB15
  replace c5 := bgo c5 hB15
  have c14 := hB15
  clear hB15
  replace SG := Lib.hid (SMod.keep SG.out (Keep.of_below c14))
  replace HH := Lib.hid (HH.out.below c14 HL.out)
  replace HL := Lib.hid (fun s hs => Nat.lt_of_lt_of_le (HL.out s hs) c14.size)
  have hy_a0 := HX_a0.out.below_ c1 HX_a0.out.lt
  have pa0_0 : W15.cell? ⟨W0.heap.size, 0, none⟩ = some (u00) := hy_a0.at_ 0 rfl
  have pa0_1 : W15.cell? ⟨W0.heap.size, 1, none⟩ = some (u01) := hy_a0.at_ 1 rfl
  clear hy_a0
  go_wp2_with fail
  clear pa0_0 pa0_1
  refine (toModel _ _ _ (ModA.on g0 c0) hs0).mono ?_
  rintro e W16 ⟨v, rfl, oh0, hB16⟩
  replace c0 := bgo c0 hB16
  replace c1 := bgo c1 hB16
  replace c4 := bgo c4 hB16
  replace c5 := bgo c5 hB16
  replace c14 := bgo c14 hB16
  have c15 := hB16
  clear hB16
  replace SG := Lib.hid (SMod.keep SG.out (Keep.of_below c15))
  replace HH := Lib.hid (HH.out.below c15 HL.out)
  replace HL := Lib.hid (fun s hs => Nat.lt_of_lt_of_le (HL.out s hs) c15.size)
  obtain ⟨vsh0, rfl, rh0⟩ := oh0.read
  clear oh0
  clear c15
  go_wp2_with fail
  refine (iWithout _ _ a1 _ rh0 hs0).mono ?_
  rintro e W17 ⟨rsh, Dh, xsh, rfl, oh, fh, hB17⟩
  replace c0 := bgo c0 hB17
  replace c1 := bgo c1 hB17
  replace c4 := bgo c4 hB17
  replace c5 := bgo c5 hB17
  replace c14 := bgo c14 hB17
  have c16 := hB17
  clear hB17
  replace SG := Lib.hid (SMod.keep SG.out (Keep.of_below c16))
  replace HH := Lib.hid (HH.out.below c16 HL.out)
  replace HL := Lib.hid (fun s hs => Nat.lt_of_lt_of_le (HL.out s hs) c16.size)
  obtain ⟨ha, hn, hb, hc, hm, hd, rfl⟩ := CMod.shape oh
  clear rh0 fh
  clear c16
  obtain ⟨W18, hW18⟩ : ∃ W18, W18 = W17.alloc (.cells #[.slice ha hn hb, .slice hc hm hd] 33) := ⟨_, rfl⟩
  have hB18 : Below W17.heap.size W17 W18 := by rw [hW18]; exact b_alloc _ _
  have HX_h : Hid (TBlk 33 W18 W17.heap.size #[.slice ha hn hb, .slice hc hm hd]) := by rw [hW18]; exact TBlk.new _ _ _
  replace c0 := bgo c0 hB18
  replace c1 := bgo c1 hB18
  replace c4 := bgo c4 hB18
  replace c5 := bgo c5 hB18
  replace c14 := bgo c14 hB18
  have c17 := hB18
  clear hB18
  replace SG := Lib.hid (SMod.keep SG.out (Keep.of_below c17))
  replace HH := Lib.hid (HH.out.below c17 HL.out)
  replace HL := Lib.hid (fun s hs => Nat.lt_of_lt_of_le (HL.out s hs) c17.size)
  replace oh := oh.below c17
  clear c17
  have hy_w := HX_w.out.below_ c5 HX_w.out.lt
  have rw_0 : (W17.alloc (.cells #[.slice ha hn hb, .slice hc hm hd] 33)).cell? ⟨W4.heap.size, 0, none⟩ = some (.slice wa wn wb) := by rw [← hW18]; exact hy_w.at_ 0 rfl
  have rw_1 : (W17.alloc (.cells #[.slice ha hn hb, .slice hc hm hd] 33)).cell? ⟨W4.heap.size, 1, none⟩ = some (.slice wc wm wd) := by rw [← hW18]; exact hy_w.at_ 1 rfl
  clear hy_w
  go_wp2_with fail
  rw [← hW18]
  clear hW18 rw_0 rw_1
  refine (eqModel _ _ _ _ _ (CMod.read oh) (ModR.on rw0 c4)).mono ?_
  rintro e W19 ⟨rfl, hB19⟩
  replace c0 := bgo c0 hB19
  replace c1 := bgo c1 hB19
  replace c4 := bgo c4 hB19
  replace c5 := bgo c5 hB19
  replace c14 := bgo c14 hB19
  have c18 := hB19
  clear hB19
  replace SG := Lib.hid (SMod.keep SG.out (Keep.of_below c18))
  replace HH := Lib.hid (HH.out.below c18 HL.out)
  replace HL := Lib.hid (fun s hs => Nat.lt_of_lt_of_le (HL.out s hs) c18.size)
  clear oh
  have G0 := (c14.cell HGL.out).trans HG0.out
  have G1 := (c14.cell HGL.out).trans HG1.out
  go_wp2_with fail
  clear G0 G1
  refine (heldModelW [.slice ga gn gb0, .slice gc gm gd] W7.heap.size 1 S _ SG.out HH.out HL.out (by omega) (by omega)).mono ?_
  rintro e W20 ⟨rfl, hB20⟩
  replace c0 := bgo c0 hB20
  replace c1 := bgo c1 hB20
  replace c4 := bgo c4 hB20
  replace c5 := bgo c5 hB20
  replace c14 := bgo c14 hB20
  replace c18 := bgo c18 hB20
  have c19 := hB20
  clear hB20
  go_wp2_with fail
  go_ret
  exact ⟨rfl, c0⟩

set_option maxRecDepth 100000 in
theorem lifted (os : Os) (started : os.Started) (H : Type) (enc : TypeId × Value → H) :
    ReturnsInHanded {} Try.checked os 4 .any (Rows.fnExactWithoutConstraintSpec.pre6 enc Try.prog Try.f4 Rows.fnExactWithoutConstraintRow.domain false) (Rows.fnExactWithoutConstraintSpec.post enc Try.prog Try.f4 false true false false) := by
  refine returnsInHanded_of_change (C := Try.checked) own started (by kernel_rfl) Try.func4
    (ChangeSpec.witness6 (enc := enc) (C := Try.checked) false ⟨#[], #[.agg #[.slice none 0 0, .slice none 0 0], .int .i64 0], []⟩ 8 (by kernel_rfl) (by kernel_rfl) (by kernel_rfl) (by kernel_rfl)) ?_
  intro W base args ds gs before hval0 hW hcnd _
  have hval : ∀ (j : Nat) t v, Try.f4.params[j]? = some t → args[j]? = some v → Value.okWide Try.prog W .any base t v := hval0
  have hW' := hW
  obtain ⟨p, q, hA0, hV, rfl, hfz, hnd⟩ := hW
  have hA : DataW.TrodAll enc Try.prog W 0 (fun _ => true) true Try.f4.params.toList args.toList ds p := hA0
  rw [Try.params4] at hA hval
  obtain ⟨v0, vs0, d0, ds0, p0, q0, hargs, rfl, rfl, h0, r0⟩ := trodAll_cons hA
  obtain ⟨v1, vs1, d1, ds1, p1, q1, rfl, rfl, rfl, h1, r1⟩ := trodAll_cons r0
  obtain ⟨rfl, rfl, rfl⟩ := trodAll_nil r1
  obtain rfl : args = #[v0, v1] := by cases args; simp_all
  obtain ⟨rfl, rfl⟩ := trodVars_none hV
  have k0 := h0
  have l0 : ∀ x ∈ p0, x.block < W.heap.size := fun x hx => hW'.lt x (by simp [hx])
  have k1 := h1
  have l1 : ∀ x ∈ p1, x.block < W.heap.size := fun x hx => hW'.lt x (by simp [hx])
  obtain ⟨us0, x0, rfl, g0⟩ := open_model (hval 0 25 v0 rfl rfl) k0
  obtain ⟨a1, rfl, rfl, rfl, w1⟩ := open_int Try.underlying3 (hval 1 3 v1 rfl rfl) k1
  clear hA0 hval0
  refine (walk us0 x0 g0 a1 w1).mono fun e W' ⟨he, hb⟩ => ?_
  subst he
  exact ⟨_, rfl, _, _, _, [], _, [], hW', trodAll_cons_mk (p := []) (shut_bool Try.underlying4 _) trodAll_mk0, (trodAll_cons_mk (Below.trod laid (by kernel_rfl) (of_decide_eq_true (by kernel_rfl)) h0 hb l0) (trodAll_cons_mk (Below.trod laid (by kernel_rfl) (of_decide_eq_true (by kernel_rfl)) h1 hb l1) trodAll_mk0)), rfl, hb.frame _, fun h => by cases h⟩

theorem over : Rows.fnExactWithoutConstraintRow.holds Try.pinned (OpenSpec.ofChange Rows.fnExactWithoutConstraintSpec) :=
  OpenClaim.holds_of_wide 4 Try.f4 rfl rfl rfl rfl rfl rfl rfl ⟨rfl, rfl, rfl, rfl, rfl⟩ rfl rfl rfl rfl rfl (by kernel_rfl) Try.func4 (by kernel_rfl)
    (of_decide_eq_true (by kernel_rfl)) (by unfold Func.isWrapper; first | (rw [if_pos (by decide +kernel)]; kernel_rfl) | (rw [if_neg (by decide +kernel)]; exact ⟨rfl, rfl⟩))
    (fun os started H enc _ => lifted os started H enc)

/-- The statement. -/
theorem proved : Rows.FnExactWithoutConstraintSaid :=
  over
#print axioms proved
end Go.Proofs.Ytcghhnajjmnkkaa.fnExactWithoutConstraint
