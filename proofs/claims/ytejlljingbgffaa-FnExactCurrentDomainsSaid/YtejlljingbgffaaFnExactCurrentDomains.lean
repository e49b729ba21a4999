/- FnExactCurrentDomains: for every input the law returns true and its arguments read as before; no further condition. -/
import Derived.Test.YtejlljingbgffaaRows
import Derived.WalkKit
import Derived.ProofKit
import Derived.OpenShut
import Derived.Carry
import Derived.StillTailTactics
import Derived.Test.YtejlljingbgffaaCur
import Derived.Test.YtejlljingbgffaaOpenC
namespace Go.Proofs.Ytejlljingbgffaa.fnExactCurrentDomains
open Go.ChangeShapes Go.WideShapes Go.ChangeAt Go.RowKit
open Go.Shelf
set_option linter.unusedVariables false
set_option maxRecDepth 100000

theorem own : ownKnob Try.prog.godebug = none := by kernel_rfl
theorem laid : laidOutB Try.prog = true := by kernel_rfl

set_option maxHeartbeats 8000000 in
theorem walk {W : World} (us0 : List Value) (x0 : Sto) (g0 : StoA W W.heap.size us0 x0) :
    Calls Try.prog 3 #[.agg us0.toArray] W fun e w' => e = .returned (.bool true) ∧ Below W.heap.size W w' := by
  obtain ⟨u00, u01, u02, rfl⟩ := g0.three
  obtain ⟨W1, hW1⟩ : ∃ W1, W1 = W.alloc (.cells #[u00, u01, u02] 28) := ⟨_, rfl⟩
  have hB1 : Below W.heap.size W W1 := by rw [hW1]; exact b_alloc _ _
  have zz1 : W1.heap.size = W.heap.size + 1 := by rw [hW1, size_alloc_]
  have hx1 : TBlk 28 W1 W.heap.size #[u00, u01, u02] := by rw [hW1]; exact TBlk.new _ _ _
  have HX_a0 := Lib.hid hx1
  clear hx1
  have c0 := hB1
  clear hB1
  have hy_a0 := HX_a0.out
  have pa0_0 : W1.cell? ⟨W.heap.size, 0, none⟩ = some u00 := hy_a0.at_ 0 rfl
  have pa0_1 : W1.cell? ⟨W.heap.size, 1, none⟩ = some u01 := hy_a0.at_ 1 rfl
  have pa0_2 : W1.cell? ⟨W.heap.size, 2, none⟩ = some u02 := hy_a0.at_ 2 rfl
  clear hy_a0
  go_enter Try.func3, Try.ntmps3
  go_wp2_with fail
  rw [← hW1]
  clear hW1
  clear pa0_0 pa0_1 pa0_2
  refine (szStore _ _ _ _ (StoA.on g0 c0) (by omega) (by omega)).mono ?_
  rintro e W2 ⟨r2, rfl, hr, hB2⟩
  replace c0 := bgo c0 hB2
  have c1 := hB2
  clear hB2
  rcases hr with rfl | ⟨hr0, hr1, hs0⟩
  · go_wp2_with fail
    go_ret
    exact ⟨rfl, c0⟩
  have hy_a0 := HX_a0.out.below_ c1 (by omega)
  have pa0_0 : W2.cell? ⟨W.heap.size, 0, none⟩ = some u00 := hy_a0.at_ 0 rfl
  have pa0_1 : W2.cell? ⟨W.heap.size, 1, none⟩ = some u01 := hy_a0.at_ 1 rfl
  have pa0_2 : W2.cell? ⟨W.heap.size, 2, none⟩ = some u02 := hy_a0.at_ 2 rfl
  clear hy_a0
  go_wp2_with fail
  clear pa0_0 pa0_1 pa0_2
  refine (toStore _ _ _ (StoA.on g0 c0) hs0).mono ?_
  rintro e W3 ⟨v, rfl, os0, hB3⟩
  obtain ⟨vss0, rfl, rs0⟩ := os0.read
  clear os0
  replace c0 := bgo c0 hB3
  replace c1 := bgo c1 hB3
  clear hB3
  go_wp2_with fail
  refine (sCurrentDomains _ _ _ rs0).mono ?_
  rintro e W4 ⟨v, rfl, ow, hB4⟩
  replace ow := HoldR.of_own ow
  have qw := ow
  obtain ⟨Bw, dw, rfl, rw⟩ := IntR.of_hold qw (by have := curF_len x0; omega)
  clear qw
  replace c0 := bgo c0 hB4
  replace c1 := bgo c1 hB4
  have c3 := hB4
  clear hB4
  have hy_a0 := HX_a0.out.below_ c1 (by omega)
  have pa0_0 : W4.cell? ⟨W.heap.size, 0, none⟩ = some u00 := hy_a0.at_ 0 rfl
  have pa0_1 : W4.cell? ⟨W.heap.size, 1, none⟩ = some u01 := hy_a0.at_ 1 rfl
  have pa0_2 : W4.cell? ⟨W.heap.size, 2, none⟩ = some u02 := hy_a0.at_ 2 rfl
  clear hy_a0
  go_wp2_with fail
  clear pa0_0 pa0_1 pa0_2
  clear c3
  have z0_4 := c0.size
  have z1_4 := c1.size
  refine (toStore _ _ _ (StoA.on g0 c0) hs0).mono ?_
  rintro e W5 ⟨v, rfl, oi0, hB5⟩
  obtain ⟨vsi0, rfl, ri0⟩ := oi0.read
  have hm0 := Lib.hid (HSto.of_own oi0 hs0)
  have zq0 := hB5.size
  clear oi0
  obtain ⟨ia0, ic0, ie0, in0, io0, ip0, iq0, ir0, is0, rfl⟩ := ri0.three
  replace c0 := bgo c0 hB5
  replace c1 := bgo c1 hB5
  have c4 := hB5
  clear hB5
  obtain ⟨W6, hW6⟩ : ∃ W6, W6 = W5.alloc (.cells #[.slice ia0 in0 io0, .slice ic0 ip0 iq0, .slice ie0 ir0 is0] 35) := ⟨_, rfl⟩
  have hB6 : Below W5.heap.size W5 W6 := by rw [hW6]; exact b_alloc _ _
  have zz6 : W6.heap.size = W5.heap.size + 1 := by rw [hW6, size_alloc_]
  have hx6 : TBlk 35 W6 W5.heap.size #[.slice ia0 in0 io0, .slice ic0 ip0 iq0, .slice ie0 ir0 is0] := by rw [hW6]; exact TBlk.new _ _ _
  have HX_x0 := Lib.hid hx6
  clear hx6
  replace c0 := bgo c0 hB6
  replace c1 := bgo c1 hB6
  replace c4 := bgo c4 hB6
  have c5 := hB6
  clear hB6
  have hy_x0 := HX_x0.out
  have px0_0 : W6.cell? ⟨W5.heap.size, 0, none⟩ = some (.slice ia0 in0 io0) := hy_x0.at_ 0 rfl
  have px0_1 : W6.cell? ⟨W5.heap.size, 1, none⟩ = some (.slice ic0 ip0 iq0) := hy_x0.at_ 1 rfl
  have px0_2 : W6.cell? ⟨W5.heap.size, 2, none⟩ = some (.slice ie0 ir0 is0) := hy_x0.at_ 2 rfl
  clear hy_x0
  go_wp2_with fail
  rw [← hW6]
  clear hW6
  clear px0_0 px0_1 px0_2
  have z0_6 := c0.size
  have z1_6 := c1.size
  have z4_6 := c4.size
  have z5_6 := c5.size
  refine (iCurrentDomains _ _ _ (StoR.on ri0 c5)).mono ?_
  rintro e W7 ⟨v, rfl, og, hB7⟩
  have qg := og
  obtain ⟨Bg, dg, rfl, rg⟩ := IntR.of_hold qg (by have := curF_len x0; omega)
  clear qg
  replace c0 := bgo c0 hB7
  replace c1 := bgo c1 hB7
  replace c4 := bgo c4 hB7
  replace c5 := bgo c5 hB7
  have c6 := hB7
  clear hB7
  go_wp2_with fail
  refine (eqIntS _ _ _ _ _ _ _ _ _ rg (IntR.on rw c4)).mono ?_
  rintro e W8 ⟨rfl, hB8⟩
  replace c0 := bgo c0 hB8
  replace c1 := bgo c1 hB8
  replace c4 := bgo c4 hB8
  replace c5 := bgo c5 hB8
  replace c6 := bgo c6 hB8
  have c7 := hB8
  clear hB8
  have hy_x0 := HX_x0.out.below_ c6 (by omega)
  have px0_0 : W8.cell? ⟨W5.heap.size, 0, none⟩ = some (.slice ia0 in0 io0) := hy_x0.at_ 0 rfl
  have px0_1 : W8.cell? ⟨W5.heap.size, 1, none⟩ = some (.slice ic0 ip0 iq0) := hy_x0.at_ 1 rfl
  have px0_2 : W8.cell? ⟨W5.heap.size, 2, none⟩ = some (.slice ie0 ir0 is0) := hy_x0.at_ 2 rfl
  clear hy_x0
  have hy_a0 := HX_a0.out.below_ c1 (by omega)
  have pa0_0 : W8.cell? ⟨W.heap.size, 0, none⟩ = some u00 := hy_a0.at_ 0 rfl
  have pa0_1 : W8.cell? ⟨W.heap.size, 1, none⟩ = some u01 := hy_a0.at_ 1 rfl
  have pa0_2 : W8.cell? ⟨W.heap.size, 2, none⟩ = some u02 := hy_a0.at_ 2 rfl
  clear hy_a0
  go_wp2_with fail
  clear px0_0 px0_1 px0_2 pa0_0 pa0_1 pa0_2
  have hS : ∀ w', Below W8.heap.size W8 w' → (w'.cell? ⟨W.heap.size, 0, none⟩ = some u00 ∧ w'.cell? ⟨W.heap.size, 1, none⟩ = some u01 ∧ w'.cell? ⟨W.heap.size, 2, none⟩ = some u02 ∧ w'.cell? ⟨W5.heap.size, 0, none⟩ = some (.slice ia0 in0 io0) ∧ w'.cell? ⟨W5.heap.size, 1, none⟩ = some (.slice ic0 ip0 iq0) ∧ w'.cell? ⟨W5.heap.size, 2, none⟩ = some (.slice ie0 ir0 is0)) := by
    intro w' h
    have hya := c1.size
    have hyx := c6.size
    have ka := HX_a0.out.below_ (c1.trans (h.mono hya)) (by omega)
    have kx := HX_x0.out.below_ (c6.trans (h.mono hyx)) (by omega)
    exact ⟨ka.at_ 0 rfl, ka.at_ 1 rfl, ka.at_ 2 rfl, kx.at_ 0 rfl, kx.at_ 1 rfl, kx.at_ 2 rfl⟩
  have hbd : Below W8.heap.size W8 W8.drew := below_drewN (Below.refl _ _) 1
  have hS0 := hS _ hbd
  go_region_held3 (fun w' => w'.cell? ⟨W.heap.size, 0, none⟩ = some u00 ∧ w'.cell? ⟨W.heap.size, 1, none⟩ = some u01 ∧ w'.cell? ⟨W.heap.size, 2, none⟩ = some u02 ∧ w'.cell? ⟨W5.heap.size, 0, none⟩ = some (.slice ia0 in0 io0) ∧ w'.cell? ⟨W5.heap.size, 1, none⟩ = some (.slice ic0 ip0 iq0) ∧ w'.cell? ⟨W5.heap.size, 2, none⟩ = some (.slice ie0 ir0 is0))
    (first | exact hS0 | exact hS _ hb8 | exact hS _ hb9)
    (first
      | (go_at_call 11
         refine (toStore _ _ _ (StoA.on g0 (bgo c0 hbd)) hs0).mono ?_
         rintro e Wq ⟨v, rfl, oe0, hBq⟩
         obtain ⟨vse0, rfl, re0⟩ := oe0.read
         clear oe0
         have hb8 := bgo hbd hBq
         clear hBq)
      | (go_at_call 14
         refine (eqStore _ _ _ _ _ (StoR.on ri0 (bgo c5 hb8)) re0).mono ?_
         rintro e W9 ⟨rfl, hBq⟩
         have hb9 := bgo hb8 hBq
         clear hBq))
  clear hS hS0 hbd hb8 re0
  replace c0 := bgo c0 hb9
  replace c1 := bgo c1 hb9
  replace c4 := bgo c4 hb9
  replace c5 := bgo c5 hb9
  replace c6 := bgo c6 hb9
  replace c7 := bgo c7 hb9
  clear hb9
  have hy_x0 := HX_x0.out.below_ c6 (by omega)
  have px0_0 : W9.cell? ⟨W5.heap.size, 0, none⟩ = some (.slice ia0 in0 io0) := hy_x0.at_ 0 rfl
  have px0_1 : W9.cell? ⟨W5.heap.size, 1, none⟩ = some (.slice ic0 ip0 iq0) := hy_x0.at_ 1 rfl
  have px0_2 : W9.cell? ⟨W5.heap.size, 2, none⟩ = some (.slice ie0 ir0 is0) := hy_x0.at_ 2 rfl
  clear hy_x0
  go_wp2_with fail
  clear px0_0 px0_1 px0_2
  have k_hm0 := Lib.hid (hm0.out.keep (Keep.of_below c5))
  have k_og := Lib.hid (HoldR.below og c7)
  have yp0 := c4.size
  refine (markStoreT [.slice ia0 in0 io0, .slice ic0 ip0 iq0, .slice ie0 ir0 is0] W4.heap.size W5.heap.size 1 _ k_hm0.out (by omega) (by omega) (by omega)).mono ?_
  rintro e W10 ⟨kk0, rfl, pa0, pb0, ht, hq⟩
  replace c0 := c0.trans (ht.1.mono z0_4)
  replace c1 := c1.trans (ht.1.mono z1_4)
  replace c4 := c4.trans ht.1
  clear c5
  clear c6
  clear c7
  replace k_og := Lib.hid (k_og.out.touch ht (by omega))
  have yt0 := ht.1.size
  clear ht hq k_hm0
  have og := k_og.out
  clear k_og
  have hkd : decide (kk0 < 0) = false := decide_eq_false (by omega)
  go_wp2_with fail
  clear hkd
  have qg2 := og
  obtain ⟨Bg2, dg2, eg2, rg2⟩ := IntR.of_hold qg2 (by have := curF_len x0; omega)
  injection eg2 with eg3 eg4 eg5
  rw [← eg3] at rg2
  clear qg2 eg3 eg4 eg5
  refine (eqIntS _ _ _ _ _ _ _ _ _ rg2 (IntR.on rw c4)).mono ?_
  rintro e W11 ⟨rfl, hB11⟩
  replace c0 := bgo c0 hB11
  replace c1 := bgo c1 hB11
  replace c4 := bgo c4 hB11
  have c10 := hB11
  clear hB11
  go_wp2_with fail
  have k_cur := (HoldR.below og c10)
  clear c10
  refine (markIntH _ _ _ _ _ _ k_cur (by have := curF_len x0; omega) (by omega) (by omega)).mono ?_
  rintro e W12 ⟨rfl, om, hB12, -⟩
  have qm := om
  obtain ⟨Bm, dm, em, rm⟩ := IntR.of_hold qm (by have := curF_len x0; omega)
  injection em with em1 em2 em3
  rw [← em1] at rm
  clear qm om em1 em2 em3 k_cur
  replace c0 := c0.trans (hB12.mono z0_6)
  replace c1 := c1.trans (hB12.mono z1_6)
  replace c4 := c4.trans (hB12.mono z4_6)
  clear hB12
  go_wp2_with fail
  refine (heldIntS _ _ _ _ _ rm (by have := curF_len x0; omega) (by omega) (by omega)).mono ?_
  rintro e W13 ⟨rfl, hB13⟩
  replace c0 := bgo c0 hB13
  replace c1 := bgo c1 hB13
  replace c4 := bgo c4 hB13
  have c12 := hB13
  clear hB13
  have hy_a0 := HX_a0.out.below_ c1 (by omega)
  have pa0_0 : W13.cell? ⟨W.heap.size, 0, none⟩ = some u00 := hy_a0.at_ 0 rfl
  have pa0_1 : W13.cell? ⟨W.heap.size, 1, none⟩ = some u01 := hy_a0.at_ 1 rfl
  have pa0_2 : W13.cell? ⟨W.heap.size, 2, none⟩ = some u02 := hy_a0.at_ 2 rfl
  clear hy_a0
  go_wp2_with fail
  clear pa0_0 pa0_1 pa0_2
  refine (toStore _ _ _ (StoA.on g0 c0) hs0).mono ?_
  rintro e W14 ⟨v, rfl, oh0, hB14⟩
  obtain ⟨vsh0, rfl, rh0⟩ := oh0.read
  clear oh0
  replace c0 := bgo c0 hB14
  replace c1 := bgo c1 hB14
  replace c4 := bgo c4 hB14
  replace c12 := bgo c12 hB14
  clear hB14
  go_wp2_with fail
  refine (iCurrentDomains _ _ _ rh0).mono ?_
  rintro e W15 ⟨v, rfl, oh, hB15⟩
  have qh := oh
  obtain ⟨Bh, dh, rfl, rh⟩ := IntR.of_hold qh (by have := curF_len x0; omega)
  clear qh
  replace c0 := bgo c0 hB15
  replace c1 := bgo c1 hB15
  replace c4 := bgo c4 hB15
  replace c12 := bgo c12 hB15
  have c14 := hB15
  clear hB15
  go_wp2_with fail
  refine (eqIntS _ _ _ _ _ _ _ _ _ rh (IntR.on rw c4)).mono ?_
  rintro e W16 ⟨rfl, hB16⟩
  replace c0 := bgo c0 hB16
  replace c1 := bgo c1 hB16
  replace c4 := bgo c4 hB16
  replace c12 := bgo c12 hB16
  replace c14 := bgo c14 hB16
  have c15 := hB16
  clear hB16
  go_wp2_with fail
  refine (heldIntS _ _ _ _ _ (IntR.on rm c12) (by have := curF_len x0; omega) (by omega) (by omega)).mono ?_
  rintro e W17 ⟨rfl, hB17⟩
  replace c0 := bgo c0 hB17
  replace c1 := bgo c1 hB17
  replace c4 := bgo c4 hB17
  replace c12 := bgo c12 hB17
  replace c14 := bgo c14 hB17
  replace c15 := bgo c15 hB17
  clear hB17
  go_wp2_with fail
  go_ret
  exact ⟨rfl, c0⟩

set_option maxRecDepth 100000 in
theorem lifted (os : Os) (started : os.Started) (H : Type) (enc : TypeId × Value → H) :
    ReturnsInHanded {} Try.checked os 3 .any (Rows.fnExactCurrentDomainsSpec.pre6 enc Try.prog Try.f3 Rows.fnExactCurrentDomainsRow.domain false) (Rows.fnExactCurrentDomainsSpec.post enc Try.prog Try.f3 false true false false) := by
  refine returnsInHanded_of_change (C := Try.checked) own started (by kernel_rfl) Try.func3
    (ChangeSpec.witness6 (enc := enc) (C := Try.checked) false ⟨#[], #[.agg #[.slice none 0 0, .slice none 0 0, .slice none 0 0]], []⟩ 8 (by kernel_rfl) (by kernel_rfl) (by kernel_rfl) (by kernel_rfl)) ?_
  intro W base args ds gs before hval0 hW hcnd _
  have hval : ∀ (j : Nat) t v, Try.f3.params[j]? = some t → args[j]? = some v → Value.okWide Try.prog W .any base t v := hval0
  have hW' := hW
  obtain ⟨p, q, hA0, hV, rfl, hfz, hnd⟩ := hW
  have hA : DataW.TrodAll enc Try.prog W 0 (fun _ => true) true Try.f3.params.toList args.toList ds p := hA0
  rw [Try.params3] at hA hval
  obtain ⟨v0, vs0, d0, ds0, p0, q0, hargs, rfl, rfl, h0, r0⟩ := trodAll_cons hA
  obtain ⟨rfl, rfl, rfl⟩ := trodAll_nil r0
  obtain rfl : args = #[v0] := by cases args; simp_all
  obtain ⟨rfl, rfl⟩ := trodVars_none hV
  have k0 := h0
  have l0 : ∀ x ∈ p0, x.block < W.heap.size := fun x hx => hW'.lt x (by simp [hx])
  obtain ⟨us0, x0, rfl, g0⟩ := open_store (hval 0 28 v0 rfl rfl) k0
  clear hA0 hval0
  refine (walk us0 x0 g0).mono fun e W' ⟨he, hb⟩ => ?_
  subst he
  exact ⟨_, rfl, _, _, _, [], _, [], hW', trodAll_cons_mk (p := []) (shut_bool Try.underlying4 _) trodAll_mk0, (trodAll_cons_mk (Below.trod laid (by kernel_rfl) (of_decide_eq_true (by kernel_rfl)) h0 hb l0) trodAll_mk0), rfl, hb.frame _, fun h => by cases h⟩

theorem over : Rows.fnExactCurrentDomainsRow.holds Try.pinned (OpenSpec.ofChange Rows.fnExactCurrentDomainsSpec) :=
  OpenClaim.holds_of_wide 3 Try.f3 rfl rfl rfl rfl rfl rfl rfl ⟨rfl, rfl, rfl, rfl, rfl⟩ rfl rfl rfl rfl rfl (by kernel_rfl) Try.func3 (by kernel_rfl)
    (of_decide_eq_true (by kernel_rfl)) (by unfold Func.isWrapper; first | (rw [if_pos (by decide +kernel)]; kernel_rfl) | (rw [if_neg (by decide +kernel)]; exact ⟨rfl, rfl⟩))
    (fun os started H enc _ => lifted os started H enc)

/-- The statement. -/
theorem proved : Rows.FnExactCurrentDomainsSaid :=
  over
#print axioms proved
end Go.Proofs.Ytejlljingbgffaa.fnExactCurrentDomains
