/- FnExactEncodeModel: for every input the law returns true and its arguments read as before; no further condition. -/
import Derived.Test.YtfoodlhfmcfjeaaDoorRows
import Derived.WalkKit
import Derived.ProofKit
import Derived.OpenShut
import Derived.Carry
import Derived.StillTailTactics
import Derived.LaidMore
import Derived.Lib.LaidTab
import Derived.Stop.LaidErr
import Derived.SevenTiedAt
import Derived.Test.YtfoodlhfmcfjeaaDoorTie
import Derived.Test.YtfoodlhfmcfjeaaDoorCards
import Derived.Test.YtfoodlhfmcfjeaaDoorEncM
import Derived.Test.YtfoodlhfmcfjeaaDoorOpenC
namespace Go.Proofs.YtfoodlhfmcfjeaaDoor.fnExactEncodeModel
open Go.ChangeShapes Go.WideShapes Go.ChangeAt Go.RowKit
open Go.Shelf
set_option linter.unusedVariables false
set_option maxRecDepth 100000

theorem own : ownKnob Tryd.prog.godebug = none := by kernel_rfl
theorem laid : laidOutB Tryd.prog = true := by kernel_rfl

set_option maxHeartbeats 4000000 in
theorem walk {W : World} (hT : TabW W) (us0 : List Value) (x0 : Mod) (g0 : ModA W W.heap.size us0 x0) :
    Calls Tryd.prog 3 #[.agg us0.toArray] W fun e w' => e = .returned (.bool true) ∧ Below W.heap.size W w' := by
  obtain ⟨u00, u01, rfl⟩ := g0.two
  obtain ⟨W1, hW1⟩ : ∃ W1, W1 = W.alloc (.cells #[u00, u01] 25) := ⟨_, rfl⟩
  have hB1 : Below W.heap.size W W1 := by rw [hW1]; exact b_alloc _ _
  have zz1 : W1.heap.size = W.heap.size + 1 := by rw [hW1, size_alloc_]
  have hx1 : TBlk 25 W1 W.heap.size #[u00, u01] := by rw [hW1]; exact TBlk.new _ _ _
  have HX_a0 := Lib.hid hx1
  clear hx1
  have c0 := hB1
  clear hB1
  have hy_a0 := HX_a0.out
  have pa0_0 : W1.cell? ⟨W.heap.size, 0, none⟩ = some u00 := hy_a0.at_ 0 rfl
  have pa0_1 : W1.cell? ⟨W.heap.size, 1, none⟩ = some u01 := hy_a0.at_ 1 rfl
  clear hy_a0
  go_enter Tryd.func3, Tryd.ntmps3
  go_wp2_with fail
  rw [← hW1]
  clear hW1
  clear pa0_0 pa0_1
  refine (szModel _ _ _ _ (ModA.on g0 c0) (by omega) (by omega)).mono ?_
  rintro e W2 ⟨r2, rfl, hr, hB2⟩
  replace c0 := bgo c0 hB2
  have c1 := hB2
  clear hB2
  rcases hr with rfl | ⟨hr0, hr1, hs0⟩
  · go_wp2_with fail
    go_ret
    exact ⟨rfl, c0⟩
  have hy_a0 := HX_a0.out.below_ c1 (by omega)
  have pa0_0 : W2.cell? ⟨W.heap.size, 0, none⟩ = some u00 := hy_a0.at_ 0 rfl
  have pa0_1 : W2.cell? ⟨W.heap.size, 1, none⟩ = some u01 := hy_a0.at_ 1 rfl
  clear hy_a0
  go_wp2_with fail
  clear pa0_0 pa0_1
  refine (toModel _ _ _ (ModA.on g0 c0) hs0).mono ?_
  rintro e W3 ⟨v, rfl, os0, hB3⟩
  obtain ⟨vss0, rfl, rs0⟩ := os0.read
  clear os0
  replace c0 := bgo c0 hB3
  replace c1 := bgo c1 hB3
  clear hB3
  go_wp2_with fail
  refine (sEncodeModel _ _ _ rs0 hs0).mono ?_
  rintro e W4 ⟨rfl, hB4⟩
  replace c0 := bgo c0 hB4
  replace c1 := bgo c1 hB4
  have c3 := hB4
  clear hB4
  have hy_a0 := HX_a0.out.below_ c1 (by omega)
  have pa0_0 : W4.cell? ⟨W.heap.size, 0, none⟩ = some u00 := hy_a0.at_ 0 rfl
  have pa0_1 : W4.cell? ⟨W.heap.size, 1, none⟩ = some u01 := hy_a0.at_ 1 rfl
  clear hy_a0
  go_wp2_with fail
  clear pa0_0 pa0_1
  clear c3
  refine (toModel _ _ _ (ModA.on g0 c0) hs0).mono ?_
  rintro e W5 ⟨v, rfl, oi0, hB5⟩
  obtain ⟨vsi0, rfl, ri0⟩ := oi0.read
  clear oi0
  obtain ⟨ia0, ic0, in0, io0, ip0, iq0, rfl⟩ := ri0.two
  replace c0 := bgo c0 hB5
  replace c1 := bgo c1 hB5
  clear hB5
  obtain ⟨W6, hW6⟩ : ∃ W6, W6 = W5.alloc (.cells #[.slice ia0 in0 io0, .slice ic0 ip0 iq0] 30) := ⟨_, rfl⟩
  have hB6 : Below W5.heap.size W5 W6 := by rw [hW6]; exact b_alloc _ _
  have zz6 : W6.heap.size = W5.heap.size + 1 := by rw [hW6, size_alloc_]
  have hx6 : TBlk 30 W6 W5.heap.size #[.slice ia0 in0 io0, .slice ic0 ip0 iq0] := by rw [hW6]; exact TBlk.new _ _ _
  have HX_x0 := Lib.hid hx6
  clear hx6
  replace c0 := bgo c0 hB6
  replace c1 := bgo c1 hB6
  have c5 := hB6
  clear hB6
  have hy_x0 := HX_x0.out
  have px0_0 : W6.cell? ⟨W5.heap.size, 0, none⟩ = some (.slice ia0 in0 io0) := hy_x0.at_ 0 rfl
  have px0_1 : W6.cell? ⟨W5.heap.size, 1, none⟩ = some (.slice ic0 ip0 iq0) := hy_x0.at_ 1 rfl
  clear hy_x0
  go_wp2_with fail
  rw [← hW6]
  clear hW6
  clear px0_0 px0_1
  have hself : ((bs (encM x0)).toList == (bs (encM x0)).toList) = true := beq_self_eq_true _
  refine (iEncodeModel _ _ _ (ModR.on ri0 c5) hs0 (hT.on c0)).mono ?_
  rintro e W7 ⟨rfl, hB7⟩
  replace c0 := bgo c0 hB7
  replace c1 := bgo c1 hB7
  replace c5 := bgo c5 hB7
  have c6 := hB7
  clear hB7
  have hy_x0 := HX_x0.out.below_ c6 (by omega)
  have px0_0 : W7.cell? ⟨W5.heap.size, 0, none⟩ = some (.slice ia0 in0 io0) := hy_x0.at_ 0 rfl
  have px0_1 : W7.cell? ⟨W5.heap.size, 1, none⟩ = some (.slice ic0 ip0 iq0) := hy_x0.at_ 1 rfl
  clear hy_x0
  have hy_a0 := HX_a0.out.below_ c1 (by omega)
  have pa0_0 : W7.cell? ⟨W.heap.size, 0, none⟩ = some u00 := hy_a0.at_ 0 rfl
  have pa0_1 : W7.cell? ⟨W.heap.size, 1, none⟩ = some u01 := hy_a0.at_ 1 rfl
  clear hy_a0
  go_wp2_with fail
  clear px0_0 px0_1 pa0_0 pa0_1
  have hS : ∀ w', Below W7.heap.size W7 w' → (w'.cell? ⟨W.heap.size, 0, none⟩ = some u00 ∧ w'.cell? ⟨W.heap.size, 1, none⟩ = some u01 ∧ w'.cell? ⟨W5.heap.size, 0, none⟩ = some (.slice ia0 in0 io0) ∧ w'.cell? ⟨W5.heap.size, 1, none⟩ = some (.slice ic0 ip0 iq0)) := by
    intro w' h
    have hya := c1.size
    have hyx := c6.size
    have ka := HX_a0.out.below_ (c1.trans (h.mono hya)) (by omega)
    have kx := HX_x0.out.below_ (c6.trans (h.mono hyx)) (by omega)
    exact ⟨ka.at_ 0 rfl, ka.at_ 1 rfl, kx.at_ 0 rfl, kx.at_ 1 rfl⟩
  have hbd : Below W7.heap.size W7 W7.drew := below_drewN (Below.refl _ _) 1
  have hS0 := hS _ hbd
  go_region_held3 (fun w' => w'.cell? ⟨W.heap.size, 0, none⟩ = some u00 ∧ w'.cell? ⟨W.heap.size, 1, none⟩ = some u01 ∧ w'.cell? ⟨W5.heap.size, 0, none⟩ = some (.slice ia0 in0 io0) ∧ w'.cell? ⟨W5.heap.size, 1, none⟩ = some (.slice ic0 ip0 iq0))
    (first | exact hS0 | exact hS _ hb8 | exact hS _ hb9)
    (first
      | (go_at_call 6
         refine (toModel _ _ _ (ModA.on g0 (bgo c0 hbd)) hs0).mono ?_
         rintro e Wq ⟨v, rfl, oe0, hBq⟩
         obtain ⟨vse0, rfl, re0⟩ := oe0.read
         clear oe0
         have hb8 := bgo hbd hBq
         clear hBq)
      | (go_at_call 8
         refine (eqModel _ _ _ _ _ (ModR.on ri0 (bgo c5 hb8)) re0).mono ?_
         rintro e W8 ⟨rfl, hBq⟩
         have hb9 := bgo hb8 hBq
         clear hBq))
  clear hS hS0 hbd hb8 re0
  replace c0 := bgo c0 hb9
  replace c1 := bgo c1 hb9
  replace c5 := bgo c5 hb9
  replace c6 := bgo c6 hb9
  clear hb9
  go_wp2_with fail
  clear c6
  go_ret
  exact ⟨rfl, c0⟩

theorem door_met (os : Os) (args : Array Value) : laidMetH Tryd.prog Rows.fnExactEncodeModelRow.laid ((World.doorLaid Tryd.prog 200 os).forCall (fun _ _ => 0) ⟨#[], args, []⟩).memory :=
  laidMetH_of_parts3 (fuel := 8) (laidMet_of_run' 8 (by kernel_rfl) (by kernel_rfl)) (by kernel_rfl) (by kernel_rfl)

theorem tab_of {W : World} (h : laidMetH Tryd.prog Rows.fnExactEncodeModelRow.laid W) : TabW W := by
  rw [MakeChecks.laidMetH_plain _ _ _ (by kernel_rfl)] at h
  have g1 : Tryd.prog.globalNamed "internal/strconv.uint64pow10" = some ((Tryd.prog.globalNamed "internal/strconv.uint64pow10").getD 0) := by kernel_rfl
  have h2 : laidMet Tryd.prog [("internal/strconv.uint64pow10", Lib.tabData .u64 Lib.pow10Tab)] W := laidMet.tail (laidMet.tail h)
  exact Lib.tabIs_of_head g1 (t := 97) (by kernel_rfl) Tryd.underlying97 Tryd.underlying88 (by kernel_rfl) (by kernel_rfl) h2

set_option maxRecDepth 100000 in
theorem lifted (os : Os) (started : os.Started) (H : Type) (enc : TypeId × Value → H) :
    ReturnsInHanded {} Tryd.checked os 3 .any (fun w args => (Rows.fnExactEncodeModelSpec.pre enc Tryd.prog Tryd.f3 [] false w args ∧ laidMetH Tryd.prog Rows.fnExactEncodeModelRow.laid w) ∧ sizedMet enc Tryd.prog Tryd.f3 (OpenSpec.ofChange Rows.fnExactEncodeModelSpec) false w args) (Rows.fnExactEncodeModelSpec.post enc Tryd.prog Tryd.f3 false true false false) := by
  refine returnsInHanded_of_change_and (C := Tryd.checked) (X := fun w _ => laidMetH Tryd.prog Rows.fnExactEncodeModelRow.laid w) (fun _ _ _ hh h => h.of_heap hh) own started (by kernel_rfl) Tryd.func3
    (ChangeSpec.witness_shaped (enc := enc) (C := Tryd.checked) (os := os) (X := fun w _ => laidMetH Tryd.prog Rows.fnExactEncodeModelRow.laid w) false (World.doorLaid Tryd.prog 200 os) #[.agg #[.slice none 0 0, .slice none 0 0]] 8 rfl (World.shaped_of_RefB (by kernel_rfl) (by kernel_rfl)) (by kernel_rfl) (by kernel_rfl) (by kernel_rfl) (door_met os _)) ?_
  intro W base args ds gs before hval0 hW _ _ hL _
  have hval : ∀ (j : Nat) t v, Tryd.f3.params[j]? = some t → args[j]? = some v → Value.okWide Tryd.prog W .any base t v := hval0
  have hW' := hW
  obtain ⟨p, q, hA0, hV, rfl, hfz, hnd⟩ := hW
  have hA : DataW.TrodAll enc Tryd.prog W 0 (fun _ => true) true Tryd.f3.params.toList args.toList ds p := hA0
  rw [Tryd.params3] at hA hval
  obtain ⟨v0, vs0, d0, ds0, p0, q0, hargs, rfl, rfl, h0, r0⟩ := trodAll_cons hA
  obtain ⟨rfl, rfl, rfl⟩ := trodAll_nil r0
  obtain rfl : args = #[v0] := by cases args; simp_all
  obtain ⟨rfl, rfl⟩ := trodVars_none hV
  have k0 := h0
  have l0 : ∀ x ∈ p0, x.block < W.heap.size := fun x hx => hW'.lt x (by simp [hx])
  obtain ⟨us0, x0, rfl, g0⟩ := open_model (hval 0 25 v0 rfl rfl) k0
  have hT := tab_of hL
  clear hA0 hval0
  refine (walk hT us0 x0 g0).mono fun e W' ⟨he, hb⟩ => ?_
  subst he
  exact ⟨_, rfl, _, _, _, [], _, [], hW', trodAll_cons_mk (p := []) (shut_bool Tryd.underlying4 _) trodAll_mk0, (trodAll_cons_mk (Below.trod laid (by kernel_rfl) (of_decide_eq_true (by kernel_rfl)) h0 hb l0) trodAll_mk0), rfl, hb.frame _, fun h => by cases h⟩

theorem over : Rows.fnExactEncodeModelRow.holds Tryd.pinned (OpenSpec.ofChange Rows.fnExactEncodeModelSpec) :=
  OpenClaim.holds_of_wide 3 Tryd.f3 rfl rfl rfl rfl rfl rfl rfl ⟨rfl, rfl, rfl, rfl, rfl⟩ rfl rfl rfl rfl rfl (by kernel_rfl) Tryd.func3 (by kernel_rfl)
    (of_decide_eq_true (by kernel_rfl)) (by unfold Func.isWrapper; first | (rw [if_pos (by decide +kernel)]; kernel_rfl) | (rw [if_neg (by decide +kernel)]; exact ⟨rfl, rfl⟩))
    (fun os started H enc _ => lifted os started H enc)

/-- The statement. -/
theorem proved : Rows.FnExactEncodeModelCardSaid :=
  Claim7.holds_tied_plain_at .later [] [.data, .data, .data] true Rows.fnExactEncodeModelCard.stood.harness false
    over (fun _ h => by cases h) (by kernel_rfl) (fun _ h => by cases h) fnExactEncodeModel_row_tie rfl ⟨rfl, rfl⟩ (by kernel_rfl) rfl
    (fun f fn hf hfn => by
      obtain rfl : f = 3 := Option.some.inj ((show Tryd.prog.funcNamed Rows.fnExactEncodeModelRow.func = some 3 by kernel_rfl).symm.trans hf) |>.symm
      obtain rfl : fn = Tryd.f3 := (Option.some.inj (Tryd.func3.symm.trans hfn)).symm
      exact ⟨by kernel_rfl, fun j t ht => by
        rw [Tryd.params3] at ht
        have hm : t ∈ [25] := by simpa using Array.mem_of_getElem? ht
        have hall : ([25].all fun u => !Tryd.prog.wantsStandIn u) = true := by kernel_rfl
        exact (show Tryd.prog.wantsStandIn t = false by simpa using List.all_eq_true.1 hall t hm)⟩)
    (by kernel_rfl)
#print axioms proved
end Go.Proofs.YtfoodlhfmcfjeaaDoor.fnExactEncodeModel
