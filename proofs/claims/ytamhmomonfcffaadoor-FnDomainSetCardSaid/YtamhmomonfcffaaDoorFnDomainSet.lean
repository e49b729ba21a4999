/- FnDomainSet: for every input the law returns true and its arguments read as before; no further condition. -/
import Derived.Test.YtamhmomonfcffaaDoorRows
import Derived.WalkKit
import Derived.ProofKit
import Derived.OpenShut
import Derived.Carry
import Derived.StillTailTactics
import Derived.LaidMore
import Derived.Lib.LaidTab
import Derived.Stop.LaidErr
import Derived.SevenTiedAt
import Derived.Test.YtamhmomonfcffaaDoorTie
import Derived.Test.YtamhmomonfcffaaDoorCards
import Derived.Test.YtamhmomonfcffaaDoorBnd
import Derived.Test.YtamhmomonfcffaaDoorOpen
import Derived.Test.YtamhmomonfcffaaDoorDrawA
namespace Go.Proofs.YtamhmomonfcffaaDoor.fnDomainSet
open Go.ChangeShapes Go.WideShapes Go.ChangeAt Go.RowKit
open Go.Shelf
set_option linter.unusedVariables false
set_option maxRecDepth 100000

theorem own : ownKnob Tryd.prog.godebug = none := by kernel_rfl
theorem laid : laidOutB Tryd.prog = true := by kernel_rfl

theorem dbF_ends {d : Int} (hv : vdB d = true) (h0 : (dvF d).length = 0) : dbF d = (-1, -1) ∧ dsF d = 0 := by
  obtain ⟨y, rfl⟩ := vdB_fin hv
  have e : dvF (y.val : Int) = valsTo y.val 6 := by simp [dvF, hv]
  rw [e] at h0
  have hy := vals_nil y h0
  have hy0 : (y.val : Int) = 0 := by omega
  rw [hy0]
  decide +kernel
theorem dbF_ends2 {d : Int} (hv : vdB d = true) (h0 : (dvF d).length ≠ 0) : ∃ m : Nat, m ≤ 5 ∧ (dvF d).length = m + 1 ∧ (dvF d)[0]? = some (dbF d).1 ∧ (dvF d)[m]? = some (dbF d).2 ∧ dsF d = ((m + 1 : Nat) : Int) := by
  obtain ⟨y, rfl⟩ := vdB_fin hv
  have e : dvF (y.val : Int) = valsTo y.val 6 := by simp [dvF, hv]
  rw [e] at h0 ⊢
  have hy : 0 < y.val := by
    rcases Nat.eq_zero_or_pos y.val with h | h
    · exfalso; apply h0; rw [h]; decide +kernel
    · exact h
  obtain ⟨k, h1, h2, h3⟩ := vals_ends y hy
  have e2 : dbF (y.val : Int) = (leastF y.val, mostF y.val) := by
    unfold dbF
    rw [hv, if_pos (by simp; omega)]
  refine ⟨k.val, by omega, h1, by rw [e2]; exact h2, by rw [e2]; exact h3, ?_⟩
  unfold dsF szD
  rw [hv, if_pos rfl, h1]
theorem has_all {d : Int} (hv : vdB d = true) (v : Int) (h0 : -1 ≤ v) (h1 : v ≤ 6) : (vdB d && dhB d v) = decide (v ∈ dvF d) := by
  obtain ⟨y, rfl⟩ := vdB_fin hv
  have e : dvF (y.val : Int) = valsTo y.val 6 := by simp [dvF, hv]
  rw [e]
  have := vals_has y ⟨(v + 1).toNat, by omega⟩
  have e2 : (((v + 1).toNat : Nat) : Int) - 1 = v := by omega
  simp only [e2] at this
  exact this
set_option maxHeartbeats 4000000 in
theorem walk {W : World} (hT : TabW W) (A0 : Option Addr) (n0 c0 : Nat) (xs0 : List Int) (g0 : CodeA W W.heap.size A0 n0 c0 xs0) :
    Calls Tryd.prog 4 #[.slice A0 n0 c0] W fun e w' => e = .returned (.bool true) ∧ Below W.heap.size W w' := by
  by_cases hlen : (1048576 : Int) < (n0 : Int)
  · have hd : decide ((1048576 : Int) < (n0 : Int)) = true := decide_eq_true hlen
    clear hlen
    go_enter Tryd.func4, Tryd.ntmps4
    go_wp2_with fail
    go_ret
    exact ⟨rfl, Below.refl _ _⟩
  have hd : decide ((1048576 : Int) < (n0 : Int)) = false := decide_eq_false hlen
  go_enter Tryd.func4, Tryd.ntmps4
  go_wp2_with fail
  refine (drawDomainValues _ _ _ _ _ g0).mono ?_
  rintro e W1 ⟨d, rfl, hl, hB1⟩
  go_wp2_with fail
  refine (iDomainValues _ _).mono ?_
  rintro e W2 ⟨v1, rfl, o1, hB2⟩
  have hlv := dvF_len d
  obtain ⟨A1, c1, rfl, r1, -⟩ := IntR.of_own o1 (by omega)
  have c01 := bgo hB1 hB2
  clear o1 hB1 hB2
  go_wp2_with fail
  refine (iDomainBounds _ _ (hT.on c01)).mono ?_
  rintro e W3 ⟨rfl, hB3⟩
  replace c01 := bgo c01 hB3
  replace r1 := IntR.on r1 hB3
  clear hB3
  go_wp2_with fail
  refine (sDomainValues _ _).mono ?_
  rintro e W4 ⟨v2, rfl, o2, hB4⟩
  obtain ⟨A2, c2, rfl, r2, -⟩ := IntR.of_own o2 (by omega)
  replace c01 := bgo c01 hB4
  replace r1 := IntR.on r1 hB4
  clear o2 hB4
  go_wp2_with fail
  refine (lequalInts _ _ _ _ _ _ _ _ _ r1 r2).mono ?_
  rw [decide_eq_true rfl]
  rintro e W5 ⟨rfl, hB5⟩
  replace c01 := bgo c01 hB5
  replace r1 := IntR.on r1 hB5
  clear hB5 r2
  go_wp2_with fail
  refine (iValidDomain _ _).mono ?_
  rintro e w' ⟨rfl, rfl⟩
  go_wp2_with fail
  refine (sValidDomain _ _).mono ?_
  rintro e w' ⟨rfl, rfl⟩
  cases hv : vdB d
  · have HV := Lib.hid hv
    clear hv
    go_wp2_with fail
    refine (iValidDomain _ _).mono ?_
    rw [HV.out]
    rintro e w' ⟨rfl, rfl⟩
    go_wp2_with fail
    refine (sDomainValues _ _).mono ?_
    rintro e W6 ⟨v2, rfl, o2, hB4⟩
    obtain ⟨A2, c2, rfl, r2, -⟩ := IntR.of_own o2 (by omega)
    replace c01 := bgo c01 hB4
    replace r1 := IntR.on r1 hB4
    clear o2 hB4
    go_wp2_with fail
    refine (lequalInts _ _ _ _ _ _ _ _ _ r1 r2).mono ?_
    rw [decide_eq_true rfl]
    rintro e W7 ⟨rfl, hB5⟩
    replace c01 := bgo c01 hB5
    clear hB5 r2 r1
    go_wp2_with fail
    refine (iValidDomain _ _).mono ?_
    rw [HV.out]
    rintro e w' ⟨rfl, rfl⟩
    go_wp2_with fail
    refine (sValidDomain _ _).mono ?_
    rw [HV.out]
    rintro e w' ⟨rfl, rfl⟩
    go_wp2_with fail
    go_ret
    exact ⟨rfl, c01⟩
  · have HV := Lib.hid hv
    clear hv
    go_wp2_with fail
    refine (iValidDomain _ _).mono ?_
    rw [HV.out]
    rintro e w' ⟨rfl, rfl⟩
    go_wp2_with fail
    go_loop [7] (fun t => ∃ k : Nat, k ≤ 8 ∧ t = .int .i64 ((k : Int) - 1)) (fun t => (7 - intOf t).toNat)
    case atStart => exact ⟨0, by omega, rfl⟩
    case round =>
      obtain ⟨k, hk, rfl⟩ := hrel
      obtain ⟨v, hvk⟩ : ∃ v : Int, v = (k : Int) - 1 := ⟨_, rfl⟩
      rw [← hvk]
      have hv0 : -1 ≤ v := by omega
      have hv7 : v ≤ 7 := by omega
      have HVK := Lib.hid hvk
      clear hvk
      by_cases hlt : v ≤ 6
      · have hh := has_all HV.out v hv0 hlt
        have HH := Lib.hid hh
        clear hh
        go_wp2_with fail
        refine (iDomainHas _ _ _).mono ?_
        rw [HH.out]
        rintro e w' ⟨rfl, rfl⟩
        go_wp2_with fail
        refine (lcontains _ _ _ _ _ _ r1).mono ?_
        rintro e w' ⟨rfl, rfl⟩
        go_wp2_with fail
        go_round
        case rel => exact ⟨k + 1, by have := HVK.out; omega, by have := HVK.out; rw [show ((k + 1 : Nat) : Int) - 1 = v + 1 by omega]⟩
        case measure => simp [intOf]; omega
      · by_cases h0 : (dvF d).length = 0
        · have hh := dbF_ends HV.out h0
          obtain ⟨e1, e2⟩ := hh
          have hn0 : (((dvF d).length : Int) == 0) = true := by rw [h0]; rfl
          have E1 := Lib.hid e1
          have E2 := Lib.hid e2
          have e1a : (dbF d).1 = -1 := by rw [e1]
          have e1b : (dbF d).2 = -1 := by rw [e1]
          clear e1 e2 h0
          go_wp2_with fail
          refine (iDomainSize _ _).mono ?_
          rw [E2.out]
          rintro e W8 ⟨rfl, hB8⟩
          go_wp2_with fail
          go_ret
          exact ⟨rfl, bgo c01 hB8⟩
        · obtain ⟨m, hm5, hm, hx0, hxm, hs⟩ := dbF_ends2 HV.out h0
          have HM := Lib.hid hm
          have HX0 := Lib.hid hx0
          have HXM := Lib.hid hxm
          have HS := Lib.hid hs
          have r2 := r1
          rw [hm] at r2
          clear h0 hx0 hxm hs r1
          have hn0 : ((((m + 1 : Nat)) : Int) == 0) = false := by simp; omega
          obtain ⟨bb, bo, x0, rfl, hbb, hx, hc0⟩ := IntR.at_ r2 (k := 0) (by omega)
          rw [HX0.out] at hx
          injection hx with hx
          obtain ⟨bb', bo', x1, e1, hbb', hx', hc1⟩ := IntR.at_ r2 (k := m) (by omega)
          injection e1 with e1
          injection e1 with e1 e3
          subst e1 e3
          rw [HXM.out] at hx'
          injection hx' with hx'
          rw [Nat.add_zero] at hc0
          rw [← hx] at hc0
          rw [← hx'] at hc1
          clear hx hx' hlv
          rw [hm]
          clear hm
          go_wp2_with fail
          refine (iDomainSize _ _).mono ?_
          rw [HS.out]
          rintro e W8 ⟨rfl, hB8⟩
          go_wp2_with fail
          go_ret
          exact ⟨rfl, bgo c01 hB8⟩

theorem door_met (os : Os) (args : Array Value) : laidMetH Tryd.prog Rows.fnDomainSetRow.laid ((World.doorLaid Tryd.prog 19 os).forCall (fun _ _ => 0) ⟨#[], args, []⟩).memory :=
  laidMetH_of_parts3 (fuel := 8) (laidMet_of_run' 8 (by kernel_rfl) (by kernel_rfl)) (by kernel_rfl) (by kernel_rfl)
theorem tab_of {W : World} (h : laidMetH Tryd.prog Rows.fnDomainSetRow.laid W) : TabW W := by
  rw [MakeChecks.laidMetH_plain _ _ _ (by kernel_rfl)] at h
  have g1 : Tryd.prog.globalNamed "math/bits.deBruijn64tab" = some 1 := by kernel_rfl
  have h2 : laidMet Tryd.prog [("math/bits.deBruijn64tab", Lib.tabData .u8 dbTab)] W := laidMet.tail h
  have hT := Lib.tabIs_of_head g1 (t := 49) (by kernel_rfl) Tryd.underlying49 Tryd.underlying5 (by kernel_rfl) (by kernel_rfl) h2
  have hc := fun i hi => hT.cell g1 i hi
  exact ⟨hc, cell_lt (hc 0 (by decide))⟩

set_option maxRecDepth 100000 in
theorem lifted (os : Os) (started : os.Started) (H : Type) (enc : TypeId × Value → H) :
    ReturnsInHanded {} Tryd.checked os 4 .any (fun w args => (Rows.fnDomainSetSpec.pre enc Tryd.prog Tryd.f4 [] false w args ∧ laidMetH Tryd.prog Rows.fnDomainSetRow.laid w) ∧ sizedMet enc Tryd.prog Tryd.f4 (OpenSpec.ofChange Rows.fnDomainSetSpec) false w args) (Rows.fnDomainSetSpec.post enc Tryd.prog Tryd.f4 false true false false) := by
  refine returnsInHanded_of_change_and (C := Tryd.checked) (X := fun w _ => laidMetH Tryd.prog Rows.fnDomainSetRow.laid w) (fun _ _ _ hh h => h.of_heap hh) own started (by kernel_rfl) Tryd.func4
    (ChangeSpec.witness_shaped (enc := enc) (C := Tryd.checked) (os := os) (X := fun w _ => laidMetH Tryd.prog Rows.fnDomainSetRow.laid w) false (World.doorLaid Tryd.prog 19 os) #[.slice none 0 0] 8 rfl (World.shaped_of_RefB (by kernel_rfl) (by kernel_rfl)) (by kernel_rfl) (by kernel_rfl) (by kernel_rfl) (door_met os _)) ?_
  intro W base args ds gs before hval0 hW _ _ hL _
  have hval : ∀ (j : Nat) t v, Tryd.f4.params[j]? = some t → args[j]? = some v → Value.okWide Tryd.prog W .any base t v := hval0
  have hW' := hW
  obtain ⟨p, q, hA0, hV, rfl, hfz, hnd⟩ := hW
  have hA : DataW.TrodAll enc Tryd.prog W 0 (fun _ => true) true Tryd.f4.params.toList args.toList ds p := hA0
  rw [Tryd.params4] at hA hval
  obtain ⟨v0, vs0, d0, ds0, p0, q0, hargs, rfl, rfl, h0, r0⟩ := trodAll_cons hA
  obtain ⟨rfl, rfl, rfl⟩ := trodAll_nil r0
  obtain rfl : args = #[v0] := by cases args; simp_all
  obtain ⟨rfl, rfl⟩ := trodVars_none hV
  have k0 := h0
  have l0 : ∀ x ∈ p0, x.block < W.heap.size := fun x hx => hW'.lt x (by simp [hx])
  obtain ⟨A0, n0, c0, xs0, rfl, g0⟩ := open_byteS Tryd.underlying25 Tryd.underlying5 (by kernel_rfl) (hval 0 25 v0 rfl rfl) k0
  have hT := tab_of hL
  clear hA0 hval0
  refine (walk hT A0 n0 c0 xs0 g0).mono fun e W' ⟨he, hb⟩ => ?_
  subst he
  exact ⟨_, rfl, _, _, _, [], _, [], hW', trodAll_cons_mk (p := []) (shut_bool Tryd.underlying4 _) trodAll_mk0, (trodAll_cons_mk (Below.trod laid (by kernel_rfl) (of_decide_eq_true (by kernel_rfl)) h0 hb l0) trodAll_mk0), rfl, hb.frame _, fun h => by cases h⟩

theorem over : Rows.fnDomainSetRow.holds Tryd.pinned (OpenSpec.ofChange Rows.fnDomainSetSpec) :=
  OpenClaim.holds_of_wide 4 Tryd.f4 rfl rfl rfl rfl rfl rfl rfl ⟨rfl, rfl, rfl, rfl, rfl⟩ rfl rfl rfl rfl rfl (by kernel_rfl) Tryd.func4 (by kernel_rfl)
    (of_decide_eq_true (by kernel_rfl)) (by unfold Func.isWrapper; first | (rw [if_pos (by decide +kernel)]; kernel_rfl) | (rw [if_neg (by decide +kernel)]; exact ⟨rfl, rfl⟩))
    (fun os started H enc _ => lifted os started H enc)

/-- The statement. -/
theorem proved : Rows.FnDomainSetCardSaid :=
  Claim7.holds_tied_plain_at .later [] [.data, .data] true Rows.fnDomainSetCard.stood.harness false
    over (fun _ h => by cases h) (by kernel_rfl) (fun _ h => by cases h) fnDomainSet_row_tie rfl ⟨rfl, rfl⟩ (by kernel_rfl) rfl
    (fun f fn hf hfn => by
      obtain rfl : f = 4 := Option.some.inj ((show Tryd.prog.funcNamed Rows.fnDomainSetRow.func = some 4 by kernel_rfl).symm.trans hf) |>.symm
      obtain rfl : fn = Tryd.f4 := (Option.some.inj (Tryd.func4.symm.trans hfn)).symm
      exact ⟨by kernel_rfl, fun j t ht => by
        rw [Tryd.params4] at ht
        have hm : t ∈ [25] := by simpa using Array.mem_of_getElem? ht
        have hall : ([25].all fun u => !Tryd.prog.wantsStandIn u) = true := by kernel_rfl
        exact (show Tryd.prog.wantsStandIn t = false by simpa using List.all_eq_true.1 hall t hm)⟩)
    (by kernel_rfl)
#print axioms proved
end Go.Proofs.YtamhmomonfcffaaDoor.fnDomainSet
