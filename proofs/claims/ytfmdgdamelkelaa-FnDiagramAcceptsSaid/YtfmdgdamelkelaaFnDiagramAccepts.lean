/- FnDiagramAccepts: for every input the law returns true and its arguments read as before; no further condition. -/
import Derived.Test.YtfmdgdamelkelaaRows
import Derived.WalkKit
import Derived.ProofKit
import Derived.OpenShut
import Derived.Carry
import Derived.StillTailTactics
import Derived.Test.YtfmdgdamelkelaaHiFnDiagramAcceptsB
import Derived.Test.YtfmdgdamelkelaaPath
import Derived.Test.YtfmdgdamelkelaaDdoI
import Derived.Test.YtfmdgdamelkelaaDiag2
import Derived.Test.YtfmdgdamelkelaaOpenC
namespace Go.Proofs.Ytfmdgdamelkelaa.fnDiagramAccepts
open Go.ChangeShapes Go.WideShapes Go.ChangeAt Go.RowKit
open Go.Shelf
set_option linter.unusedVariables false
set_option maxRecDepth 100000

theorem own : ownKnob Try.prog.godebug = none := by kernel_rfl
theorem laid : laidOutB Try.prog = true := by kernel_rfl

theorem iDomainHas_b (d v : Int) (w : World) (b : Bool) (hb : (vdB d && dhB d v) = b) :
    Calls Try.prog 36 #[.int .i64 d, .int .i64 v] w fun e w' => e = .returned (.bool b) ∧ Below w.heap.size w w' := by
  subst hb
  refine (iDomainHas d v w).mono ?_
  rintro e w' ⟨rfl, rfl⟩
  exact ⟨rfl, Below.refl _ _⟩
set_option maxHeartbeats 16000000 in
theorem walk {W : World} (A0 : Option Addr) (n0 c0 : Nat) (xs0 : List Int) (g0 : CodeA W W.heap.size A0 n0 c0 xs0) :
    Calls Try.prog 6 #[.slice A0 n0 c0] W fun e w' => e = .returned (.bool true) ∧ Below W.heap.size W w' := by
  by_cases hlen : (1048576 : Int) < (n0 : Int)
  · have hd : decide ((1048576 : Int) < (n0 : Int)) = true := decide_eq_true hlen
    clear hlen
    go_enter Try.func6, Try.ntmps6
    go_wp2_with fail
    go_ret
    exact ⟨rfl, Below.refl _ _⟩
  have hd : decide ((1048576 : Int) < (n0 : Int)) = false := decide_eq_false hlen
  go_enter Try.func6, Try.ntmps6
  go_wp2_with fail
  refine (drawDiagramAccepts _ _ _ _ _ g0).mono ?_
  rintro e W1 ⟨v, vx, d, xs, rfl, hod, hsh, hxl, hxm, hox, c0⟩
  obtain ⟨A1, c1, rfl, hL⟩ := hod.lays
  have hL : LayersR W1 W1.heap.size A1 d.length d := hL
  obtain ⟨A2, c2, rfl, hX⟩ := hox.read
  have hd4 := hsh.1
  obtain ⟨n, hn⟩ : ∃ n, d.length = n := ⟨_, rfl⟩
  rw [hn] at hxl hL hd4
  rw [hxl] at hX
  rw [hn, hxl]
  have HL1 := Lib.hid hL
  have HX1 := Lib.hid hX
  have HB1 := Lib.hid c0
  have HN := Lib.hid hn
  have HXL := Lib.hid hxl
  have HXM := Lib.hid (show ∀ x ∈ xs, 0 ≤ x ∧ x ≤ 5 from fun x hx => by have := hxm x hx; omega)
  clear hod hsh hL hX hox hxm hxl hn c0
  go_wp2_with fail
  obtain ⟨ok, hok⟩ : ∃ ok, accF d xs = ok := ⟨_, rfl⟩
  obtain ⟨vd, hvd⟩ : ∃ vd, vdgF d = vd := ⟨_, rfl⟩
  have HOK := Lib.hid hok
  have HVD := Lib.hid hvd
  clear hok hvd
  have t1 : (ok == ok) = true := by simp
  have t2 : (vd == vd) = true := by simp
  refine (iDiagramAccepts _ _ _ _ _ _ d xs _ HL1.out HX1.out).mono ?_
  rintro e W2 ⟨rfl, hB⟩
  rw [HOK.out]
  have HL2 := Lib.hid (SlR.on (RowC.keeps (RowC.keeps IntC.keeps)) (RowC.widens (RowC.widens IntC.widens)) HL1.out hB)
  have HX2 := Lib.hid (IntR.on HX1.out hB)
  have HB2 := Lib.hid (bgo HB1.out hB)
  clear hB HL1 HX1 HB1
  go_wp2_with fail
  refine (sDiagramAccepts _ _ _ _ _ _ d xs _ HL2.out HX2.out).mono ?_
  rintro e W3 ⟨rfl, hB⟩
  rw [HOK.out]
  have HL3 := Lib.hid (SlR.on (RowC.keeps (RowC.keeps IntC.keeps)) (RowC.widens (RowC.widens IntC.widens)) HL2.out hB)
  have HX3 := Lib.hid (IntR.on HX2.out hB)
  have HB3 := Lib.hid (bgo HB2.out hB)
  clear hB HL2 HX2 HB2
  go_wp2_with fail
  refine (iValidDiagram _ _ _ d _ HL3.out).mono ?_
  rintro e W4 ⟨rfl, hB⟩
  rw [HVD.out]
  have HL4 := Lib.hid (SlR.on (RowC.keeps (RowC.keeps IntC.keeps)) (RowC.widens (RowC.widens IntC.widens)) HL3.out hB)
  have HX4 := Lib.hid (IntR.on HX3.out hB)
  have HB4 := Lib.hid (bgo HB3.out hB)
  clear hB HL3 HX3 HB3
  go_wp2_with fail
  refine (sValidDiagram _ _ _ d _ HL4.out).mono ?_
  rintro e W5 ⟨rfl, hB⟩
  rw [HVD.out]
  have HL5 := Lib.hid (SlR.on (RowC.keeps (RowC.keeps IntC.keeps)) (RowC.widens (RowC.widens IntC.widens)) HL4.out hB)
  have HX5 := Lib.hid (IntR.on HX4.out hB)
  have HB5 := Lib.hid (bgo HB4.out hB)
  clear hB HL4 HX4 HB4
  go_wp2_with fail
  refine (iValidDiagram _ _ _ d _ HL5.out).mono ?_
  rintro e W6 ⟨rfl, hB⟩
  rw [HVD.out]
  have HL6 := Lib.hid (SlR.on (RowC.keeps (RowC.keeps IntC.keeps)) (RowC.widens (RowC.widens IntC.widens)) HL5.out hB)
  have HX6 := Lib.hid (IntR.on HX5.out hB)
  have HB6 := Lib.hid (bgo HB5.out hB)
  clear hB HL5 HX5 HB5
  cases vd
  · go_wp2_with fail
    refine (sDiagramAccepts _ _ _ _ _ _ d xs _ HL6.out HX6.out).mono ?_
    rintro e W7 ⟨rfl, hB⟩
    rw [HOK.out]
    have HL7 := Lib.hid (SlR.on (RowC.keeps (RowC.keeps IntC.keeps)) (RowC.widens (RowC.widens IntC.widens)) HL6.out hB)
    have HX7 := Lib.hid (IntR.on HX6.out hB)
    have HB7 := Lib.hid (bgo HB6.out hB)
    clear hB HL6 HX6 HB6
    go_wp2_with fail
    refine (iValidDiagram _ _ _ d _ HL7.out).mono ?_
    rintro e W8 ⟨rfl, hB⟩
    rw [HVD.out]
    have HL8 := Lib.hid (SlR.on (RowC.keeps (RowC.keeps IntC.keeps)) (RowC.widens (RowC.widens IntC.widens)) HL7.out hB)
    have HX8 := Lib.hid (IntR.on HX7.out hB)
    have HB8 := Lib.hid (bgo HB7.out hB)
    clear hB HL7 HX7 HB7
    go_wp2_with fail
    refine (sValidDiagram _ _ _ d _ HL8.out).mono ?_
    rintro e W9 ⟨rfl, hB⟩
    rw [HVD.out]
    have HL9 := Lib.hid (SlR.on (RowC.keeps (RowC.keeps IntC.keeps)) (RowC.widens (RowC.widens IntC.widens)) HL8.out hB)
    have HX9 := Lib.hid (IntR.on HX8.out hB)
    have HB9 := Lib.hid (bgo HB8.out hB)
    clear hB HL8 HX8 HB8
    go_wp2_with fail
    go_ret
    exact ⟨rfl, HB9.out⟩
  · go_wp2_with fail
    go_loopw [6, 7] (fun t i wr => ∃ (k : Nat) (e : Int), k ≤ n ∧ i = .int .i64 k ∧ t = .int .i64 e ∧ -1 ≤ e ∧ Hid ((0 ≤ e → AccInv d xs k e.toNat) ∧ (e < 0 → ok = false)) ∧ Hid (Below W6.heap.size W6 wr)) (fun _ i _ => n - (intOf i).toNat)
    case atStart => exact ⟨0, 0, by omega, rfl, rfl, by omega, Lib.hid ⟨fun _ => acc_start xs HVD.out, fun h => absurd h (by omega)⟩, Lib.hid (Below.refl _ _)⟩
    case round =>
      obtain ⟨k, e, hk, rfl, rfl, he1, hI, hb⟩ := hrel
      rename World => wr
      by_cases hgo : k < n ∧ 0 ≤ e
      · obtain ⟨hlt, he0⟩ := hgo
        obtain ⟨a, rfl⟩ := Int.eq_ofNat_of_zero_le he0
        have hI2 := hI.out.1 he0
        have hLr := SlR.on (RowC.keeps (RowC.keeps IntC.keeps)) (RowC.widens (RowC.widens IntC.widens)) HL6.out hb.out
        have hXr := IntR.on HX6.out hb.out
        obtain ⟨ab, ao, l, u, rfl, hab, hlk, hcl, B1, d1, rfl, hl1⟩ := SlR.at_ hLr hlt
        obtain ⟨xb, xo, x, rfl, hxb, hxk, hcx⟩ := IntR.at_ hXr hlt
        have hx5 := HXM.out x (List.mem_of_getElem? hxk)
        obtain ⟨r, y, hr, hr6, hy, hE, hm, hN⟩ := acc_step HVD.out hI2 hlk hxk hx5
        have hal := (List.getElem?_eq_some_iff.1 hr).1
        obtain ⟨m, hm0⟩ : ∃ m : Nat, x = (m : Int) := ⟨x.toNat, by omega⟩
        have hm6 : m < 6 := by omega
        rw [hm0, Int.toNat_natCast] at hy
        obtain ⟨lb, lo, r', u, rfl, hlb, hr', hcr, A7, d7, rfl, hr1⟩ := SlR.at_ hl1 hal
        rw [hr'] at hr
        injection hr with hr
        subst hr
        rw [hr6] at hr1 hcr
        simp only [Int.toNat_natCast] at hcr
        obtain ⟨rb, ro, y', rfl, hrb, hy', hcy⟩ := IntR.at_ hr1 hm6
        rw [hy] at hy'
        injection hy' with hy'
        subst hy'
        have hll := hl1.le
        have HINV := Lib.hid (show (0 ≤ y → AccInv d xs (k + 1) y.toNat) ∧ (y < 0 → ok = false) from ⟨hN, fun h => by rw [← HOK.out]; exact acc_no HN.out hlt hE h⟩)
        rw [hm0] at hcx
        have hal' : a < l.length := by simpa using hal
        clear hx5 hlk hxk hr6 hy hE hN hI2 hl1 hr1 hm0 hLr hXr hal hI hr'
        go_wp2_with fail
        go_quiet (fail)
        go_wp2_with fail
        go_roundw
        case rel => exact ⟨k + 1, y, by omega, by go_num, rfl, hm, HINV, Lib.hid (below_drewN hb.out _)⟩
        case measure => simp [intOf]; omega
      · have HLr := Lib.hid (SlR.on (RowC.keeps (RowC.keeps IntC.keeps)) (RowC.widens (RowC.widens IntC.widens)) HL6.out hb.out)
        have HXr := Lib.hid (IntR.on HX6.out hb.out)
        by_cases he0 : 0 ≤ e
        · obtain rfl : k = n := by omega
          have hok : ok = true := by
            rw [← HOK.out]
            exact acc_end HVD.out (by rw [HXL.out, HN.out]) HXM.out (by rw [HN.out]; exact hI.out.1 he0)
          subst hok
          clear hI hgo
          go_wp2_with fail
          refine (iDiagramDomains _ _ _ d _ HLr.out).mono ?_
          rintro e7 W7 ⟨v, rfl, hh, hB⟩
          have hlen4 := dd_len HVD.out
          rw [HN.out] at hlen4
          obtain ⟨L, hL⟩ : ∃ L, ddF d = L := ⟨_, rfl⟩
          rw [hL] at hh hlen4
          rw [hlen4] at hh
          have HLd := Lib.hid hL
          obtain ⟨A5, c5, rfl, r5⟩ := IntR.of_hold hh (by omega)
          have HR7 := Lib.hid r5
          have HX7 := Lib.hid (IntR.on HXr.out hB)
          have HB7 := Lib.hid (bgo (bgo HB6.out hb.out) hB)
          clear hB hh r5 hL hlen4 HLr HXr hb HB6 HX6 HL6
          go_wp2_with fail
          go_loopw [9] (fun i wr => ∃ j : Nat, j ≤ k ∧ i = .int .i64 j ∧ Hid (Below W7.heap.size W7 wr)) (fun i _ => k - (intOf i).toNat)
          case atStart => exact ⟨0, by omega, rfl, Lib.hid (Below.refl _ _)⟩
          case round =>
            obtain ⟨j, hj, rfl, hb⟩ := hrel
            rename World => wq
            by_cases hlt2 : j < k
            · have hRk := IntR.on HR7.out hb.out
              have hXk := IntR.on HX7.out hb.out
              obtain ⟨ab, ao, y, rfl, hab, hyk, hcy⟩ := IntR.at_ hRk hlt2
              obtain ⟨xb, xo, x, rfl, hxb, hxk, hcx⟩ := IntR.at_ hXk hlt2
              have hyo : y = onF d j := by
                have h1 := dd_at HVD.out (i := j) (by rw [HN.out]; exact hlt2)
                rw [HLd.out, hyk] at h1
                injection h1
              have HHAS := Lib.hid (show (vdB y && dhB y x) = true by rw [hyo]; exact acc_has HOK.out hxk)
              have q0 : ∀ p : Later wq, p.val.cell? ⟨ab, ao + j, none⟩ = some (.int .i64 y) := fun p => p.cell (by omega) hcy
              have r0 : ∀ p : Later wq, p.val.cell? ⟨xb, xo + j, none⟩ = some (.int .i64 x) := fun p => p.cell (by omega) hcx
              clear hRk hXk hyk hxk hyo
              go_wp2_with fail
              refine wp_region_later (by kernel_rfl) (by kernel_rfl) ?_
              repeat (go_big_quiet_step (first | (go_at_call 36; exact calls_later (iDomainHas_b _ _ _ _ HHAS.out))))
              refine wpQuiet_nil ?_
              intro w5 hw'
              obtain ⟨⟨w6, hb5⟩, hw''⟩ := hw'
              subst hw''
              go_wp2_with fail
              go_roundw
              case rel => exact ⟨j + 1, by omega, by go_num, Lib.hid (bgo hb.out hb5)⟩
              case measure => simp [intOf]; omega
            · obtain rfl : j = k := by omega
              go_wp2_with fail
              go_ret
              exact ⟨rfl, bgo HB7.out hb.out⟩
        · have hok : ok = false := hI.out.2 (by omega)
          subst hok
          clear hI
          have he0f : decide (0 ≤ e) = false := decide_eq_false he0
          have he0g : decide (e ≥ 0) = false := decide_eq_false he0
          by_cases hlt : k < n
          · go_wp2_with fail
            refine (iDiagramDomains _ _ _ d _ HLr.out).mono ?_
            rintro e7 W7 ⟨v, rfl, hh, hB⟩
            have hlen4 := dd_len HVD.out
            rw [HN.out] at hlen4
            obtain ⟨L, hL⟩ : ∃ L, ddF d = L := ⟨_, rfl⟩
            rw [hL] at hh hlen4
            rw [hlen4] at hh
            have HLd := Lib.hid hL
            obtain ⟨A5, c5, rfl, r5⟩ := IntR.of_hold hh (by omega)
            have HR7 := Lib.hid r5
            have HX7 := Lib.hid (IntR.on HXr.out hB)
            have HB7 := Lib.hid (bgo (bgo HB6.out hb.out) hB)
            clear hB hh r5 hL hlen4 HLr HXr hb HB6 HX6 HL6
            go_wp2_with fail
            go_loopw [9] (fun i wr => ∃ j : Nat, j ≤ n ∧ i = .int .i64 j ∧ Hid (Below W7.heap.size W7 wr)) (fun i _ => n - (intOf i).toNat)
            case atStart => exact ⟨0, by omega, rfl, Lib.hid (Below.refl _ _)⟩
            case round =>
              obtain ⟨j, hj, rfl, hb⟩ := hrel
              rename World => wq
              by_cases hlt2 : j < n
              · go_wp2_with fail
                go_quiet (fail)
                go_wp2_with fail
                go_roundw
                case rel => exact ⟨j + 1, by omega, by go_num, Lib.hid (below_drewN hb.out _)⟩
                case measure => simp [intOf]; omega
              · obtain rfl : j = n := by omega
                go_wp2_with fail
                go_ret
                exact ⟨rfl, bgo HB7.out hb.out⟩
          · go_wp2_with fail
            refine (iDiagramDomains _ _ _ d _ HLr.out).mono ?_
            rintro e7 W7 ⟨v, rfl, hh, hB⟩
            have hlen4 := dd_len HVD.out
            rw [HN.out] at hlen4
            obtain ⟨L, hL⟩ : ∃ L, ddF d = L := ⟨_, rfl⟩
            rw [hL] at hh hlen4
            rw [hlen4] at hh
            have HLd := Lib.hid hL
            obtain ⟨A5, c5, rfl, r5⟩ := IntR.of_hold hh (by omega)
            have HR7 := Lib.hid r5
            have HX7 := Lib.hid (IntR.on HXr.out hB)
            have HB7 := Lib.hid (bgo (bgo HB6.out hb.out) hB)
            clear hB hh r5 hL hlen4 HLr HXr hb HB6 HX6 HL6
            go_wp2_with fail
            go_loopw [9] (fun i wr => ∃ j : Nat, j ≤ n ∧ i = .int .i64 j ∧ Hid (Below W7.heap.size W7 wr)) (fun i _ => n - (intOf i).toNat)
            case atStart => exact ⟨0, by omega, rfl, Lib.hid (Below.refl _ _)⟩
            case round =>
              obtain ⟨j, hj, rfl, hb⟩ := hrel
              rename World => wq
              by_cases hlt2 : j < n
              · go_wp2_with fail
                go_quiet (fail)
                go_wp2_with fail
                go_roundw
                case rel => exact ⟨j + 1, by omega, by go_num, Lib.hid (below_drewN hb.out _)⟩
                case measure => simp [intOf]; omega
              · obtain rfl : j = n := by omega
                go_wp2_with fail
                go_ret
                exact ⟨rfl, bgo HB7.out hb.out⟩

set_option maxRecDepth 100000 in
theorem lifted (os : Os) (started : os.Started) (H : Type) (enc : TypeId × Value → H) :
    ReturnsInHanded {} Try.checked os 6 .any (Rows.fnDiagramAcceptsSpec.pre6 enc Try.prog Try.f6 Rows.fnDiagramAcceptsRow.domain false) (Rows.fnDiagramAcceptsSpec.post enc Try.prog Try.f6 false true false false) := by
  refine returnsInHanded_of_change (C := Try.checked) own started (by kernel_rfl) Try.func6
    (ChangeSpec.witness6 (enc := enc) (C := Try.checked) false ⟨#[], #[.slice none 0 0], []⟩ 8 (by kernel_rfl) (by kernel_rfl) (by kernel_rfl) (by kernel_rfl)) ?_
  intro W base args ds gs before hval0 hW hcnd _
  have hval : ∀ (j : Nat) t v, Try.f6.params[j]? = some t → args[j]? = some v → Value.okWide Try.prog W .any base t v := hval0
  have hW' := hW
  obtain ⟨p, q, hA0, hV, rfl, hfz, hnd⟩ := hW
  have hA : DataW.TrodAll enc Try.prog W 0 (fun _ => true) true Try.f6.params.toList args.toList ds p := hA0
  rw [Try.params6] at hA hval
  obtain ⟨v0, vs0, d0, ds0, p0, q0, hargs, rfl, rfl, h0, r0⟩ := trodAll_cons hA
  obtain ⟨rfl, rfl, rfl⟩ := trodAll_nil r0
  obtain rfl : args = #[v0] := by cases args; simp_all
  obtain ⟨rfl, rfl⟩ := trodVars_none hV
  have k0 := h0
  have l0 : ∀ x ∈ p0, x.block < W.heap.size := fun x hx => hW'.lt x (by simp [hx])
  obtain ⟨A0, n0, c0, xs0, rfl, g0⟩ := open_byteS Try.underlying39 Try.underlying5 (by kernel_rfl) (hval 0 39 v0 rfl rfl) k0
  clear hA0 hval0
  refine (walk A0 n0 c0 xs0 g0).mono fun e W' ⟨he, hb⟩ => ?_
  subst he
  exact ⟨_, rfl, _, _, _, [], _, [], hW', trodAll_cons_mk (p := []) (shut_bool Try.underlying4 _) trodAll_mk0, (trodAll_cons_mk (Below.trod laid (by kernel_rfl) (of_decide_eq_true (by kernel_rfl)) h0 hb l0) trodAll_mk0), rfl, hb.frame _, fun h => by cases h⟩

theorem over : Rows.fnDiagramAcceptsRow.holds Try.pinned (OpenSpec.ofChange Rows.fnDiagramAcceptsSpec) :=
  OpenClaim.holds_of_wide 6 Try.f6 rfl rfl rfl rfl rfl rfl rfl ⟨rfl, rfl, rfl, rfl, rfl⟩ rfl rfl rfl rfl rfl (by kernel_rfl) Try.func6 (by kernel_rfl)
    (of_decide_eq_true (by kernel_rfl)) (by unfold Func.isWrapper; first | (rw [if_pos (by decide +kernel)]; kernel_rfl) | (rw [if_neg (by decide +kernel)]; exact ⟨rfl, rfl⟩))
    (fun os started H enc _ => lifted os started H enc)

/-- The statement. -/
theorem proved : Rows.FnDiagramAcceptsSaid :=
  over
#print axioms proved
end Go.Proofs.Ytfmdgdamelkelaa.fnDiagramAccepts
