/- FnDiagramCount: for every input the law returns true and its arguments read as before; no further condition. -/
import Derived.Test.YtfmdgdamelkelaaRows
import Derived.WalkKit
import Derived.ProofKit
import Derived.OpenShut
import Derived.Carry
import Derived.StillTailTactics
import Derived.Test.YtfmdgdamelkelaaHiFnDiagramCountB
import Derived.Test.YtfmdgdamelkelaaPath
import Derived.Test.YtfmdgdamelkelaaDdoI
import Derived.Test.YtfmdgdamelkelaaDvals
import Derived.Test.YtfmdgdamelkelaaOpenC
namespace Go.Proofs.Ytfmdgdamelkelaa.fnDiagramCount
open Go.ChangeShapes Go.WideShapes Go.ChangeAt Go.RowKit
open Go.Shelf
set_option linter.unusedVariables false
set_option maxRecDepth 100000

theorem own : ownKnob Try.prog.godebug = none := by kernel_rfl
theorem laid : laidOutB Try.prog = true := by kernel_rfl

set_option maxHeartbeats 8000000 in
theorem walk {W : World} (A0 : Option Addr) (n0 c0 : Nat) (xs0 : List Int) (g0 : CodeA W W.heap.size A0 n0 c0 xs0) :
    Calls Try.prog 7 #[.slice A0 n0 c0] W fun e w' => e = .returned (.bool true) ∧ Below W.heap.size W w' := by
  by_cases hlen : (1048576 : Int) < (n0 : Int)
  · have hd : decide ((1048576 : Int) < (n0 : Int)) = true := decide_eq_true hlen
    clear hlen
    go_enter Try.func7, Try.ntmps7
    go_wp2_with fail
    go_ret
    exact ⟨rfl, Below.refl _ _⟩
  have hd : decide ((1048576 : Int) < (n0 : Int)) = false := decide_eq_false hlen
  go_enter Try.func7, Try.ntmps7
  go_wp2_with fail
  refine (drawDiagramCount _ _ _ _ _ g0).mono ?_
  rintro e W1 ⟨v, d, rfl, hod, hsh, c0⟩
  obtain ⟨A1, c1, rfl, hL⟩ := hod.lays
  have hL : LayersR W1 W1.heap.size A1 d.length d := hL
  have HL1 := Lib.hid hL
  have HB1 := Lib.hid c0
  have hd4 := hsh.1
  clear hod hsh hL c0
  go_wp2_with fail
  refine (iDiagramCount _ _ _ d _ HL1.out).mono ?_
  rintro e W2 ⟨rfl, hB⟩
  obtain ⟨N, hN⟩ : ∃ N, dcF d = N := ⟨_, rfl⟩
  rw [hN]
  have HN := Lib.hid hN
  clear hN
  have HL2 := Lib.hid (SlR.on (RowC.keeps (RowC.keeps IntC.keeps)) (RowC.widens (RowC.widens IntC.widens)) HL1.out hB)
  have HB2 := Lib.hid (bgo HB1.out hB)
  clear hB HL1 HB1
  go_wp2_with fail
  refine (iDiagramDomains _ _ _ d _ HL2.out).mono ?_
  rintro e W3 ⟨v, rfl, hh, hB⟩
  have hlen4 := ddF_len d
  obtain ⟨L, hL⟩ : ∃ L, ddF d = L := ⟨_, rfl⟩
  rw [hL] at hh hlen4
  have HL := Lib.hid hL
  clear hL
  obtain ⟨nL, hnL⟩ : ∃ nL, L.length = nL := ⟨_, rfl⟩
  rw [hnL] at hh hlen4
  have HNL := Lib.hid hnL
  clear hnL
  obtain ⟨A5, c5, rfl, r5⟩ := IntR.of_hold hh (by omega)
  have HL3 := Lib.hid (SlR.on (RowC.keeps (RowC.keeps IntC.keeps)) (RowC.widens (RowC.widens IntC.widens)) HL2.out hB)
  have HB3 := Lib.hid (bgo HB2.out hB)
  have HR3 := Lib.hid r5
  clear hB hh HL2 HB2 r5
  have tN : (N != N) = false := by simp
  have tN2 : (N == N) = true := by simp
  go_wp2_with fail
  refine (sDiagramCount _ _ _ d _ HL3.out).mono ?_
  rintro e W4 ⟨rfl, hB⟩
  rw [HN.out]
  have HL4 := Lib.hid (SlR.on (RowC.keeps (RowC.keeps IntC.keeps)) (RowC.widens (RowC.widens IntC.widens)) HL3.out hB)
  have HB4 := Lib.hid (bgo HB3.out hB)
  have HR4 := Lib.hid (IntR.on HR3.out hB)
  clear hB HL3 HB3 HR3
  go_wp2_with fail
  refine (sDiagramDomains _ _ _ d _ HL4.out).mono ?_
  rintro e W5 ⟨v, rfl, ow, hB⟩
  replace ow := HoldR.of_own ow
  rw [HL.out, HNL.out] at ow
  obtain ⟨A6, c6, rfl, r6⟩ := IntR.of_hold ow (by omega)
  have HL5 := Lib.hid (SlR.on (RowC.keeps (RowC.keeps IntC.keeps)) (RowC.widens (RowC.widens IntC.widens)) HL4.out hB)
  have HB5 := Lib.hid (bgo HB4.out hB)
  have HR5 := Lib.hid (IntR.on HR4.out hB)
  have HQ5 := Lib.hid r6
  clear hB ow HL4 HB4 HR4 r6
  go_wp2_with fail
  refine (lequalInts _ _ _ _ _ _ L L _ HR5.out HQ5.out).mono ?_
  rintro e W6 ⟨rfl, hB⟩
  rw [show decide (L = L) = true from decide_eq_true rfl]
  have HL6 := Lib.hid (SlR.on (RowC.keeps (RowC.keeps IntC.keeps)) (RowC.widens (RowC.widens IntC.widens)) HL5.out hB)
  have HB6 := Lib.hid (bgo HB5.out hB)
  have HR6 := Lib.hid (IntR.on HR5.out hB)
  clear hB HL5 HB5 HR5 HQ5
  cases hv : vdgF d
  · have tn : decide (N < 0) = true := by
      have := HN.out
      unfold dcF at this
      rw [hv] at this
      exact decide_eq_true (by simp at this; omega)
    clear hv
    go_wp2_with fail
    refine (sDiagramCount _ _ _ d _ HL6.out).mono ?_
    rintro e W7 ⟨rfl, hB⟩
    rw [HN.out]
    have HL7 := Lib.hid (SlR.on (RowC.keeps (RowC.keeps IntC.keeps)) (RowC.widens (RowC.widens IntC.widens)) HL6.out hB)
    have HB7 := Lib.hid (bgo HB6.out hB)
    have HR7 := Lib.hid (IntR.on HR6.out hB)
    clear hB HL6 HB6 HR6
    go_wp2_with fail
    refine (sDiagramDomains _ _ _ d _ HL7.out).mono ?_
    rintro e W8 ⟨v, rfl, ow, hB⟩
    replace ow := HoldR.of_own ow
    rw [HL.out, HNL.out] at ow
    obtain ⟨A6, c6, rfl, r6⟩ := IntR.of_hold ow (by omega)
    have HL8 := Lib.hid (SlR.on (RowC.keeps (RowC.keeps IntC.keeps)) (RowC.widens (RowC.widens IntC.widens)) HL7.out hB)
    have HB8 := Lib.hid (bgo HB7.out hB)
    have HR8 := Lib.hid (IntR.on HR7.out hB)
    have HQ8 := Lib.hid r6
    clear hB ow HL7 HB7 HR7 r6
    go_wp2_with fail
    refine (lequalInts _ _ _ _ _ _ L L _ HR8.out HQ8.out).mono ?_
    rintro e W9 ⟨rfl, hB⟩
    rw [show decide (L = L) = true from decide_eq_true rfl]
    have HL9 := Lib.hid (SlR.on (RowC.keeps (RowC.keeps IntC.keeps)) (RowC.widens (RowC.widens IntC.widens)) HL8.out hB)
    have HB9 := Lib.hid (bgo HB8.out hB)
    have HR9 := Lib.hid (IntR.on HR8.out hB)
    clear hB HL8 HB8 HR8 HQ8
    go_wp2_with fail
    go_ret
    exact ⟨rfl, HB9.out⟩
  · have hNc : N = cntAt d 0 0 := by
      have := HN.out
      unfold dcF at this
      rw [hv] at this
      simpa using this.symm
    have hN0 := cnt_nn hv
    have tn : decide (N < 0) = false := decide_eq_false (by omega)
    have hNL : nL = d.length := by
      have h1 := dd_len hv
      rw [HL.out] at h1
      rw [← h1, HNL.out]
    have hN1 := cnt_pre hv
    have KEY := Lib.hid (show ∀ i, i < nL → ∃ x, L[i]? = some x ∧ preF d (i + 1) = preF d i * dsF x ∧ ((x == 0) == (N == 0)) = true ∧ 0 ≤ dsF x ∧ dsF x ≤ 6 from fun i hi => by
      refine ⟨onF d i, ?_, rfl, ?_, ds_bd d i⟩
      · have := dd_at hv (i := i) (by omega)
        rw [HL.out] at this
        exact this
      · have hz := on_zero hv (i := i) (by omega)
        by_cases h0 : onF d i = 0
        · rw [hNc, h0, hz.1 h0]; rfl
        · have h1 : ¬ cntAt d 0 0 = 0 := fun e => h0 (hz.2 e)
          rw [hNc, show (onF d i == 0) = false by simpa using h0, show (cntAt d 0 0 == 0) = false by simpa using h1]
          rfl)
    have HFIN := Lib.hid (show N ≤ preF d nL by rw [hNL, hNc]; exact hN1)
    have hlen4' : nL ≤ 4 := by omega
    clear hv hNc hN0 hN1 hNL hlen4 hd4
    have HLr := HL6
    clear HL HNL HN HL6
    go_wp2_with fail
    go_loopw [6, 7] (fun t i wr => ∃ k : Nat, k ≤ nL ∧ i = .int .i64 k ∧ t = .int .i64 (preF d k) ∧ Hid (Below W6.heap.size W6 wr)) (fun _ i _ => nL - (intOf i).toNat)
    case atStart => exact ⟨0, by omega, rfl, rfl, Lib.hid (Below.refl _ _)⟩
    case round =>
      obtain ⟨k, hk, rfl, rfl, hb⟩ := hrel
      rename World => wr
      have hRk := IntR.on HR6.out hb.out
      have hpb := pre_small d (i := k) (by omega)
      by_cases hlt : k < nL
      · obtain ⟨x, hx, hpre, hz, hs0, hs6⟩ := KEY.out k hlt
        obtain ⟨ab, ao, y, rfl, hab, hyk, hcy⟩ := IntR.at_ hRk hlt
        obtain rfl : x = y := by rw [hx] at hyk; injection hyk
        have hpb1 := pre_small d (i := k + 1) (by omega)
        obtain ⟨P, hP⟩ : ∃ P, preF d k = P := ⟨_, rfl⟩
        rw [hpre] at hpb1
        rw [hP] at hpre hpb hpb1 ⊢
        have HPRE := Lib.hid hpre
        obtain ⟨D, hD⟩ : ∃ D, dsF x = D := ⟨_, rfl⟩
        rw [hD] at hpb1 hs0 hs6
        have HD := Lib.hid hD
        have HX := Lib.hid hx
        clear hpre hP hD hx hyk
        go_wp2_with fail
        refine (iDomainSize _ _).mono ?_
        rintro e wq ⟨rfl, hq⟩
        rw [HD.out]
        have hb' := Lib.hid (bgo hb.out hq)
        have hcz := (IntR.on hRk hq)
        obtain ⟨ab2, ao2, y, ea, hab2, hyk, hcy2⟩ := IntR.at_ hcz hlt
        injection ea with ea
        injection ea with ea1 ea2
        subst ea1 ea2
        obtain rfl : x = y := by rw [HX.out] at hyk; injection hyk
        clear hyk hab2 hcz hRk hb
        go_wp2_with fail
        go_roundw
        case rel => exact ⟨k + 1, by omega, by go_num, by rw [HPRE.out, HD.out], hb'⟩
        case measure => simp [intOf]; omega
      · obtain rfl : k = nL := by omega
        have hf : decide (N ≤ preF d k) = true := decide_eq_true HFIN.out
        go_wp2_with fail
        go_ret
        exact ⟨rfl, bgo HB6.out hb.out⟩

set_option maxRecDepth 100000 in
theorem lifted (os : Os) (started : os.Started) (H : Type) (enc : TypeId × Value → H) :
    ReturnsInHanded {} Try.checked os 7 .any (Rows.fnDiagramCountSpec.pre6 enc Try.prog Try.f7 Rows.fnDiagramCountRow.domain false) (Rows.fnDiagramCountSpec.post enc Try.prog Try.f7 false true false false) := by
  refine returnsInHanded_of_change (C := Try.checked) own started (by kernel_rfl) Try.func7
    (ChangeSpec.witness6 (enc := enc) (C := Try.checked) false ⟨#[], #[.slice none 0 0], []⟩ 8 (by kernel_rfl) (by kernel_rfl) (by kernel_rfl) (by kernel_rfl)) ?_
  intro W base args ds gs before hval0 hW hcnd _
  have hval : ∀ (j : Nat) t v, Try.f7.params[j]? = some t → args[j]? = some v → Value.okWide Try.prog W .any base t v := hval0
  have hW' := hW
  obtain ⟨p, q, hA0, hV, rfl, hfz, hnd⟩ := hW
  have hA : DataW.TrodAll enc Try.prog W 0 (fun _ => true) true Try.f7.params.toList args.toList ds p := hA0
  rw [Try.params7] at hA hval
  obtain ⟨v0, vs0, d0, ds0, p0, q0, hargs, rfl, rfl, h0, r0⟩ := trodAll_cons hA
  obtain ⟨rfl, rfl, rfl⟩ := trodAll_nil r0
  obtain rfl : args = #[v0] := by cases args; simp_all
  obtain ⟨rfl, rfl⟩ := trodVars_none hV
  have k0 := h0
  have l0 : ∀ x ∈ p0, x.block < W.heap.size := fun x hx => hW'.lt x (by simp [hx])
  obtain ⟨A0, n0, c0, xs0, rfl, g0⟩ := open_byteS Try.underlying39 Try.underlying5 (by kernel_rfl) (hval 0 39 v0 rfl rfl) k0
  clear hA0 hval0
  refine (walk A0 n0 c0 xs0 g0).mono fun e W' ⟨he, hb⟩ => ?_
  subst he
  exact ⟨_, rfl, _, _, _, [], _, [], hW', trodAll_cons_mk (p := []) (shut_bool Try.underlying4 _) trodAll_mk0, (trodAll_cons_mk (Below.trod laid (by kernel_rfl) (of_decide_eq_true (by kernel_rfl)) h0 hb l0) trodAll_mk0), rfl, hb.frame _, fun h => by cases h⟩

theorem over : Rows.fnDiagramCountRow.holds Try.pinned (OpenSpec.ofChange Rows.fnDiagramCountSpec) :=
  OpenClaim.holds_of_wide 7 Try.f7 rfl rfl rfl rfl rfl rfl rfl ⟨rfl, rfl, rfl, rfl, rfl⟩ rfl rfl rfl rfl rfl (by kernel_rfl) Try.func7 (by kernel_rfl)
    (of_decide_eq_true (by kernel_rfl)) (by unfold Func.isWrapper; first | (rw [if_pos (by decide +kernel)]; kernel_rfl) | (rw [if_neg (by decide +kernel)]; exact ⟨rfl, rfl⟩))
    (fun os started H enc _ => lifted os started H enc)

/-- The statement. -/
theorem proved : Rows.FnDiagramCountSaid :=
  over
#print axioms proved
end Go.Proofs.Ytfmdgdamelkelaa.fnDiagramCount
