/- FnDiagramEntailed: for every input the law returns true and its arguments read as before; no further condition. -/
import Derived.Test.YtfmdgdamelkelaaRows
import Derived.WalkKit
import Derived.ProofKit
import Derived.OpenShut
import Derived.Carry
import Derived.StillTailTactics
import Derived.Test.YtfmdgdamelkelaaHiFnDiagramEntailedC
import Derived.Test.YtfmdgdamelkelaaPath
import Derived.Test.YtfmdgdamelkelaaDvals
import Derived.Test.YtfmdgdamelkelaaSolI
import Derived.Test.YtfmdgdamelkelaaOpenC
namespace Go.Proofs.Ytfmdgdamelkelaa.fnDiagramEntailed
open Go.ChangeShapes Go.WideShapes Go.ChangeAt Go.RowKit
open Go.Shelf
set_option linter.unusedVariables false
set_option maxRecDepth 100000

theorem own : ownKnob Try.prog.godebug = none := by kernel_rfl
theorem laid : laidOutB Try.prog = true := by kernel_rfl

theorem hT5 {w w' : World} {b : Nat} {x0 x1 x2 x3 x4 : Value} (h : TBlk 29 w b #[x0, x1, x2, x3, x4]) (hb : Below w.heap.size w w') :
    TBlk 29 w' b #[x0, x1, x2, x3, x4] ∧ w'.cell? ⟨b, 0, none⟩ = some x0 ∧ w'.cell? ⟨b, 1, none⟩ = some x1 ∧ w'.cell? ⟨b, 2, none⟩ = some x2 ∧ w'.cell? ⟨b, 3, none⟩ = some x3 ∧ w'.cell? ⟨b, 4, none⟩ = some x4 := by
  have t := h.below_ hb h.lt
  exact ⟨t, t.at_ 0 rfl, t.at_ 1 rfl, t.at_ 2 rfl, t.at_ 3 rfl, t.at_ 4 rfl⟩
theorem iDomainSize_b (d D : Int) (w : World) (h : dsF d = D) : Calls Try.prog 28 #[.int .i64 d] w fun e w' => e = .returned (.int .i64 D) ∧ Below w.heap.size w w' := by
  subst h; exact iDomainSize d w
set_option maxHeartbeats 16000000 in
theorem walk {W : World} (A0 : Option Addr) (n0 c0 : Nat) (xs0 : List Int) (g0 : CodeA W W.heap.size A0 n0 c0 xs0) :
    Calls Try.prog 5 #[.slice A0 n0 c0] W fun e w' => e = .returned (.bool true) ∧ Below W.heap.size W w' := by
  by_cases hlen : (1048576 : Int) < (n0 : Int)
  · have hd : decide ((1048576 : Int) < (n0 : Int)) = true := decide_eq_true hlen
    clear hlen
    go_enter Try.func5, Try.ntmps5
    go_wp2_with fail
    go_ret
    exact ⟨rfl, Below.refl _ _⟩
  have hd : decide ((1048576 : Int) < (n0 : Int)) = false := decide_eq_false hlen
  go_enter Try.func5, Try.ntmps5
  go_wp2_with fail
  refine (drawIsEntailed _ _ _ _ _ g0).mono ?_
  rintro e W1 ⟨vk, vd, k, ds, rfl, hoc, hod, c0⟩
  obtain ⟨usk, rfl, hcr⟩ := OwnCon.read hoc
  obtain ⟨Ad, cd, rfl, rd⟩ := hod.read
  obtain ⟨A1, A2, A3, c1, c2, c3, rfl, -⟩ := id hcr
  obtain ⟨W2, hW2⟩ : ∃ W2, W1.alloc (.cells #[.int .i64 k.kind, .slice A1 k.vars.length c1, .slice A2 k.args.length c2, .int .i64 k.bound, .slice A3 k.rows.length c3] 29) = W2 := ⟨_, rfl⟩
  have hB2 : Below W1.heap.size W1 W2 := by rw [← hW2]; exact b_alloc _ _
  have HT2 : Hid (TBlk 29 W2 W1.heap.size #[.int .i64 k.kind, .slice A1 k.vars.length c1, .slice A2 k.args.length c2, .int .i64 k.bound, .slice A3 k.rows.length c3]) := by rw [← hW2]; exact TBlk.new _ _ _
  obtain ⟨-, x0, x1, x2, x3, x4⟩ := hT5 HT2.out (Below.refl _ _)
  have HC2 := Lib.hid (ConR.on hcr hB2)
  have HD2 := Lib.hid (IntR.on rd hB2)
  have HB2 := Lib.hid (bgo c0 hB2)
  clear hoc hod hcr rd hB2 c0
  go_wp2_with fail
  clear hW2 x0 x1 x2 x3 x4
  refine (iIsEntailed _ k _ _ _ ds _ HC2.out HD2.out).mono ?_
  rintro e W3 ⟨rfl, hB⟩
  obtain ⟨ok, hok⟩ : ∃ ok, ientF k ds = ok := ⟨_, rfl⟩
  rw [hok]
  have HOK := Lib.hid hok
  clear hok
  obtain ⟨t3, x0, x1, x2, x3, x4⟩ := hT5 HT2.out hB
  have HT3 := Lib.hid t3
  have HC3 := Lib.hid (ConR.on HC2.out hB)
  have HD3 := Lib.hid (IntR.on HD2.out hB)
  have HB3 := Lib.hid (bgo HB2.out hB)
  clear t3 hB HT2 HC2 HD2 HB2
  go_wp2_with fail
  clear x0 x1 x2 x3 x4
  refine (sIsEntailed _ k _ _ _ ds _ HC3.out HD3.out).mono ?_
  rintro e W4 ⟨rfl, hB⟩
  rw [HOK.out]
  obtain ⟨t4, x0, x1, x2, x3, x4⟩ := hT5 HT3.out hB
  have HT4 := Lib.hid t4
  have HC4 := Lib.hid (ConR.on HC3.out hB)
  have HD4 := Lib.hid (IntR.on HD3.out hB)
  have HB4 := Lib.hid (bgo HB3.out hB)
  clear t4 hB HT3 HC3 HD3 HB3
  cases ok
  · go_wp2_with fail
    clear x0 x1 x2 x3 x4
    refine (sIsEntailed _ k _ _ _ ds _ HC4.out HD4.out).mono ?_
    rintro e W5 ⟨rfl, hB⟩
    rw [HOK.out]
    go_wp2_with fail
    go_ret
    exact ⟨rfl, bgo HB4.out hB⟩
  · have hio := HOK.out
    have hio2 := hio
    unfold ientF at hio2
    simp only [Bool.and_eq_true] at hio2
    obtain ⟨hi1, hi2, -⟩ := hio2
    obtain ⟨hl1, hl4, hdm⟩ := dok_parts hi1
    obtain ⟨hv1, hv2, -⟩ := vcon_vars hi2 hl4
    have hwd : Doms (wordF k.vars ds) := word_doms hv2 hdm
    have hwl : (wordF k.vars ds).length = k.vars.length := wordF_len _ _
    have HFULL := Lib.hid (ent_full hio)
    have HWD := Lib.hid hwd
    have HWL := Lib.hid hwl
    have HV2 := Lib.hid hv2
    have HDM := Lib.hid hdm
    have hk4 : k.vars.length ≤ 4 := by omega
    have hnn : ds.length ≤ 4 := hl4
    clear hio hi1 hi2 hdm hv2 hwd hwl
    go_wp2_with fail
    clear x0 x1 x2 x3 x4
    go_loopw [6, 7] (fun t i wr => ∃ j : Nat, j ≤ k.vars.length ∧ i = .int .i64 j ∧ t = .int .i64 (preD (wordF k.vars ds) j) ∧ Hid (Below W4.heap.size W4 wr)) (fun _ i _ => k.vars.length - (intOf i).toNat)
    case atStart => exact ⟨0, by omega, rfl, rfl, Lib.hid (Below.refl _ _)⟩
    case round =>
      obtain ⟨j, hj, rfl, rfl, hb⟩ := hrel
      rename World => wr
      have hTr := HT4.out.below_ hb.out HT4.out.lt
      have b0 := hTr.at_ 0 rfl
      have b1 := hTr.at_ 1 rfl
      have b2 := hTr.at_ 2 rfl
      have b3 := hTr.at_ 3 rfl
      have b4 := hTr.at_ 4 rfl
      have hCr := ConR.on HC4.out hb.out
      have hDr := IntR.on HD4.out hb.out
      by_cases hlt : j < k.vars.length
      · obtain ⟨va, aa, ra, cv2, ca2, cr2, eus, gv1, -⟩ := id hCr
        injection eus with e1 eus
        injection eus with e2 eus
        injection e2 with e3 e4 e5
        subst e3
        subst e5
        obtain ⟨vj, hvj⟩ : ∃ v, k.vars[j]? = some v := ⟨_, List.getElem?_eq_getElem hlt⟩
        obtain ⟨hv0, hvn⟩ := HV2.out vj (List.mem_of_getElem? hvj)
        obtain ⟨vn, rfl⟩ := Int.eq_ofNat_of_zero_le hv0
        obtain ⟨ab, ao, v', rfl, hab, hv', hcv⟩ := IntR.at_ gv1 hlt
        rw [hvj] at hv'
        injection hv' with hv'
        subst hv'
        obtain ⟨db, do_, y, rfl, hdb, hy, hcy⟩ := IntR.at_ hDr (show vn < ds.length by omega)
        have hyd : gat (wordF k.vars ds) j = y := by rw [gat_word hvj, Int.toNat_natCast]; exact gat_eq hy
        have hpb := preD_small HWD.out (i := j + 1) (by rw [HWL.out]; omega) (by omega)
        have hpb0 := preD_small HWD.out (i := j) (by rw [HWL.out]; omega) (by omega)
        have hpre : preD (wordF k.vars ds) (j + 1) = preD (wordF k.vars ds) j * dsF y := by rw [preD, hyd]
        have hs6 := ds_val6 (HDM.out y (List.mem_of_getElem? hy))
        obtain ⟨P, hP⟩ : ∃ P, preD (wordF k.vars ds) j = P := ⟨_, rfl⟩
        rw [hpre] at hpb
        rw [hP] at hpre hpb hpb0 ⊢
        obtain ⟨DD, hDD⟩ : ∃ DD, dsF y = DD := ⟨_, rfl⟩
        rw [hDD] at hpb hs6
        have HPRE := Lib.hid hpre
        have HDD := Lib.hid hDD
        clear hpre hP hDD hyd hvj hy hTr hCr hDr gv1 eus e1
        have hab2 := hab
        have r0 : ∀ p : Later wr, p.val.cell? ⟨W1.heap.size, 1, none⟩ = some (.slice (some ⟨ab, ao, none⟩) k.vars.length c1) := fun p => p.cell (by have := HT4.out.lt; have := hb.out.size; omega) b1
        have r1 : ∀ p : Later wr, p.val.cell? ⟨ab, ao + j, none⟩ = some (.int .i64 (vn : Int)) := fun p => p.cell (by omega) hcv
        have r2 : ∀ p : Later wr, p.val.cell? ⟨db, do_ + vn, none⟩ = some (.int .i64 y) := fun p => p.cell (by omega) hcy
        have hvnd : vn < ds.length := by omega
        go_wp2_with fail
        refine (iDomainSize _ _).mono ?_
        rintro e w6 ⟨rfl, hb5⟩
        rw [HDD.out]
        go_wp2_with fail
        go_roundw
        case rel => exact ⟨j + 1, by omega, by go_num, by rw [HPRE.out, HDD.out], Lib.hid (bgo hb.out hb5)⟩
        case measure => simp [intOf]; omega
      · obtain rfl : j = k.vars.length := by omega
        obtain ⟨P, hP⟩ : ∃ P, preD (wordF k.vars ds) k.vars.length = P := ⟨_, rfl⟩
        have hpb0 := preD_small HWD.out (i := k.vars.length) (by rw [HWL.out]; omega) (by omega)
        have hfull := HFULL.out
        rw [hP] at hfull hpb0 ⊢
        have HF2 := Lib.hid hfull
        have HCr := Lib.hid hCr
        have HDr := Lib.hid hDr
        have HBr := Lib.hid (bgo HB4.out hb.out)
        clear hfull hP hTr hCr hDr
        go_wp2_with fail
        refine (iBuildDiagram _ k _ _ _ ds _ HCr.out HDr.out).mono ?_
        rintro e W6 ⟨v', rfl, hh, hB⟩
        obtain ⟨D, hD⟩ : ∃ D, bdgF k ds = D := ⟨_, rfl⟩
        have hf2 := HF2.out
        rw [hD] at hh hf2
        obtain ⟨Ag, cg, rfl, rg⟩ := hh.lays
        have rg : LayersR W6 W6.heap.size Ag D.length D := rg
        have HG6 := Lib.hid rg
        have HB6 := Lib.hid (bgo HBr.out hB)
        clear hh rg hB hD
        by_cases hz : P = 0
        · have hz1 : (P == 0) = true := by simpa using hz
          have hD0 : D = [] := hf2.1 hz
          subst hD0
          clear hf2 hz
          go_wp2_with fail
          go_ret
          exact ⟨rfl, HB6.out⟩
        · have hz1 : (P == 0) = false := by simpa using hz
          have hpp : 0 < P := by omega
          have hpd : decide (0 < P) = true := decide_eq_true hpp
          have HF3 := Lib.hid (hf2.2 hpp).2
          clear hf2 hz
          go_wp2_with fail
          refine (iDiagramCount _ _ _ D _ HG6.out).mono ?_
          rintro e W7 ⟨rfl, hB⟩
          rw [HF3.out]
          go_wp2_with fail
          go_ret
          exact ⟨by simp, bgo HB6.out hB⟩

set_option maxRecDepth 100000 in
theorem lifted (os : Os) (started : os.Started) (H : Type) (enc : TypeId × Value → H) :
    ReturnsInHanded {} Try.checked os 5 .any (Rows.fnDiagramEntailedSpec.pre6 enc Try.prog Try.f5 Rows.fnDiagramEntailedRow.domain false) (Rows.fnDiagramEntailedSpec.post enc Try.prog Try.f5 false true false false) := by
  refine returnsInHanded_of_change (C := Try.checked) own started (by kernel_rfl) Try.func5
    (ChangeSpec.witness6 (enc := enc) (C := Try.checked) false ⟨#[], #[.slice none 0 0], []⟩ 8 (by kernel_rfl) (by kernel_rfl) (by kernel_rfl) (by kernel_rfl)) ?_
  intro W base args ds gs before hval0 hW hcnd _
  have hval : ∀ (j : Nat) t v, Try.f5.params[j]? = some t → args[j]? = some v → Value.okWide Try.prog W .any base t v := hval0
  have hW' := hW
  obtain ⟨p, q, hA0, hV, rfl, hfz, hnd⟩ := hW
  have hA : DataW.TrodAll enc Try.prog W 0 (fun _ => true) true Try.f5.params.toList args.toList ds p := hA0
  rw [Try.params5] at hA hval
  obtain ⟨v0, vs0, d0, ds0, p0, q0, hargs, rfl, rfl, h0, r0⟩ := trodAll_cons hA
  obtain ⟨rfl, rfl, rfl⟩ := trodAll_nil r0
  obtain rfl : args = #[v0] := by cases args; simp_all
  obtain ⟨rfl, rfl⟩ := trodVars_none hV
  have k0 := h0
  have l0 : ∀ x ∈ p0, x.block < W.heap.size := fun x hx => hW'.lt x (by simp [hx])
  obtain ⟨A0, n0, c0, xs0, rfl, g0⟩ := open_byteS Try.underlying39 Try.underlying5 (by kernel_rfl) (hval 0 39 v0 rfl rfl) k0
  clear hA0 hval0
  refine (walk A0 n0 c0 xs0 g0).mono fun e W' ⟨he, hb⟩ => ?_
  subst he
  exact ⟨_, rfl, _, _, _, [], _, [], hW', trodAll_cons_mk (p := []) (shut_bool Try.underlying4 _) trodAll_mk0, (trodAll_cons_mk (Below.trod laid (by kernel_rfl) (of_decide_eq_true (by kernel_rfl)) h0 hb l0) trodAll_mk0), rfl, hb.frame _, fun h => by cases h⟩

theorem over : Rows.fnDiagramEntailedRow.holds Try.pinned (OpenSpec.ofChange Rows.fnDiagramEntailedSpec) :=
  OpenClaim.holds_of_wide 5 Try.f5 rfl rfl rfl rfl rfl rfl rfl ⟨rfl, rfl, rfl, rfl, rfl⟩ rfl rfl rfl rfl rfl (by kernel_rfl) Try.func5 (by kernel_rfl)
    (of_decide_eq_true (by kernel_rfl)) (by unfold Func.isWrapper; first | (rw [if_pos (by decide +kernel)]; kernel_rfl) | (rw [if_neg (by decide +kernel)]; exact ⟨rfl, rfl⟩))
    (fun os started H enc _ => lifted os started H enc)

/-- The statement. -/
theorem proved : Rows.FnDiagramEntailedSaid :=
  over
#print axioms proved
end Go.Proofs.Ytfmdgdamelkelaa.fnDiagramEntailed
