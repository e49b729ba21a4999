/- Diagrams: validity and acceptance. -/
import Derived.Test.YtfmdgdamelkelaaRowsI
namespace Go.Proofs.Ytfmdgdamelkelaa
open Go.ChangeShapes Go.WideShapes Go.ChangeAt Go.RowKit
open Go.Shelf
set_option linter.unusedVariables false
set_option maxRecDepth 100000

set_option maxHeartbeats 1000000 in
theorem svalidDiagram (A : Option Addr) (n c : Nat) (d : List (List (List Int))) (w : World) (h : LayersR w w.heap.size A n d) :
    Calls Try.prog 71 #[.slice A n c] w fun e w' => e = .returned (.bool (vdgF d)) ∧ Below w.heap.size w w' := by
  have hn := h.le
  have hl := Lib.hid h.len
  go_enter Try.func71, Try.ntmps71
  go_wp2_with fail
  go_loopw [3] (fun i wr => ∃ k : Nat, k ≤ n ∧ i = .int .i64 k ∧ Hid (UpTo (layerOk d) k) ∧ Below w.heap.size w wr) (fun i _ => n - (intOf i).toNat)
  case atStart => exact ⟨0, by omega, rfl, UpTo.zero _, Below.refl _ _⟩
  case round =>
    obtain ⟨k, hk, rfl, hq, hb⟩ := hrel
    by_cases hlt : k < n
    · obtain ⟨ab, ao, l, u, rfl, hab, hxk, hcx, A1, c1, rfl, hl0⟩ := SlR.at_ (h.below (RowC.keeps (RowC.keeps IntC.keeps)) hb) hlt
      have HX := Lib.hid hxk
      have hll := hl0.le
      clear hxk hl0
      by_cases hk1 : k + 1 < n
      · obtain ⟨ab', ao', l2, u, e1, -, hx2, hc2, A3, c3, rfl, hl2⟩ := SlR.at_ (h.below (RowC.keeps (RowC.keeps IntC.keeps)) hb) hk1
        injection e1 with e1
        injection e1 with e1 e3
        subst e1 e3
        have hl2l := hl2.le
        have HLA := Lib.hid (lastF_some hx2)
        clear hx2 hl2
        go_wp2_with fail
        obtain ⟨wo, hwo⟩ : ∃ wo : World, wo = wr := ⟨_, rfl⟩
        have HWO := Lib.hid hwo
        clear hwo
        go_loopw [5] (fun j wi => ∃ m : Nat, m ≤ l.length ∧ j = .int .i64 m ∧ Hid (AllB (rowOk ((l2.length : Int) - 1)) l m) ∧ Below w.heap.size w wi) (fun j _ => l.length - (intOf j).toNat)
        case atStart => exact ⟨0, by omega, rfl, AllB.zero _ _, hb⟩
        case round =>
          obtain ⟨m, hm, rfl, hqi, hbi⟩ := hrel
          obtain ⟨ab', ao', l', u', e1, -, e2, hcl, A1', c1', rfl, hl1⟩ := SlR.at_ (h.below (RowC.keeps (RowC.keeps IntC.keeps)) hbi) hlt
          injection e1 with e1
          injection e1 with e1 e3
          subst e1 e3
          rw [HX.out] at e2
          injection e2 with e2
          subst e2
          by_cases hml : m < l.length
          · obtain ⟨rb, ro, r, u, rfl, hrb, hrk, hcr, A2, c2, rfl, hr1⟩ := SlR.at_ hl1 hml
            have HR := Lib.hid hrk
            have hr2 := Lib.hid (hr1.more IntC.widens hbi.size)
            have hr6 := hr1.le
            clear hrk hr1
            by_cases h6 : r.length = 6
            · have h6' : ((r.length : Int) != 6) = false := by simp; omega
              have H6 := Lib.hid h6
              clear h6
              cases ha : r.all fun x => inB x (-1) ((l2.length : Int) - 1)
              · have HA := Lib.hid ha
                clear ha
                go_wp2_with fail
                refine (allInRange _ _ _ r (-1) _ _ hr2.out).mono ?_
                rw [HA.out]
                rintro e w2 ⟨rfl, hb2⟩
                go_wp2_with fail
                go_ret
                exact ⟨ret_bool (vdgF_no hl.out hlt ((layerOk_eq HX.out HLA.out).trans (by rw [all_no (f := rowOk ((l2.length : Int) - 1)) HR.out (by unfold rowOk; rw [HA.out]; simp)]; simp))).symm, bgo hbi hb2⟩
              · have HA := Lib.hid ha
                clear ha
                go_wp2_with fail
                refine (allInRange _ _ _ r (-1) _ _ hr2.out).mono ?_
                rw [HA.out]
                rintro e w2 ⟨rfl, hb2⟩
                go_wp2_with fail
                go_roundw
                case rel => exact ⟨m + 1, by omega, by go_num, AllB.succ hqi.out HR.out (by unfold rowOk; rw [HA.out, H6.out]; rfl), bgo hbi hb2⟩
                case measure => simp [intOf]; omega
            · have h6' : ((r.length : Int) != 6) = true := by simp; omega
              have H6 := Lib.hid h6
              clear h6
              go_wp2_with fail
              go_ret
              exact ⟨ret_bool (vdgF_no hl.out hlt ((layerOk_eq HX.out HLA.out).trans (by rw [all_no (f := rowOk ((l2.length : Int) - 1)) HR.out (by unfold rowOk; rw [decide_eq_false H6.out]; rfl)]; simp))).symm, hbi⟩
          · obtain rfl : m = l.length := by omega
            have hall := AllB.done hqi.out (Nat.le_refl _)
            have HALL := Lib.hid hall
            clear hall
            cases h216 : inB (l.length : Int) 1 216
            · have H2 := Lib.hid h216
              clear h216
              go_wp2_with fail
              refine (inRange _ _ _ _).mono ?_
              rw [H2.out]
              rintro e w2 ⟨rfl, rfl⟩
              go_wp2_with fail
              go_ret
              exact ⟨ret_bool (vdgF_no hl.out hlt ((layerOk_eq HX.out HLA.out).trans (by rw [H2.out]; rfl))).symm, hbi⟩
            · have H2 := Lib.hid h216
              clear h216
              go_wp2_with fail
              refine (inRange _ _ _ _).mono ?_
              rw [H2.out]
              rintro e w2 ⟨rfl, rfl⟩
              go_wp2_with fail
              go_roundw
              case rel => exact ⟨k + 1, by omega, by go_num, UpTo.succ hq.out ((layerOk_eq HX.out HLA.out).trans (by rw [H2.out, HALL.out]; rfl)), hbi⟩
              case measure => simp [intOf]; omega

      · have HLA := Lib.hid (lastF_none hl.out hk1)
        go_wp2_with fail
        obtain ⟨wo, hwo⟩ : ∃ wo : World, wo = wr := ⟨_, rfl⟩
        have HWO := Lib.hid hwo
        clear hwo
        go_loopw [5] (fun j wi => ∃ m : Nat, m ≤ l.length ∧ j = .int .i64 m ∧ Hid (AllB (rowOk 0) l m) ∧ Below w.heap.size w wi) (fun j _ => l.length - (intOf j).toNat)
        case atStart => exact ⟨0, by omega, rfl, AllB.zero _ _, hb⟩
        case round =>
          obtain ⟨m, hm, rfl, hqi, hbi⟩ := hrel
          obtain ⟨ab', ao', l', u', e1, -, e2, hcl, A1', c1', rfl, hl1⟩ := SlR.at_ (h.below (RowC.keeps (RowC.keeps IntC.keeps)) hbi) hlt
          injection e1 with e1
          injection e1 with e1 e3
          subst e1 e3
          rw [HX.out] at e2
          injection e2 with e2
          subst e2
          by_cases hml : m < l.length
          · obtain ⟨rb, ro, r, u, rfl, hrb, hrk, hcr, A2, c2, rfl, hr1⟩ := SlR.at_ hl1 hml
            have HR := Lib.hid hrk
            have hr2 := Lib.hid (hr1.more IntC.widens hbi.size)
            have hr6 := hr1.le
            clear hrk hr1
            by_cases h6 : r.length = 6
            · have h6' : ((r.length : Int) != 6) = false := by simp; omega
              have H6 := Lib.hid h6
              clear h6
              cases ha : r.all fun x => inB x (-1) 0
              · have HA := Lib.hid ha
                clear ha
                go_wp2_with fail
                refine (allInRange _ _ _ r (-1) _ _ hr2.out).mono ?_
                rw [HA.out]
                rintro e w2 ⟨rfl, hb2⟩
                go_wp2_with fail
                go_ret
                exact ⟨ret_bool (vdgF_no hl.out hlt ((layerOk_eq HX.out HLA.out).trans (by rw [all_no (f := rowOk 0) HR.out (by unfold rowOk; rw [HA.out]; simp)]; simp))).symm, bgo hbi hb2⟩
              · have HA := Lib.hid ha
                clear ha
                go_wp2_with fail
                refine (allInRange _ _ _ r (-1) _ _ hr2.out).mono ?_
                rw [HA.out]
                rintro e w2 ⟨rfl, hb2⟩
                go_wp2_with fail
                go_roundw
                case rel => exact ⟨m + 1, by omega, by go_num, AllB.succ hqi.out HR.out (by unfold rowOk; rw [HA.out, H6.out]; rfl), bgo hbi hb2⟩
                case measure => simp [intOf]; omega
            · have h6' : ((r.length : Int) != 6) = true := by simp; omega
              have H6 := Lib.hid h6
              clear h6
              go_wp2_with fail
              go_ret
              exact ⟨ret_bool (vdgF_no hl.out hlt ((layerOk_eq HX.out HLA.out).trans (by rw [all_no (f := rowOk 0) HR.out (by unfold rowOk; rw [decide_eq_false H6.out]; rfl)]; simp))).symm, hbi⟩
          · obtain rfl : m = l.length := by omega
            have hall := AllB.done hqi.out (Nat.le_refl _)
            have HALL := Lib.hid hall
            clear hall
            cases h216 : inB (l.length : Int) 1 216
            · have H2 := Lib.hid h216
              clear h216
              go_wp2_with fail
              refine (inRange _ _ _ _).mono ?_
              rw [H2.out]
              rintro e w2 ⟨rfl, rfl⟩
              go_wp2_with fail
              go_ret
              exact ⟨ret_bool (vdgF_no hl.out hlt ((layerOk_eq HX.out HLA.out).trans (by rw [H2.out]; rfl))).symm, hbi⟩
            · have H2 := Lib.hid h216
              clear h216
              go_wp2_with fail
              refine (inRange _ _ _ _).mono ?_
              rw [H2.out]
              rintro e w2 ⟨rfl, rfl⟩
              go_wp2_with fail
              go_roundw
              case rel => exact ⟨k + 1, by omega, by go_num, UpTo.succ hq.out ((layerOk_eq HX.out HLA.out).trans (by rw [H2.out, HALL.out]; rfl)), hbi⟩
              case measure => simp [intOf]; omega

    · obtain rfl : k = n := by omega
      have he := hq.out.done
      have HE := Lib.hid he
      clear he
      have hlay : layersOk d = true := by unfold layersOk; rw [hl.out]; exact HE.out
      have HLY := Lib.hid hlay
      clear hlay
      cases h14 : inB (k : Int) 1 4
      · have H1 := Lib.hid h14
        clear h14
        go_wp2_with fail
        refine (inRange _ _ _ _).mono ?_
        rw [H1.out]
        rintro e w2 ⟨rfl, rfl⟩
        go_wp2_with fail
        go_ret
        exact ⟨ret_bool (by unfold vdgF; rw [hl.out, H1.out]; rfl), hb⟩
      · have hk0 := (inB_true h14).1
        have H1 := Lib.hid h14
        clear h14
        obtain ⟨ab, ao, l, u, rfl, hab, hxk, hcx, A1, c1, rfl, hl0⟩ := SlR.at_ (k := 0) (h.below (RowC.keeps (RowC.keeps IntC.keeps)) hb) (by omega)
        rw [Nat.add_zero] at hcx
        have hf : firstOne d = decide (l.length = 1) := by unfold firstOne; rw [hxk]
        have HF := Lib.hid hf
        have hll := hl0.le
        clear hxk hl0 hf
        go_wp2_with fail
        refine (inRange _ _ _ _).mono ?_
        rw [H1.out]
        rintro e w2 ⟨rfl, rfl⟩
        go_wp2_with fail
        go_ret
        refine ⟨ret_bool ?_, hb⟩
        unfold vdgF
        rw [hl.out, H1.out, HF.out, HLY.out]
        rw [Bool.eq_iff_iff]
        simp
        omega
end Go.Proofs.Ytfmdgdamelkelaa
