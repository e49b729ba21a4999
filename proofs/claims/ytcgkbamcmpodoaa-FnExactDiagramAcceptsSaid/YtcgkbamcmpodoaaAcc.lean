/- Diagrams: acceptance. -/
import Derived.Test.YtcgkbamcmpodoaaDiag2
namespace Go.Proofs.Ytcgkbamcmpodoaa
open Go.ChangeShapes Go.WideShapes Go.ChangeAt Go.RowKit
open Go.Shelf
set_option linter.unusedVariables false

set_option maxHeartbeats 1000000 in
theorem sDiagramAccepts (A B : Option Addr) (n m0 c c0 : Nat) (d : List (List (List Int))) (xs : List Int) (w : World) (h : LayersR w w.heap.size A n d) (hx : IntR w w.heap.size B m0 xs) :
    Calls Try.prog 43 #[.slice A n c, .slice B m0 c0] w fun e w' => e = .returned (.bool (accF d xs)) ∧ Below w.heap.size w w' := by
  have hn := h.le
  have hm0 := hx.le
  have hl := Lib.hid h.len
  have hlx := Lib.hid hx.len
  cases hv : vdgF d
  · have e : accF d xs = false := by unfold accF; rw [hv]; rfl
    rw [e]
    have HV := Lib.hid hv
    clear hv e
    go_enter Try.func43, Try.ntmps43
    go_wp2_with fail
    refine (svalidDiagram _ _ _ _ _ h).mono ?_
    rw [HV.out]
    rintro e w2 ⟨rfl, hb2⟩
    go_wp2_with fail
    go_ret
    exact ⟨rfl, hb2⟩
  · have HV := Lib.hid hv
    by_cases hnm : m0 = n
    · subst hnm
      have hne : ((m0 : Int) != (m0 : Int)) = false := by simp
      cases h5 : xs.all fun x => inB x 0 5
      · have e : accF d xs = false := by unfold accF; rw [h5]; simp
        rw [e]
        have H5 := Lib.hid h5
        clear hv e h5
        go_enter Try.func43, Try.ntmps43
        go_wp2_with fail
        refine (svalidDiagram _ _ _ _ _ h).mono ?_
        rw [HV.out]
        rintro e w2 ⟨rfl, hb2⟩
        go_wp2_with fail
        refine (allInRange _ _ _ _ _ _ _ (hx.on hb2)).mono ?_
        rw [H5.out]
        rintro e w3 ⟨rfl, hb3⟩
        go_wp2_with fail
        go_ret
        exact ⟨rfl, bgo hb2 hb3⟩
      · have HX5 := Lib.hid h5
        clear h5 hv
        go_enter Try.func43, Try.ntmps43
        go_wp2_with fail
        refine (svalidDiagram _ _ _ _ _ h).mono ?_
        rw [HV.out]
        rintro e w2 ⟨rfl, hb2⟩
        go_wp2_with fail
        refine (allInRange _ _ _ _ _ _ _ (hx.on hb2)).mono ?_
        rw [HX5.out]
        rintro e w3 ⟨rfl, hb3⟩
        have hb4 := bgo hb2 hb3
        clear hb2 hb3
        go_wp2_with fail
        go_loopw [5, 6] (fun t i wr => ∃ k a : Nat, k ≤ m0 ∧ i = .int .i64 k ∧ t = .int .i64 a ∧ Hid (AccInv d xs k a) ∧ Below w.heap.size w wr) (fun _ i _ => m0 - (intOf i).toNat)
        case atStart => exact ⟨0, 0, by omega, rfl, rfl, acc_start xs HV.out, hb4⟩
        case round =>
          obtain ⟨k, a, hk, rfl, rfl, hq, hb⟩ := hrel
          clear hb4
          by_cases hlt : k < m0
          · obtain ⟨ab, ao, l, u, rfl, hab, hxk, hcx, A1, c1, rfl, hl0⟩ := SlR.at_ (h.below (RowC.keeps (RowC.keeps IntC.keeps)) hb) hlt
            obtain ⟨bb, bo, v, rfl, hbb, hvk, hcv⟩ := IntR.at_ (hx.below IntC.keeps hb) hlt
            have hx05 := inB_true (List.all_eq_true.1 HX5.out v (List.mem_of_getElem? hvk))
            obtain ⟨r, e, hr, hr6, hre, hacc, he1, hinv⟩ := acc_step HV.out hq.out hxk hvk hx05
            obtain ⟨m, hm⟩ : ∃ m : Nat, v = (m : Int) := ⟨v.toNat, by omega⟩
            have hm6 : m < 6 := by omega
            rw [hm, Int.toNat_natCast] at hre
            have hal : a < l.length := hq.out.2.2 l hxk
            obtain ⟨lb, lo, r', u, rfl, hlb, hr', hcr, A2, c2, rfl, hr1⟩ := SlR.at_ hl0 hal
            rw [hr] at hr'
            injection hr' with hr'
            subst hr'
            rw [hr6] at hr1 hcr
            obtain ⟨rb, ro, e', rfl, hrb, hre', hce⟩ := IntR.at_ hr1 hm6
            rw [hre] at hre'
            injection hre' with hre'
            subst hre'
            have hll := hl0.le
            have HACC := Lib.hid hacc
            have HINV := Lib.hid hinv
            have HK := Lib.hid hxk
            rw [hm] at hcv
            clear hx05 hxk hvk hr hr6 hre hacc hinv hq hl0 hr1 hm
            by_cases he0 : 0 ≤ e
            · obtain ⟨a2, ha2⟩ : ∃ a2 : Nat, e = (a2 : Int) := ⟨e.toNat, by omega⟩
              rw [ha2] at hce
              have hin2 := HINV.out he0
              rw [ha2, Int.toNat_natCast] at hin2
              have HI2 := Lib.hid hin2
              clear hin2 ha2 he0 he1
              go_wp2_with fail
              go_quiet (fail)
              go_wp2_with fail
              go_roundw
              case rel => exact ⟨k + 1, a2, by omega, by go_num, rfl, HI2.out, below_drewN hb _⟩
              case measure => simp [intOf]; omega
            · have hem : e = -1 := by omega
              rw [hem] at hce HACC
              clear he0 he1 hem
              go_wp2_with fail
              go_quiet (fail)
              go_wp2_with fail
              go_ret
              exact ⟨ret_bool (acc_no hl.out hlt HACC.out (by omega)).symm, below_drewN hb _⟩
          · obtain rfl : k = m0 := by omega
            have hup := hq.out.2.1.done
            have HU := Lib.hid hup
            clear hup
            go_wp2_with fail
            go_ret
            exact ⟨ret_bool (by unfold accF; rw [HV.out, HX5.out, hl.out, hlx.out, HU.out]; simp), hb⟩
    · have hne : ((m0 : Int) != (n : Int)) = true := by simp; omega
      have e : accF d xs = false := by unfold accF; rw [decide_eq_false (by rw [hl.out, hlx.out]; exact hnm)]; simp
      rw [e]
      clear hv e hnm
      go_enter Try.func43, Try.ntmps43
      go_wp2_with fail
      refine (svalidDiagram _ _ _ _ _ h).mono ?_
      rw [HV.out]
      rintro e w2 ⟨rfl, hb2⟩
      go_wp2_with fail
      go_ret
      exact ⟨rfl, hb2⟩
theorem assigned (A : Option Addr) (n c : Nat) (m : Int) (xs : List Int) (w : World) (h : IntR w w.heap.size A n xs) :
    Calls Try.prog 80 #[.slice A n c, .int .i64 m] w fun e w' => e = .returned (.bool (decide ((n : Int) = m) && xs.all fun x => inB x 0 5)) ∧ Below w.heap.size w w' := by
  have hn := h.le
  by_cases hnm : (n : Int) = m
  · have hb1 : ((n : Int) == m) = true := by simpa using hnm
    rw [decide_eq_true hnm, Bool.true_and]
    have HN := Lib.hid hnm
    clear hnm
    go_enter Try.func80, Try.ntmps80
    go_wp2_with (go_at_call 56; refine (allIn _ _ _ _ _ _ _ h).mono ?_; rintro e w' ⟨rfl, hb⟩)
    go_ret
    exact ⟨rfl, hb⟩
  · have hb1 : ((n : Int) == m) = false := by simpa using hnm
    rw [decide_eq_false hnm, Bool.false_and]
    clear hnm
    go_enter Try.func80, Try.ntmps80
    go_wp2_with fail
    go_ret
    exact ⟨rfl, Below.refl _ _⟩
theorem assigned_b (A : Option Addr) (n c : Nat) (m : Int) (xs : List Int) (w : World) (b : Bool) (hb : (decide ((n : Int) = m) && xs.all fun x => inB x 0 5) = b) (h : IntR w w.heap.size A n xs) :
    Calls Try.prog 80 #[.slice A n c, .int .i64 m] w fun e w' => e = .returned (.bool b) ∧ Below w.heap.size w w' := by
  subst hb; exact assigned A n c m xs w h
set_option maxHeartbeats 1000000 in
theorem iDiagramAccepts (A B : Option Addr) (n m0 c c0 : Nat) (d : List (List (List Int))) (xs : List Int) (w : World) (h : LayersR w w.heap.size A n d) (hx : IntR w w.heap.size B m0 xs) :
    Calls Try.prog 44 #[.slice A n c, .slice B m0 c0] w fun e w' => e = .returned (.bool (accF d xs)) ∧ Below w.heap.size w w' := by
  have hn := h.le
  have hm0 := hx.le
  have hl := Lib.hid h.len
  have hlx := Lib.hid hx.len
  cases hv : vdgF d
  · have e : accF d xs = false := by unfold accF; rw [hv]; rfl
    rw [e]
    have HV := Lib.hid hv
    clear hv e
    go_enter Try.func44, Try.ntmps44
    go_wp2_with fail
    refine (iValidDiagram _ _ _ _ _ h).mono ?_
    rw [HV.out]
    rintro e w2 ⟨rfl, hb2⟩
    go_wp2_with fail
    go_ret
    exact ⟨rfl, hb2⟩
  · have HV := Lib.hid hv
    cases ha : (decide ((m0 : Int) = (n : Int)) && xs.all fun x => inB x 0 5)
    · have e : accF d xs = false := by
        unfold accF
        rw [hv, hl.out, hlx.out, Bool.true_and]
        have e2 : decide (m0 = n) = decide ((m0 : Int) = (n : Int)) := by rw [Bool.eq_iff_iff]; simp; omega
        rw [e2, ha]; rfl
      rw [e]
      have HA := Lib.hid ha
      clear hv e ha
      go_enter Try.func44, Try.ntmps44
      go_wp2_with fail
      refine (iValidDiagram _ _ _ _ _ h).mono ?_
      rw [HV.out]
      rintro e w2 ⟨rfl, hb2⟩
      go_wp2_with fail
      refine (assigned_b _ _ _ _ xs _ _ HA.out (hx.on hb2)).mono ?_
      rintro e w3 ⟨rfl, hb3⟩
      go_wp2_with fail
      go_ret
      exact ⟨rfl, bgo hb2 hb3⟩
    · have HA := Lib.hid ha
      rw [Bool.and_eq_true] at ha
      obtain rfl : m0 = n := by have := of_decide_eq_true ha.1; omega
      have HX5 := Lib.hid ha.2
      have HA := Lib.hid (show (decide ((m0 : Int) = (m0 : Int)) && xs.all fun x => inB x 0 5) = true by rw [HX5.out]; simp)
      clear ha hv
      go_enter Try.func44, Try.ntmps44
      go_wp2_with fail
      refine (iValidDiagram _ _ _ _ _ h).mono ?_
      rw [HV.out]
      rintro e w2 ⟨rfl, hb2⟩
      go_wp2_with fail
      refine (assigned_b _ _ _ (m0 : Int) xs _ true (by rw [HX5.out]; simp) (hx.on hb2)).mono ?_
      rintro e w3 ⟨rfl, hb3⟩
      have hb4 := bgo hb2 hb3
      clear hb2 hb3
      go_wp2_with fail
      go_loopw [5, 20] (fun t i wr => ∃ k a : Nat, k ≤ m0 ∧ i = .int .i64 k ∧ t = .int .i64 a ∧ Hid (AccInv d xs k a) ∧ Below w.heap.size w wr) (fun _ i _ => m0 - (intOf i).toNat)
      case atStart => exact ⟨0, 0, by omega, rfl, rfl, acc_start xs HV.out, hb4⟩
      case round =>
        obtain ⟨k, a, hk, rfl, rfl, hq, hb⟩ := hrel
        clear hb4
        by_cases hlt : k < m0
        · obtain ⟨ab, ao, l, u, rfl, hab, hxk, hcx, A1, c1, rfl, hl0⟩ := SlR.at_ (h.below (RowC.keeps (RowC.keeps IntC.keeps)) hb) hlt
          obtain ⟨bb, bo, v, rfl, hbb, hvk, hcv⟩ := IntR.at_ (hx.below IntC.keeps hb) hlt
          have hx05 := inB_true (List.all_eq_true.1 HX5.out v (List.mem_of_getElem? hvk))
          obtain ⟨r, e, hr, hr6, hre, hacc, he1, hinv⟩ := acc_step HV.out hq.out hxk hvk hx05
          obtain ⟨m, hm⟩ : ∃ m : Nat, v = (m : Int) := ⟨v.toNat, by omega⟩
          have hm6 : m < 6 := by omega
          rw [hm, Int.toNat_natCast] at hre
          have hal : a < l.length := hq.out.2.2 l hxk
          obtain ⟨lb, lo, r', u, rfl, hlb, hr', hcr, A2, c2, rfl, hr1⟩ := SlR.at_ hl0 hal
          rw [hr] at hr'
          injection hr' with hr'
          subst hr'
          rw [hr6] at hr1 hcr
          obtain ⟨rb, ro, e', rfl, hrb, hre', hce⟩ := IntR.at_ hr1 hm6
          rw [hre] at hre'
          injection hre' with hre'
          subst hre'
          have hll := hl0.le
          have HACC := Lib.hid hacc
          have HINV := Lib.hid hinv
          have HK := Lib.hid hxk
          rw [hm] at hcv
          clear hx05 hxk hvk hr hr6 hre hacc hinv hq hl0 hr1 hm
          by_cases he0 : 0 ≤ e
          · obtain ⟨a2, ha2⟩ : ∃ a2 : Nat, e = (a2 : Int) := ⟨e.toNat, by omega⟩
            rw [ha2] at hce
            have hin2 := HINV.out he0
            rw [ha2, Int.toNat_natCast] at hin2
            have HI2 := Lib.hid hin2
            clear hin2 ha2 he0 he1
            go_wp2_with fail
            go_roundw
            case rel => exact ⟨k + 1, a2, by omega, by go_num, rfl, HI2.out, hb⟩
            case measure => simp [intOf]; omega
          · have hem : e = -1 := by omega
            rw [hem] at hce HACC
            clear he0 he1 hem
            go_wp2_with fail
            go_ret
            exact ⟨ret_bool (acc_no hl.out hlt HACC.out (by omega)).symm, hb⟩
        · obtain rfl : k = m0 := by omega
          have hup := hq.out.2.1.done
          have HU := Lib.hid hup
          clear hup
          go_wp2_with fail
          go_ret
          exact ⟨ret_bool (by unfold accF; rw [HV.out, HX5.out, hl.out, hlx.out, HU.out]; simp), hb⟩
end Go.Proofs.Ytcgkbamcmpodoaa
