/- Valid constraints, by the reference. -/
import Derived.Test.YtfoodlhfmcfjeaaDoorConI
import Derived.Test.YtfoodlhfmcfjeaaDoorDistinct
namespace Go.Proofs.YtfoodlhfmcfjeaaDoor
open Go.ChangeShapes Go.WideShapes Go.ChangeAt Go.RowKit
open Go.Shelf
set_option linter.unusedVariables false
set_option maxRecDepth 100000

theorem inRange_b (n lo hi : Int) (w : World) (b : Bool) (h : inB n lo hi = b) : Calls Tryd.prog 25 #[.int .i64 n, .int .i64 lo, .int .i64 hi] w fun e w' => e = .returned (.bool b) ∧ w = w' := by
  subst h; exact inRange n lo hi w
theorem allInRange_b (A : Option Addr) (n c : Nat) (xs : List Int) (lo hi : Int) (w : World) (h : IntR w w.heap.size A n xs) (b : Bool) (hb : (xs.all fun x => inB x lo hi) = b) :
    Calls Tryd.prog 41 #[.slice A n c, .int .i64 lo, .int .i64 hi] w fun e w' => e = .returned (.bool b) ∧ Below w.heap.size w w' := by
  subst hb; exact allInRange A n c xs lo hi w h
set_option maxHeartbeats 4000000 in
theorem validRows (A : Option Addr) (n c : Nat) (rows : List (List Int)) (m lo hi : Int) (w : World) (h : RowsR w w.heap.size A n rows) :
    Calls Tryd.prog 43 #[.slice A n c, .int .i64 m, .int .i64 lo, .int .i64 hi] w fun e w' => e = .returned (.bool (rowsOk rows m lo hi)) ∧ Below w.heap.size w w' := by
  have hn := h.le
  have hl := Lib.hid h.len
  go_enter Tryd.func43, Tryd.ntmps43
  go_wp2_with fail
  go_loopw [9] (fun i wr => ∃ k : Nat, k ≤ n ∧ i = .int .i64 k ∧ Hid (AllB (rowIn m lo hi) rows k) ∧ Below w.heap.size w wr) (fun i _ => n - (intOf i).toNat)
  case atStart => exact ⟨0, by omega, rfl, AllB.zero _ _, Below.refl _ _⟩
  case round =>
    obtain ⟨k, hk, rfl, hq, hb⟩ := hrel
    by_cases hlt : k < n
    · obtain ⟨ab, ao, x, u, rfl, hab, hxk, hcx, A1, c1, rfl, hx1⟩ := SlR.at_ (h.below (RowC.keeps IntC.keeps) hb) hlt
      have HX := Lib.hid hxk
      have hw := hb.size
      have HX1 := Lib.hid (hx1.more IntC.widens hw)
      have q0 : wr.cell? ⟨ab, ao + k, none⟩ = some (.slice A1 x.length c1) := hcx
      clear hx1 hxk
      cases hp : ((x.length : Int) == m)
      · have hp2 : ((x.length : Int) != m) = true := by simp only [bne, hp]; rfl
        have HP := Lib.hid hp
        clear hp
        go_wp2_with fail
        go_ret
        refine ⟨ret_bool ?_, hb⟩
        unfold rowsOk
        rw [all_no (f := rowIn m lo hi) HX.out (by unfold rowIn; rw [HP.out]; rfl)]; simp
      · have hp2 : ((x.length : Int) != m) = false := by simp only [bne, hp]; rfl
        have HP := Lib.hid hp
        clear hp
        go_wp2_with fail
        refine (allInRange _ _ _ _ _ _ _ HX1.out).mono ?_
        cases hr : x.all fun y => inB y lo hi
        · have HR := Lib.hid hr
          clear hr
          rintro e w1 ⟨rfl, hb1⟩
          go_wp2_with fail
          go_ret
          refine ⟨ret_bool ?_, bgo hb hb1⟩
          unfold rowsOk
          rw [all_no (f := rowIn m lo hi) HX.out (by unfold rowIn; rw [HR.out]; simp)]; simp
        · have HR := Lib.hid hr
          clear hr
          rintro e w1 ⟨rfl, hb1⟩
          go_wp2_with fail
          go_roundw
          case rel => exact ⟨k + 1, by omega, by go_num, AllB.succ hq.out HX.out (by unfold rowIn; rw [HP.out, HR.out]; rfl), bgo hb hb1⟩
          case measure => simp [intOf]; omega
    · obtain rfl : k = n := by omega
      go_wp2_with fail
      refine (inRange _ _ _ _).mono ?_
      rintro e w1 ⟨rfl, rfl⟩
      go_wp2_with fail
      go_ret
      refine ⟨ret_bool ?_, hb⟩
      unfold rowsOk
      rw [AllB.done hq.out (Nat.le_of_eq hl.out), hl.out]; simp
set_option maxHeartbeats 8000000 in
theorem svalidConstraint (us : List Value) (c : Con) (m : Int) (w : World) (h : ConR w w.heap.size us c) :
    Calls Tryd.prog 24 #[.agg us.toArray, .int .i64 m] w fun e w' => e = .returned (.bool (vconF c m)) ∧ Below w.heap.size w w' := by
  obtain ⟨va, aa, ra, cv, ca, cr, rfl, g1, g2, g3, -⟩ := h
  obtain ⟨wa, hwa⟩ : ∃ wa, wa = w.alloc (.cells #[.int .i64 c.kind, .slice va c.vars.length cv, .slice aa c.args.length ca, .int .i64 c.bound, .slice ra c.rows.length cr] 50) := ⟨_, rfl⟩
  have hb0 : Below w.heap.size w wa := by rw [hwa]; exact b_alloc _ _
  have hsz : wa.heap.size = w.heap.size + 1 := by rw [hwa, size_alloc_]
  have ha : CBlk wa w.heap.size (.int .i64 c.kind) (.slice va c.vars.length cv) (.slice aa c.args.length ca) (.int .i64 c.bound) (.slice ra c.rows.length cr) := by
    rw [hwa]; exact CBlk.new w _ _ _ _ _
  have HA := Lib.hid ha
  have G1 := Lib.hid (IntR.on g1 hb0)
  have G2 := Lib.hid (IntR.on g2 hb0)
  have G3 := Lib.hid (SlR.on (RowC.keeps IntC.keeps) (RowC.widens IntC.widens) g3 hb0)
  obtain ⟨a0, a1, a2, a3, a4⟩ := ha.cells
  clear ha g1 g2 g3
  go_enter Tryd.func24, Tryd.ntmps24
  go_wp2_with fail
  rw [← hwa]
  clear hwa
  refine (inRange _ _ _ _).mono ?_
  rintro e w' ⟨rfl, rfl⟩
  cases h1 : inB (c.vars.length : Int) 1 m
  · have hE : vconF c m = false := by unfold vconF; rw [h1]; rfl
    have HE := Lib.hid hE
    clear hE h1
    go_wp2_with fail
    go_ret
    exact ⟨ret_bool HE.out.symm, hb0⟩
  have H1 := Lib.hid h1
  clear h1
  go_wp2_with fail
  refine (allInRange _ _ _ _ _ _ _ G1.out).mono ?_
  rintro e w1 ⟨rfl, hX⟩
  have hX0 := hX.size
  obtain ⟨a0, a1, a2, a3, a4⟩ := (HA.out.below hX (by omega)).cells
  cases h2 : (c.vars.all fun x => inB x 0 (wrap64 (m - 1)))
  · have hE : vconF c m = false := by unfold vconF; rw [h2]; simp
    have HE := Lib.hid hE
    clear hE h2
    go_wp2_with fail
    go_ret
    exact ⟨ret_bool HE.out.symm, bgo hb0 hX⟩
  have H2 := Lib.hid h2
  clear h2
  go_wp2_with fail
  refine (sdistinct _ _ _ _ _ (IntR.on G1.out hX)).mono ?_
  rintro e w2 ⟨rfl, hY⟩
  replace hX := bgo hX hY
  clear hY
  obtain ⟨a0, a1, a2, a3, a4⟩ := (HA.out.below hX (by omega)).cells
  cases h3 : disF c.vars
  · have hE : vconF c m = false := by unfold vconF; rw [h3]; simp
    have HE := Lib.hid hE
    clear hE h3
    go_wp2_with fail
    go_ret
    exact ⟨ret_bool HE.out.symm, bgo hb0 hX⟩
  have hfit : vconF c m = fitsF c := by unfold vconF; rw [H1.out, H2.out, h3]; rfl
  have HFIT := Lib.hid hfit
  have H3 := Lib.hid h3
  clear h3 hfit
  -- kinds
  by_cases k1 : c.kind = 1
  · rw [k1] at a0 HA
    have HK := Lib.hid k1
    clear k1
    cases t0 : ((c.args.length : Int) == (c.vars.length : Int))
    · have hE : fitsF c = false := by rw [fits1 HK.out, t0]; simp
      have HE := Lib.hid hE
      clear hE
      go_wp2_with fail
      go_ret
      exact ⟨ret_bool (HFIT.out.trans HE.out).symm, bgo hb0 hX⟩
    have T0 := Lib.hid t0
    go_wp2_with fail
    refine (allInRange _ _ _ _ _ _ _ (IntR.on G2.out hX)).mono ?_
    rintro e w21 ⟨rfl, hY1⟩
    replace hX := bgo hX hY1
    clear hY1 a0 a1 a2 a3 a4
    obtain ⟨a0, a1, a2, a3, a4⟩ := (HA.out.below hX (by omega)).cells
    cases t1 : (c.args.all fun x => inB x (-9) 9)
    · have hE : fitsF c = false := by rw [fits1 HK.out, T0.out, t1]; simp
      have HE := Lib.hid hE
      clear hE
      clear t1
      go_wp2_with fail
      go_ret
      exact ⟨ret_bool (HFIT.out.trans HE.out).symm, bgo hb0 hX⟩
    have T1 := Lib.hid t1
    clear t1
    go_wp2_with fail
    refine (inRange _ _ _ _).mono ?_
    rintro e w' ⟨rfl, rfl⟩
    cases t2 : inB c.bound (-999) 999
    · have hE : fitsF c = false := by rw [fits1 HK.out, T0.out, T1.out, t2]; simp
      have HE := Lib.hid hE
      clear hE
      clear t2
      go_wp2_with fail
      go_ret
      exact ⟨ret_bool (HFIT.out.trans HE.out).symm, bgo hb0 hX⟩
    have T2 := Lib.hid t2
    clear t2
    cases t3 : ((c.rows.length : Int) == 0)
    · have hE : fitsF c = false := by rw [fits1 HK.out, T0.out, T1.out, T2.out, t3]; simp
      have HE := Lib.hid hE
      clear hE
      go_wp2_with fail
      go_ret
      exact ⟨ret_bool (HFIT.out.trans HE.out).symm, bgo hb0 hX⟩
    have hE : fitsF c = true := by rw [fits1 HK.out, T0.out, T1.out, T2.out, t3]; simp
    have HE := Lib.hid hE
    clear hE
    go_wp2_with fail
    go_ret
    exact ⟨ret_bool (HFIT.out.trans HE.out).symm, bgo hb0 hX⟩
  by_cases k2 : c.kind = 2
  · rw [k2] at a0 HA
    have HK := Lib.hid k2
    clear k2
    cases t0 : ((c.vars.length : Int) == 2)
    · have hE : fitsF c = false := by rw [fits2 HK.out, t0]; simp
      have HE := Lib.hid hE
      clear hE
      go_wp2_with fail
      go_ret
      exact ⟨ret_bool (HFIT.out.trans HE.out).symm, bgo hb0 hX⟩
    have T0 := Lib.hid t0
    cases t1 : ((c.args.length : Int) == 1)
    · have hE : fitsF c = false := by rw [fits2 HK.out, T0.out, t1]; simp
      have HE := Lib.hid hE
      clear hE
      go_wp2_with fail
      go_ret
      exact ⟨ret_bool (HFIT.out.trans HE.out).symm, bgo hb0 hX⟩
    have T1 := Lib.hid t1
    go_wp2_with fail
    refine (allInRange _ _ _ _ _ _ _ (IntR.on G2.out hX)).mono ?_
    rintro e w21 ⟨rfl, hY1⟩
    replace hX := bgo hX hY1
    clear hY1 a0 a1 a2 a3 a4
    obtain ⟨a0, a1, a2, a3, a4⟩ := (HA.out.below hX (by omega)).cells
    cases t2 : (c.args.all fun x => inB x (-9) 9)
    · have hE : fitsF c = false := by rw [fits2 HK.out, T0.out, T1.out, t2]; simp
      have HE := Lib.hid hE
      clear hE
      clear t2
      go_wp2_with fail
      go_ret
      exact ⟨ret_bool (HFIT.out.trans HE.out).symm, bgo hb0 hX⟩
    have T2 := Lib.hid t2
    clear t2
    cases t3 : (c.bound == 0)
    · have hE : fitsF c = false := by rw [fits2 HK.out, T0.out, T1.out, T2.out, t3]; simp
      have HE := Lib.hid hE
      clear hE
      go_wp2_with fail
      go_ret
      exact ⟨ret_bool (HFIT.out.trans HE.out).symm, bgo hb0 hX⟩
    have T3 := Lib.hid t3
    cases t4 : ((c.rows.length : Int) == 0)
    · have hE : fitsF c = false := by rw [fits2 HK.out, T0.out, T1.out, T2.out, T3.out, t4]; simp
      have HE := Lib.hid hE
      clear hE
      go_wp2_with fail
      go_ret
      exact ⟨ret_bool (HFIT.out.trans HE.out).symm, bgo hb0 hX⟩
    have hE : fitsF c = true := by rw [fits2 HK.out, T0.out, T1.out, T2.out, T3.out, t4]; simp
    have HE := Lib.hid hE
    clear hE
    go_wp2_with fail
    go_ret
    exact ⟨ret_bool (HFIT.out.trans HE.out).symm, bgo hb0 hX⟩
  by_cases k3 : c.kind = 3
  · rw [k3] at a0 HA
    have HK := Lib.hid k3
    clear k3
    cases t0 : ((c.args.length : Int) == 0)
    · have hE : fitsF c = false := by rw [fits3 HK.out, t0]; simp
      have HE := Lib.hid hE
      clear hE
      go_wp2_with fail
      go_ret
      exact ⟨ret_bool (HFIT.out.trans HE.out).symm, bgo hb0 hX⟩
    have T0 := Lib.hid t0
    cases t1 : (c.bound == 0)
    · have hE : fitsF c = false := by rw [fits3 HK.out, T0.out, t1]; simp
      have HE := Lib.hid hE
      clear hE
      go_wp2_with fail
      go_ret
      exact ⟨ret_bool (HFIT.out.trans HE.out).symm, bgo hb0 hX⟩
    have T1 := Lib.hid t1
    cases t2 : ((c.rows.length : Int) == 0)
    · have hE : fitsF c = false := by rw [fits3 HK.out, T0.out, T1.out, t2]; simp
      have HE := Lib.hid hE
      clear hE
      go_wp2_with fail
      go_ret
      exact ⟨ret_bool (HFIT.out.trans HE.out).symm, bgo hb0 hX⟩
    have hE : fitsF c = true := by rw [fits3 HK.out, T0.out, T1.out, t2]; simp
    have HE := Lib.hid hE
    clear hE
    go_wp2_with fail
    go_ret
    exact ⟨ret_bool (HFIT.out.trans HE.out).symm, bgo hb0 hX⟩
  by_cases k9 : c.kind = 9
  · rw [k9] at a0 HA
    have HK := Lib.hid k9
    clear k9
    cases t0 : ((c.args.length : Int) == 0)
    · have hE : fitsF c = false := by rw [fits9 HK.out, t0]; simp
      have HE := Lib.hid hE
      clear hE
      go_wp2_with fail
      go_ret
      exact ⟨ret_bool (HFIT.out.trans HE.out).symm, bgo hb0 hX⟩
    have T0 := Lib.hid t0
    cases t1 : (c.bound == 0)
    · have hE : fitsF c = false := by rw [fits9 HK.out, T0.out, t1]; simp
      have HE := Lib.hid hE
      clear hE
      go_wp2_with fail
      go_ret
      exact ⟨ret_bool (HFIT.out.trans HE.out).symm, bgo hb0 hX⟩
    have T1 := Lib.hid t1
    cases t2 : ((c.rows.length : Int) == 0)
    · have hE : fitsF c = false := by rw [fits9 HK.out, T0.out, T1.out, t2]; simp
      have HE := Lib.hid hE
      clear hE
      go_wp2_with fail
      go_ret
      exact ⟨ret_bool (HFIT.out.trans HE.out).symm, bgo hb0 hX⟩
    have hE : fitsF c = true := by rw [fits9 HK.out, T0.out, T1.out, t2]; simp
    have HE := Lib.hid hE
    clear hE
    go_wp2_with fail
    go_ret
    exact ⟨ret_bool (HFIT.out.trans HE.out).symm, bgo hb0 hX⟩
  by_cases k4 : c.kind = 4
  · rw [k4] at a0 HA
    have HK := Lib.hid k4
    clear k4
    cases t0 : ((c.vars.length : Int) == 2)
    · have hE : fitsF c = false := by rw [fits4 HK.out, t0]; simp
      have HE := Lib.hid hE
      clear hE
      go_wp2_with fail
      go_ret
      exact ⟨ret_bool (HFIT.out.trans HE.out).symm, bgo hb0 hX⟩
    have T0 := Lib.hid t0
    go_wp2_with fail
    refine (inRange _ _ _ _).mono ?_
    rintro e w' ⟨rfl, rfl⟩
    cases t1 : inB (c.args.length : Int) 1 6
    · have hE : fitsF c = false := by rw [fits4 HK.out, T0.out, t1]; simp
      have HE := Lib.hid hE
      clear hE
      clear t1
      go_wp2_with fail
      go_ret
      exact ⟨ret_bool (HFIT.out.trans HE.out).symm, bgo hb0 hX⟩
    have T1 := Lib.hid t1
    clear t1
    go_wp2_with fail
    refine (allInRange _ _ _ _ _ _ _ (IntR.on G2.out hX)).mono ?_
    rintro e w21 ⟨rfl, hY1⟩
    replace hX := bgo hX hY1
    clear hY1 a0 a1 a2 a3 a4
    obtain ⟨a0, a1, a2, a3, a4⟩ := (HA.out.below hX (by omega)).cells
    cases t2 : (c.args.all fun x => inB x 0 5)
    · have hE : fitsF c = false := by rw [fits4 HK.out, T0.out, T1.out, t2]; simp
      have HE := Lib.hid hE
      clear hE
      clear t2
      go_wp2_with fail
      go_ret
      exact ⟨ret_bool (HFIT.out.trans HE.out).symm, bgo hb0 hX⟩
    have T2 := Lib.hid t2
    clear t2
    cases t3 : (c.bound == 0)
    · have hE : fitsF c = false := by rw [fits4 HK.out, T0.out, T1.out, T2.out, t3]; simp
      have HE := Lib.hid hE
      clear hE
      go_wp2_with fail
      go_ret
      exact ⟨ret_bool (HFIT.out.trans HE.out).symm, bgo hb0 hX⟩
    have T3 := Lib.hid t3
    cases t4 : ((c.rows.length : Int) == 0)
    · have hE : fitsF c = false := by rw [fits4 HK.out, T0.out, T1.out, T2.out, T3.out, t4]; simp
      have HE := Lib.hid hE
      clear hE
      go_wp2_with fail
      go_ret
      exact ⟨ret_bool (HFIT.out.trans HE.out).symm, bgo hb0 hX⟩
    have hE : fitsF c = true := by rw [fits4 HK.out, T0.out, T1.out, T2.out, T3.out, t4]; simp
    have HE := Lib.hid hE
    clear hE
    go_wp2_with fail
    go_ret
    exact ⟨ret_bool (HFIT.out.trans HE.out).symm, bgo hb0 hX⟩
  by_cases k5 : c.kind = 5
  · rw [k5] at a0 HA
    have HK := Lib.hid k5
    clear k5
    cases t0 : ((c.args.length : Int) == 0)
    · have hE : fitsF c = false := by rw [fits5 HK.out, t0]; simp
      have HE := Lib.hid hE
      clear hE
      go_wp2_with fail
      go_ret
      exact ⟨ret_bool (HFIT.out.trans HE.out).symm, bgo hb0 hX⟩
    have T0 := Lib.hid t0
    cases t1 : (c.bound == 0)
    · have hE : fitsF c = false := by rw [fits5 HK.out, T0.out, t1]; simp
      have HE := Lib.hid hE
      clear hE
      go_wp2_with fail
      go_ret
      exact ⟨ret_bool (HFIT.out.trans HE.out).symm, bgo hb0 hX⟩
    have T1 := Lib.hid t1
    go_wp2_with fail
    refine (validRows _ _ _ _ _ _ _ _ (SlR.on (RowC.keeps IntC.keeps) (RowC.widens IntC.widens) G3.out hX)).mono ?_
    rintro e w21 ⟨rfl, hY1⟩
    replace hX := bgo hX hY1
    clear hY1 a0 a1 a2 a3 a4
    obtain ⟨a0, a1, a2, a3, a4⟩ := (HA.out.below hX (by omega)).cells
    cases t2 : rowsOk c.rows (c.vars.length : Int) 0 5
    · have hE : fitsF c = false := by rw [fits5 HK.out, T0.out, T1.out, t2]; simp
      have HE := Lib.hid hE
      clear hE
      clear t2
      go_wp2_with fail
      go_ret
      exact ⟨ret_bool (HFIT.out.trans HE.out).symm, bgo hb0 hX⟩
    have hE : fitsF c = true := by rw [fits5 HK.out, T0.out, T1.out, t2]; simp
    have HE := Lib.hid hE
    clear hE
    clear t2
    go_wp2_with fail
    go_ret
    exact ⟨ret_bool (HFIT.out.trans HE.out).symm, bgo hb0 hX⟩
  by_cases k6 : c.kind = 6
  · rw [k6] at a0 HA
    have HK := Lib.hid k6
    clear k6
    cases t0 : ((c.args.length : Int) == 1)
    · have hE : fitsF c = false := by rw [fits6 HK.out, t0]; simp
      have HE := Lib.hid hE
      clear hE
      go_wp2_with fail
      go_ret
      exact ⟨ret_bool (HFIT.out.trans HE.out).symm, bgo hb0 hX⟩
    have T0 := Lib.hid t0
    go_wp2_with fail
    refine (allInRange _ _ _ _ _ _ _ (IntR.on G2.out hX)).mono ?_
    rintro e w21 ⟨rfl, hY1⟩
    replace hX := bgo hX hY1
    clear hY1 a0 a1 a2 a3 a4
    obtain ⟨a0, a1, a2, a3, a4⟩ := (HA.out.below hX (by omega)).cells
    cases t1 : (c.args.all fun x => inB x 0 5)
    · have hE : fitsF c = false := by rw [fits6 HK.out, T0.out, t1]; simp
      have HE := Lib.hid hE
      clear hE
      clear t1
      go_wp2_with fail
      go_ret
      exact ⟨ret_bool (HFIT.out.trans HE.out).symm, bgo hb0 hX⟩
    have T1 := Lib.hid t1
    clear t1
    go_wp2_with fail
    refine (inRange _ _ _ _).mono ?_
    rintro e w' ⟨rfl, rfl⟩
    cases t2 : inB c.bound 0 4
    · have hE : fitsF c = false := by rw [fits6 HK.out, T0.out, T1.out, t2]; simp
      have HE := Lib.hid hE
      clear hE
      clear t2
      go_wp2_with fail
      go_ret
      exact ⟨ret_bool (HFIT.out.trans HE.out).symm, bgo hb0 hX⟩
    have T2 := Lib.hid t2
    clear t2
    cases t3 : ((c.rows.length : Int) == 0)
    · have hE : fitsF c = false := by rw [fits6 HK.out, T0.out, T1.out, T2.out, t3]; simp
      have HE := Lib.hid hE
      clear hE
      go_wp2_with fail
      go_ret
      exact ⟨ret_bool (HFIT.out.trans HE.out).symm, bgo hb0 hX⟩
    have hE : fitsF c = true := by rw [fits6 HK.out, T0.out, T1.out, T2.out, t3]; simp
    have HE := Lib.hid hE
    clear hE
    go_wp2_with fail
    go_ret
    exact ⟨ret_bool (HFIT.out.trans HE.out).symm, bgo hb0 hX⟩
  by_cases k7 : c.kind = 7
  · rw [k7] at a0 HA
    have HK := Lib.hid k7
    clear k7
    cases t0 : ((c.args.length : Int) == wrap64 (2 * (c.vars.length : Int)))
    · have hE : fitsF c = false := by rw [fits7 HK.out, t0]; simp
      have HE := Lib.hid hE
      clear hE
      go_wp2_with fail
      go_ret
      exact ⟨ret_bool (HFIT.out.trans HE.out).symm, bgo hb0 hX⟩
    have T0 := Lib.hid t0
    go_wp2_with fail
    refine (allInRange _ _ _ _ _ _ _ (IntR.on G2.out hX)).mono ?_
    rintro e w21 ⟨rfl, hY1⟩
    replace hX := bgo hX hY1
    clear hY1 a0 a1 a2 a3 a4
    obtain ⟨a0, a1, a2, a3, a4⟩ := (HA.out.below hX (by omega)).cells
    cases t1 : (c.args.all fun x => inB x 0 9)
    · have hE : fitsF c = false := by rw [fits7 HK.out, T0.out, t1]; simp
      have HE := Lib.hid hE
      clear hE
      clear t1
      go_wp2_with fail
      go_ret
      exact ⟨ret_bool (HFIT.out.trans HE.out).symm, bgo hb0 hX⟩
    have T1 := Lib.hid t1
    clear t1
    go_wp2_with fail
    refine (inRange _ _ _ _).mono ?_
    rintro e w' ⟨rfl, rfl⟩
    cases t2 : inB c.bound 0 9
    · have hE : fitsF c = false := by rw [fits7 HK.out, T0.out, T1.out, t2]; simp
      have HE := Lib.hid hE
      clear hE
      clear t2
      go_wp2_with fail
      go_ret
      exact ⟨ret_bool (HFIT.out.trans HE.out).symm, bgo hb0 hX⟩
    have T2 := Lib.hid t2
    clear t2
    cases t3 : ((c.rows.length : Int) == 0)
    · have hE : fitsF c = false := by rw [fits7 HK.out, T0.out, T1.out, T2.out, t3]; simp
      have HE := Lib.hid hE
      clear hE
      go_wp2_with fail
      go_ret
      exact ⟨ret_bool (HFIT.out.trans HE.out).symm, bgo hb0 hX⟩
    have hE : fitsF c = true := by rw [fits7 HK.out, T0.out, T1.out, T2.out, t3]; simp
    have HE := Lib.hid hE
    clear hE
    go_wp2_with fail
    go_ret
    exact ⟨ret_bool (HFIT.out.trans HE.out).symm, bgo hb0 hX⟩
  by_cases k8 : c.kind = 8
  · rw [k8] at a0 HA
    have HK := Lib.hid k8
    clear k8
    go_wp2_with fail
    refine (validRows _ _ _ _ _ _ _ _ (SlR.on (RowC.keeps IntC.keeps) (RowC.widens IntC.widens) G3.out hX)).mono ?_
    rintro e w21 ⟨rfl, hY1⟩
    replace hX := bgo hX hY1
    clear hY1 a0 a1 a2 a3 a4
    obtain ⟨a0, a1, a2, a3, a4⟩ := (HA.out.below hX (by omega)).cells
    cases t0 : rowsOk c.rows 6 (-1) (wrap64 ((c.rows.length : Int) - 1))
    · have hE : fitsF c = false := by rw [fits8 HK.out, t0]; simp
      have HE := Lib.hid hE
      clear hE
      clear t0
      go_wp2_with fail
      go_ret
      exact ⟨ret_bool (HFIT.out.trans HE.out).symm, bgo hb0 hX⟩
    have T0 := Lib.hid t0
    clear t0
    go_wp2_with fail
    refine (allInRange _ _ _ _ _ _ _ (IntR.on G2.out hX)).mono ?_
    rintro e w22 ⟨rfl, hY2⟩
    replace hX := bgo hX hY2
    clear hY2 a0 a1 a2 a3 a4
    obtain ⟨a0, a1, a2, a3, a4⟩ := (HA.out.below hX (by omega)).cells
    cases t1 : (c.args.all fun x => inB x 0 (wrap64 ((c.rows.length : Int) - 1)))
    · have hE : fitsF c = false := by rw [fits8 HK.out, T0.out, t1]; simp
      have HE := Lib.hid hE
      clear hE
      clear t1
      go_wp2_with fail
      go_ret
      exact ⟨ret_bool (HFIT.out.trans HE.out).symm, bgo hb0 hX⟩
    have T1 := Lib.hid t1
    clear t1
    go_wp2_with fail
    refine (sdistinct _ _ _ _ _ (IntR.on G2.out hX)).mono ?_
    rintro e w23 ⟨rfl, hY3⟩
    replace hX := bgo hX hY3
    clear hY3 a0 a1 a2 a3 a4
    obtain ⟨a0, a1, a2, a3, a4⟩ := (HA.out.below hX (by omega)).cells
    cases t2 : disF c.args
    · have hE : fitsF c = false := by rw [fits8 HK.out, T0.out, T1.out, t2]; simp
      have HE := Lib.hid hE
      clear hE
      clear t2
      go_wp2_with fail
      go_ret
      exact ⟨ret_bool (HFIT.out.trans HE.out).symm, bgo hb0 hX⟩
    have T2 := Lib.hid t2
    clear t2
    cases t3 : (c.bound == 0)
    · have hE : fitsF c = false := by rw [fits8 HK.out, T0.out, T1.out, T2.out, t3]; simp
      have HE := Lib.hid hE
      clear hE
      go_wp2_with fail
      go_ret
      exact ⟨ret_bool (HFIT.out.trans HE.out).symm, bgo hb0 hX⟩
    have hE : fitsF c = true := by rw [fits8 HK.out, T0.out, T1.out, T2.out, t3]; simp
    have HE := Lib.hid hE
    clear hE
    go_wp2_with fail
    go_ret
    exact ⟨ret_bool (HFIT.out.trans HE.out).symm, bgo hb0 hX⟩
  have HE := Lib.hid (fits0 k1 k2 k3 k9 k4 k5 k6 k7 k8)
  have b1 : (c.kind == 1) = false := by simpa using k1
  have b2 : (c.kind == 2) = false := by simpa using k2
  have b3 : (c.kind == 3) = false := by simpa using k3
  have b9 : (c.kind == 9) = false := by simpa using k9
  have b4 : (c.kind == 4) = false := by simpa using k4
  have b5 : (c.kind == 5) = false := by simpa using k5
  have b6 : (c.kind == 6) = false := by simpa using k6
  have b7 : (c.kind == 7) = false := by simpa using k7
  have b8 : (c.kind == 8) = false := by simpa using k8
  clear k1 k2 k3 k9 k4 k5 k6 k7 k8
  go_wp2_with fail
  go_ret
  exact ⟨ret_bool (HFIT.out.trans HE.out).symm, bgo hb0 hX⟩
  -- end kinds
end Go.Proofs.YtfoodlhfmcfjeaaDoor
