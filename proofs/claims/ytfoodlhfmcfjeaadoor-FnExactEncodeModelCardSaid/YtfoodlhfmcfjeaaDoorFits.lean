/- Valid constraints, by the program. -/
import Derived.Test.YtfoodlhfmcfjeaaDoorConI
import Derived.Test.YtfoodlhfmcfjeaaDoorDistinct
namespace Go.Proofs.YtfoodlhfmcfjeaaDoor
open Go.ChangeShapes Go.WideShapes Go.ChangeAt Go.RowKit
open Go.Shelf
set_option linter.unusedVariables false
set_option maxRecDepth 100000

theorem allIn_b (A : Option Addr) (n c : Nat) (xs : List Int) (lo hi : Int) (w : World) (h : IntR w w.heap.size A n xs) (b : Bool) (hb : (xs.all fun x => inB x lo hi) = b) :
    Calls Tryd.prog 50 #[.slice A n c, .int .i64 lo, .int .i64 hi] w fun e w' => e = .returned (.bool b) ∧ Below w.heap.size w w' := by
  subst hb; exact allIn A n c xs lo hi w h
set_option maxHeartbeats 4000000 in
theorem rowsInC (A : Option Addr) (c : Nat) (x : List Int) (m lo hi : Int) (b1 b2 b3 : Nat) (w : World) (h1 : w.cell? ⟨b1, 0, none⟩ = some (.int .i64 m)) (h2 : w.cell? ⟨b2, 0, none⟩ = some (.int .i64 lo)) (h3 : w.cell? ⟨b3, 0, none⟩ = some (.int .i64 hi)) (h : IntR w w.heap.size A x.length x) :
    Calls Tryd.prog 69 (#[.slice A x.length c] ++ #[.pointer (some ⟨b1, 0, none⟩), .pointer (some ⟨b2, 0, none⟩), .pointer (some ⟨b3, 0, none⟩)]) w fun e w' => e = .returned (.bool (!rowIn m lo hi x)) ∧ Below w.heap.size w w' := by
  have HX := Lib.hid h
  clear h
  cases hp : ((x.length : Int) == m)
  · have hp2 : ((x.length : Int) != m) = true := by simp only [bne, hp]; rfl
    have HP := Lib.hid hp
    clear hp
    go_enter Tryd.func69, Tryd.ntmps69
    go_wp2_with fail
    go_ret
    exact ⟨ret_bool (by unfold rowIn; rw [HP.out]; rfl), Below.refl _ _⟩
  · have hp2 : ((x.length : Int) != m) = false := by simp only [bne, hp]; rfl
    have HP := Lib.hid hp
    clear hp
    go_enter Tryd.func69, Tryd.ntmps69
    go_wp2_with fail
    refine (allIn _ _ _ _ _ _ _ HX.out).mono ?_
    rintro e w1 ⟨rfl, hb1⟩
    go_wp2_with fail
    go_ret
    exact ⟨ret_bool (by unfold rowIn; rw [HP.out]; rfl), hb1⟩
set_option maxHeartbeats 4000000 in
theorem rowsIn (A : Option Addr) (n c : Nat) (rows : List (List Int)) (m lo hi : Int) (w : World) (h : RowsR w w.heap.size A n rows) :
    Calls Tryd.prog 63 #[.slice A n c, .int .i64 m, .int .i64 lo, .int .i64 hi] w fun e w' => e = .returned (.bool (rowsOk rows m lo hi)) ∧ Below w.heap.size w w' := by
  have hl := Lib.hid h.len
  have H := Lib.hid h
  clear h
  obtain ⟨wa, hwa⟩ : ∃ wa, wa = ((w.alloc (.cells #[.int .i64 m] 3)).alloc (.cells #[.int .i64 lo] 3)).alloc (.cells #[.int .i64 hi] 3) := ⟨_, rfl⟩
  have hb0 : Below w.heap.size w wa := by rw [hwa]; exact b_alloc3 _ _ _ _
  have hsz : wa.heap.size = w.heap.size + 1 + 1 + 1 := by rw [hwa, size_alloc_, size_alloc_, size_alloc_]
  have c1 : wa.cell? ⟨w.heap.size, 0, none⟩ = some (.int .i64 m) := by
    rw [hwa, World.cell?_alloc_past _ _ _ (by rw [size_alloc_, size_alloc_]; omega), World.cell?_alloc_past _ _ _ (by rw [size_alloc_]; omega), World.cell?_alloc_at _ _ _ _ rfl]; rfl
  have c2 : wa.cell? ⟨w.heap.size + 1, 0, none⟩ = some (.int .i64 lo) := by
    rw [hwa, World.cell?_alloc_past _ _ _ (by rw [size_alloc_, size_alloc_]; omega), World.cell?_alloc_at _ _ _ _ (size_alloc_ _ _).symm]; rfl
  have c3 : wa.cell? ⟨w.heap.size + 1 + 1, 0, none⟩ = some (.int .i64 hi) := by
    rw [hwa, World.cell?_alloc_at _ _ _ _ (by rw [size_alloc_, size_alloc_])]; rfl
  go_enter Tryd.func63, Tryd.ntmps63
  go_wp2_with fail
  rw [← hwa]
  clear hwa
  refine (within _ _ _ _).mono ?_
  rintro e w' ⟨rfl, rfl⟩
  cases t0 : inB (n : Int) 1 8
  · have hE : rowsOk rows m lo hi = false := by unfold rowsOk; rw [hl.out, t0]; rfl
    have HE := Lib.hid hE
    clear hE t0
    go_wp2_with fail
    go_ret
    exact ⟨ret_bool HE.out.symm, hb0⟩
  have T0 := Lib.hid t0
  clear t0
  go_wp2_with fail
  refine (containsFuncRow A n c rows 69 _ (fun x => !rowIn m lo hi x) _ (enters_of Tryd.func69 (by kernel_rfl) rfl) (RowsR.on H.out hb0) (fun k x W A1 d1 _ hW hx => (rowsInC A1 d1 x m lo hi _ _ _ W ((hW.cell (p := ⟨_, _, none⟩) (by show w.heap.size < _; omega)).trans c1) ((hW.cell (p := ⟨_, _, none⟩) (by show w.heap.size + 1 < _; omega)).trans c2) ((hW.cell (p := ⟨_, _, none⟩) (by show w.heap.size + 1 + 1 < _; omega)).trans c3) hx))).mono ?_
  rintro e w2 ⟨rfl, hb2⟩
  have e1 : (!(rows.any fun x => !rowIn m lo hi x)) = rowsOk rows m lo hi := by unfold rowsOk; rw [hl.out, T0.out, List.all_eq_not_any_not]; rfl
  have HE := Lib.hid e1
  clear e1 c1 c2 c3
  go_wp2_with fail
  go_ret
  exact ⟨ret_bool HE.out, bgo hb0 hb2⟩
-- lemmas
theorem fiti1 {c : Con} (h : c.kind = 1) : fitsF c = ((((c.args.length : Int) == (c.vars.length : Int)) && c.args.all fun x => inB x (-9) 9) && (inB c.bound (-999) 999 && ((c.rows.length : Int) == 0))) := by
  first | exact fits1 h | (rw [fits1 h]; ac_rfl)
theorem fiti2 {c : Con} (h : c.kind = 2) : fitsF c = (((c.vars.length : Int) == 2) && ((((c.args.length : Int) == 1) && c.args.all fun x => inB x (-9) 9) && ((c.bound == 0) && ((c.rows.length : Int) == 0)))) := by
  first | exact fits2 h | (rw [fits2 h]; ac_rfl)
theorem fiti3 {c : Con} (h : c.kind = 3) : fitsF c = (((c.args.length : Int) == 0) && ((c.bound == 0) && ((c.rows.length : Int) == 0))) := by
  first | exact fits3 h | (rw [fits3 h]; ac_rfl)
theorem fiti9 {c : Con} (h : c.kind = 9) : fitsF c = (((c.args.length : Int) == 0) && ((c.bound == 0) && ((c.rows.length : Int) == 0))) := by
  first | exact fits9 h | (rw [fits9 h]; ac_rfl)
theorem fiti4 {c : Con} (h : c.kind = 4) : fitsF c = (((c.vars.length : Int) == 2) && (inB (c.args.length : Int) 1 6 && ((c.args.all fun x => inB x 0 5) && ((c.bound == 0) && ((c.rows.length : Int) == 0))))) := by
  first | exact fits4 h | (rw [fits4 h]; ac_rfl)
theorem fiti5 {c : Con} (h : c.kind = 5) : fitsF c = (((c.args.length : Int) == 0) && ((c.bound == 0) && rowsOk c.rows (c.vars.length : Int) 0 5)) := by
  first | exact fits5 h | (rw [fits5 h]; ac_rfl)
theorem fiti6 {c : Con} (h : c.kind = 6) : fitsF c = ((((c.args.length : Int) == 1) && c.args.all fun x => inB x 0 5) && (inB c.bound 0 4 && ((c.rows.length : Int) == 0))) := by
  first | exact fits6 h | (rw [fits6 h]; ac_rfl)
theorem fiti7 {c : Con} (h : c.kind = 7) : fitsF c = ((((c.args.length : Int) == (wrap64 (2 * (c.vars.length : Int)))) && c.args.all fun x => inB x 0 9) && (inB c.bound 0 9 && ((c.rows.length : Int) == 0))) := by
  first | exact fits7 h | (rw [fits7 h]; ac_rfl)
theorem fiti8 {c : Con} (h : c.kind = 8) : fitsF c = (rowsOk c.rows 6 (-1) (wrap64 ((c.rows.length : Int) - 1)) && (disF c.args && ((c.args.all fun x => inB x 0 (wrap64 ((c.rows.length : Int) - 1))) && (c.bound == 0)))) := by
  first | exact fits8 h | (rw [fits8 h]; ac_rfl)
-- end lemmas
set_option maxHeartbeats 4000000 in
theorem fitsC (b : Nat) (c : Con) (m lo hi : Int) (w : World) (aa : Option Addr) {ca : Nat} (h : IntR w w.heap.size aa c.args.length c.args) (h2 : w.cell? ⟨b, 2, none⟩ = some (.slice aa c.args.length ca)) :
    Calls Tryd.prog 62 #[.int .i64 m, .int .i64 lo, .int .i64 hi, .pointer (some ⟨b, 0, none⟩)] w fun e w' => e = .returned (.bool (((c.args.length : Int) == m) && c.args.all fun x => inB x lo hi)) ∧ Below w.heap.size w w' := by
  have HX := Lib.hid h
  clear h
  cases hp : ((c.args.length : Int) == m)
  · have HP := Lib.hid hp
    go_enter Tryd.func62, Tryd.ntmps62
    go_wp2_with fail
    go_ret
    exact ⟨rfl, Below.refl _ _⟩
  · have HP := Lib.hid hp
    go_enter Tryd.func62, Tryd.ntmps62
    go_wp2_with fail
    refine (allIn _ _ _ _ _ _ _ HX.out).mono ?_
    rintro e w1 ⟨rfl, hb1⟩
    clear hp
    go_wp2_with fail
    go_ret
    exact ⟨rfl, hb1⟩
set_option maxHeartbeats 8000000 in
theorem ifits (us : List Value) (c : Con) (w : World) (h : ConR w w.heap.size us c) :
    Calls Tryd.prog 53 #[.agg us.toArray] w fun e w' => e = .returned (.bool (fitsF c)) ∧ Below w.heap.size w w' := by
  obtain ⟨va, aa, ra, cv, ca, cr, rfl, g1, g2, g3, cap1, cap2⟩ := h
  obtain ⟨wa, hwa⟩ : ∃ wa, wa = w.alloc (.cells #[.int .i64 c.kind, .slice va c.vars.length cv, .slice aa c.args.length ca, .int .i64 c.bound, .slice ra c.rows.length cr] 50) := ⟨_, rfl⟩
  have hb0 : Below w.heap.size w wa := by rw [hwa]; exact b_alloc _ _
  have hsz : wa.heap.size = w.heap.size + 1 := by rw [hwa, size_alloc_]
  have ha : CBlk wa w.heap.size (.int .i64 c.kind) (.slice va c.vars.length cv) (.slice aa c.args.length ca) (.int .i64 c.bound) (.slice ra c.rows.length cr) := by
    rw [hwa]; exact CBlk.new w _ _ _ _ _
  have HA := Lib.hid ha
  have K2 := Lib.hid cap2
  have G1 := Lib.hid (IntR.on g1 hb0)
  have G2 := Lib.hid (IntR.on g2 hb0)
  have G3 := Lib.hid (SlR.on (RowC.keeps IntC.keeps) (RowC.widens IntC.widens) g3 hb0)
  obtain ⟨a0, a1, a2, a3, a4⟩ := ha.cells
  have hX : Below wa.heap.size wa wa := Below.refl _ _
  have eg := enters_of Tryd.func62 (by kernel_rfl) rfl
  clear ha g1 g2 g3 cap1 cap2
  go_enter Tryd.func53, Tryd.ntmps53
  go_wp2_with fail
  rw [← hwa]
  clear hwa
  go_quiet (fail)
  clear a0 a1 a2 a3 a4 hX
  generalize hwz : wa.drewN _ = wz
  have hX : Below wa.heap.size wa wz := by rw [← hwz]; exact below_drewN (Below.refl _ _) _
  clear hwz
  obtain ⟨a0, a1, a2, a3, a4⟩ := (HA.out.below hX (by omega)).cells
  -- kinds
  by_cases k1 : c.kind = 1
  · rw [k1] at a0 HA
    have HK := Lib.hid k1
    clear k1
    go_wp2_with fail
    refine (fitsC _ c _ _ _ _ _ (IntR.on G2.out hX) a2).mono ?_
    rintro e w21 ⟨rfl, hY1⟩
    replace hX := bgo hX hY1
    clear hY1 a0 a1 a2 a3 a4
    obtain ⟨a0, a1, a2, a3, a4⟩ := (HA.out.below hX (by omega)).cells
    cases t0 : (((c.args.length : Int) == (c.vars.length : Int)) && c.args.all fun x => inB x (-9) 9)
    · have hE : fitsF c = false := by rw [fiti1 HK.out, t0]; simp
      have HE := Lib.hid hE
      clear hE
      clear t0
      go_wp2_with fail
      go_ret
      exact ⟨ret_bool HE.out.symm, bgo hb0 hX⟩
    have T0 := Lib.hid t0
    clear t0
    go_wp2_with fail
    refine (within _ _ _ _).mono ?_
    rintro e w' ⟨rfl, rfl⟩
    cases t1 : inB c.bound (-999) 999
    · have hE : fitsF c = false := by rw [fiti1 HK.out, T0.out, t1]; simp
      have HE := Lib.hid hE
      clear hE
      clear t1
      go_wp2_with fail
      go_ret
      exact ⟨ret_bool HE.out.symm, bgo hb0 hX⟩
    have T1 := Lib.hid t1
    clear t1
    cases t2 : ((c.rows.length : Int) == 0)
    · have hE : fitsF c = false := by rw [fiti1 HK.out, T0.out, T1.out, t2]; simp
      have HE := Lib.hid hE
      clear hE
      go_wp2_with fail
      go_ret
      exact ⟨ret_bool HE.out.symm, bgo hb0 hX⟩
    have hE : fitsF c = true := by rw [fiti1 HK.out, T0.out, T1.out, t2]; simp
    have HE := Lib.hid hE
    clear hE
    go_wp2_with fail
    go_ret
    exact ⟨ret_bool HE.out.symm, bgo hb0 hX⟩
  by_cases k2 : c.kind = 2
  · rw [k2] at a0 HA
    have HK := Lib.hid k2
    clear k2
    cases t0 : ((c.vars.length : Int) == 2)
    · have hE : fitsF c = false := by rw [fiti2 HK.out, t0]; simp
      have HE := Lib.hid hE
      clear hE
      go_wp2_with fail
      go_ret
      exact ⟨ret_bool HE.out.symm, bgo hb0 hX⟩
    have T0 := Lib.hid t0
    go_wp2_with fail
    refine (fitsC _ c _ _ _ _ _ (IntR.on G2.out hX) a2).mono ?_
    rintro e w21 ⟨rfl, hY1⟩
    replace hX := bgo hX hY1
    clear hY1 a0 a1 a2 a3 a4
    obtain ⟨a0, a1, a2, a3, a4⟩ := (HA.out.below hX (by omega)).cells
    cases t1 : (((c.args.length : Int) == 1) && c.args.all fun x => inB x (-9) 9)
    · have hE : fitsF c = false := by rw [fiti2 HK.out, T0.out, t1]; simp
      have HE := Lib.hid hE
      clear hE
      clear t1
      go_wp2_with fail
      go_ret
      exact ⟨ret_bool HE.out.symm, bgo hb0 hX⟩
    have T1 := Lib.hid t1
    clear t1
    cases t2 : (c.bound == 0)
    · have hE : fitsF c = false := by rw [fiti2 HK.out, T0.out, T1.out, t2]; simp
      have HE := Lib.hid hE
      clear hE
      go_wp2_with fail
      go_ret
      exact ⟨ret_bool HE.out.symm, bgo hb0 hX⟩
    have T2 := Lib.hid t2
    cases t3 : ((c.rows.length : Int) == 0)
    · have hE : fitsF c = false := by rw [fiti2 HK.out, T0.out, T1.out, T2.out, t3]; simp
      have HE := Lib.hid hE
      clear hE
      go_wp2_with fail
      go_ret
      exact ⟨ret_bool HE.out.symm, bgo hb0 hX⟩
    have hE : fitsF c = true := by rw [fiti2 HK.out, T0.out, T1.out, T2.out, t3]; simp
    have HE := Lib.hid hE
    clear hE
    go_wp2_with fail
    go_ret
    exact ⟨ret_bool HE.out.symm, bgo hb0 hX⟩
  by_cases k3 : c.kind = 3
  · rw [k3] at a0 HA
    have HK := Lib.hid k3
    clear k3
    cases t0 : ((c.args.length : Int) == 0)
    · have hE : fitsF c = false := by rw [fiti3 HK.out, t0]; simp
      have HE := Lib.hid hE
      clear hE
      go_wp2_with fail
      go_ret
      exact ⟨ret_bool HE.out.symm, bgo hb0 hX⟩
    have T0 := Lib.hid t0
    cases t1 : (c.bound == 0)
    · have hE : fitsF c = false := by rw [fiti3 HK.out, T0.out, t1]; simp
      have HE := Lib.hid hE
      clear hE
      go_wp2_with fail
      go_ret
      exact ⟨ret_bool HE.out.symm, bgo hb0 hX⟩
    have T1 := Lib.hid t1
    cases t2 : ((c.rows.length : Int) == 0)
    · have hE : fitsF c = false := by rw [fiti3 HK.out, T0.out, T1.out, t2]; simp
      have HE := Lib.hid hE
      clear hE
      go_wp2_with fail
      go_ret
      exact ⟨ret_bool HE.out.symm, bgo hb0 hX⟩
    have hE : fitsF c = true := by rw [fiti3 HK.out, T0.out, T1.out, t2]; simp
    have HE := Lib.hid hE
    clear hE
    go_wp2_with fail
    go_ret
    exact ⟨ret_bool HE.out.symm, bgo hb0 hX⟩
  by_cases k9 : c.kind = 9
  · rw [k9] at a0 HA
    have HK := Lib.hid k9
    clear k9
    cases t0 : ((c.args.length : Int) == 0)
    · have hE : fitsF c = false := by rw [fiti9 HK.out, t0]; simp
      have HE := Lib.hid hE
      clear hE
      go_wp2_with fail
      go_ret
      exact ⟨ret_bool HE.out.symm, bgo hb0 hX⟩
    have T0 := Lib.hid t0
    cases t1 : (c.bound == 0)
    · have hE : fitsF c = false := by rw [fiti9 HK.out, T0.out, t1]; simp
      have HE := Lib.hid hE
      clear hE
      go_wp2_with fail
      go_ret
      exact ⟨ret_bool HE.out.symm, bgo hb0 hX⟩
    have T1 := Lib.hid t1
    cases t2 : ((c.rows.length : Int) == 0)
    · have hE : fitsF c = false := by rw [fiti9 HK.out, T0.out, T1.out, t2]; simp
      have HE := Lib.hid hE
      clear hE
      go_wp2_with fail
      go_ret
      exact ⟨ret_bool HE.out.symm, bgo hb0 hX⟩
    have hE : fitsF c = true := by rw [fiti9 HK.out, T0.out, T1.out, t2]; simp
    have HE := Lib.hid hE
    clear hE
    go_wp2_with fail
    go_ret
    exact ⟨ret_bool HE.out.symm, bgo hb0 hX⟩
  by_cases k4 : c.kind = 4
  · rw [k4] at a0 HA
    have HK := Lib.hid k4
    clear k4
    cases t0 : ((c.vars.length : Int) == 2)
    · have hE : fitsF c = false := by rw [fiti4 HK.out, t0]; simp
      have HE := Lib.hid hE
      clear hE
      go_wp2_with fail
      go_ret
      exact ⟨ret_bool HE.out.symm, bgo hb0 hX⟩
    have T0 := Lib.hid t0
    go_wp2_with fail
    refine (within _ _ _ _).mono ?_
    rintro e w' ⟨rfl, rfl⟩
    cases t1 : inB (c.args.length : Int) 1 6
    · have hE : fitsF c = false := by rw [fiti4 HK.out, T0.out, t1]; simp
      have HE := Lib.hid hE
      clear hE
      clear t1
      go_wp2_with fail
      go_ret
      exact ⟨ret_bool HE.out.symm, bgo hb0 hX⟩
    have T1 := Lib.hid t1
    clear t1
    go_wp2_with fail
    refine (allIn _ _ _ _ _ _ _ (IntR.on G2.out hX)).mono ?_
    rintro e w21 ⟨rfl, hY1⟩
    replace hX := bgo hX hY1
    clear hY1 a0 a1 a2 a3 a4
    obtain ⟨a0, a1, a2, a3, a4⟩ := (HA.out.below hX (by omega)).cells
    cases t2 : (c.args.all fun x => inB x 0 5)
    · have hE : fitsF c = false := by rw [fiti4 HK.out, T0.out, T1.out, t2]; simp
      have HE := Lib.hid hE
      clear hE
      clear t2
      go_wp2_with fail
      go_ret
      exact ⟨ret_bool HE.out.symm, bgo hb0 hX⟩
    have T2 := Lib.hid t2
    clear t2
    cases t3 : (c.bound == 0)
    · have hE : fitsF c = false := by rw [fiti4 HK.out, T0.out, T1.out, T2.out, t3]; simp
      have HE := Lib.hid hE
      clear hE
      go_wp2_with fail
      go_ret
      exact ⟨ret_bool HE.out.symm, bgo hb0 hX⟩
    have T3 := Lib.hid t3
    cases t4 : ((c.rows.length : Int) == 0)
    · have hE : fitsF c = false := by rw [fiti4 HK.out, T0.out, T1.out, T2.out, T3.out, t4]; simp
      have HE := Lib.hid hE
      clear hE
      go_wp2_with fail
      go_ret
      exact ⟨ret_bool HE.out.symm, bgo hb0 hX⟩
    have hE : fitsF c = true := by rw [fiti4 HK.out, T0.out, T1.out, T2.out, T3.out, t4]; simp
    have HE := Lib.hid hE
    clear hE
    go_wp2_with fail
    go_ret
    exact ⟨ret_bool HE.out.symm, bgo hb0 hX⟩
  by_cases k5 : c.kind = 5
  · rw [k5] at a0 HA
    have HK := Lib.hid k5
    clear k5
    cases t0 : ((c.args.length : Int) == 0)
    · have hE : fitsF c = false := by rw [fiti5 HK.out, t0]; simp
      have HE := Lib.hid hE
      clear hE
      go_wp2_with fail
      go_ret
      exact ⟨ret_bool HE.out.symm, bgo hb0 hX⟩
    have T0 := Lib.hid t0
    cases t1 : (c.bound == 0)
    · have hE : fitsF c = false := by rw [fiti5 HK.out, T0.out, t1]; simp
      have HE := Lib.hid hE
      clear hE
      go_wp2_with fail
      go_ret
      exact ⟨ret_bool HE.out.symm, bgo hb0 hX⟩
    have T1 := Lib.hid t1
    go_wp2_with fail
    refine (rowsIn _ _ _ _ _ _ _ _ (SlR.on (RowC.keeps IntC.keeps) (RowC.widens IntC.widens) G3.out hX)).mono ?_
    rintro e w21 ⟨rfl, hY1⟩
    replace hX := bgo hX hY1
    clear hY1 a0 a1 a2 a3 a4
    obtain ⟨a0, a1, a2, a3, a4⟩ := (HA.out.below hX (by omega)).cells
    cases t2 : rowsOk c.rows (c.vars.length : Int) 0 5
    · have hE : fitsF c = false := by rw [fiti5 HK.out, T0.out, T1.out, t2]; simp
      have HE := Lib.hid hE
      clear hE
      clear t2
      go_wp2_with fail
      go_ret
      exact ⟨ret_bool HE.out.symm, bgo hb0 hX⟩
    have hE : fitsF c = true := by rw [fiti5 HK.out, T0.out, T1.out, t2]; simp
    have HE := Lib.hid hE
    clear hE
    clear t2
    go_wp2_with fail
    go_ret
    exact ⟨ret_bool HE.out.symm, bgo hb0 hX⟩
  by_cases k6 : c.kind = 6
  · rw [k6] at a0 HA
    have HK := Lib.hid k6
    clear k6
    go_wp2_with fail
    refine (fitsC _ c _ _ _ _ _ (IntR.on G2.out hX) a2).mono ?_
    rintro e w21 ⟨rfl, hY1⟩
    replace hX := bgo hX hY1
    clear hY1 a0 a1 a2 a3 a4
    obtain ⟨a0, a1, a2, a3, a4⟩ := (HA.out.below hX (by omega)).cells
    cases t0 : (((c.args.length : Int) == 1) && c.args.all fun x => inB x 0 5)
    · have hE : fitsF c = false := by rw [fiti6 HK.out, t0]; simp
      have HE := Lib.hid hE
      clear hE
      clear t0
      go_wp2_with fail
      go_ret
      exact ⟨ret_bool HE.out.symm, bgo hb0 hX⟩
    have T0 := Lib.hid t0
    clear t0
    go_wp2_with fail
    refine (within _ _ _ _).mono ?_
    rintro e w' ⟨rfl, rfl⟩
    cases t1 : inB c.bound 0 4
    · have hE : fitsF c = false := by rw [fiti6 HK.out, T0.out, t1]; simp
      have HE := Lib.hid hE
      clear hE
      clear t1
      go_wp2_with fail
      go_ret
      exact ⟨ret_bool HE.out.symm, bgo hb0 hX⟩
    have T1 := Lib.hid t1
    clear t1
    cases t2 : ((c.rows.length : Int) == 0)
    · have hE : fitsF c = false := by rw [fiti6 HK.out, T0.out, T1.out, t2]; simp
      have HE := Lib.hid hE
      clear hE
      go_wp2_with fail
      go_ret
      exact ⟨ret_bool HE.out.symm, bgo hb0 hX⟩
    have hE : fitsF c = true := by rw [fiti6 HK.out, T0.out, T1.out, t2]; simp
    have HE := Lib.hid hE
    clear hE
    go_wp2_with fail
    go_ret
    exact ⟨ret_bool HE.out.symm, bgo hb0 hX⟩
  by_cases k7 : c.kind = 7
  · rw [k7] at a0 HA
    have HK := Lib.hid k7
    clear k7
    go_wp2_with fail
    refine (fitsC _ c _ _ _ _ _ (IntR.on G2.out hX) a2).mono ?_
    rintro e w21 ⟨rfl, hY1⟩
    replace hX := bgo hX hY1
    clear hY1 a0 a1 a2 a3 a4
    obtain ⟨a0, a1, a2, a3, a4⟩ := (HA.out.below hX (by omega)).cells
    cases t0 : (((c.args.length : Int) == (wrap64 (2 * (c.vars.length : Int)))) && c.args.all fun x => inB x 0 9)
    · have hE : fitsF c = false := by rw [fiti7 HK.out, t0]; simp
      have HE := Lib.hid hE
      clear hE
      clear t0
      go_wp2_with fail
      go_ret
      exact ⟨ret_bool HE.out.symm, bgo hb0 hX⟩
    have T0 := Lib.hid t0
    clear t0
    go_wp2_with fail
    refine (within _ _ _ _).mono ?_
    rintro e w' ⟨rfl, rfl⟩
    cases t1 : inB c.bound 0 9
    · have hE : fitsF c = false := by rw [fiti7 HK.out, T0.out, t1]; simp
      have HE := Lib.hid hE
      clear hE
      clear t1
      go_wp2_with fail
      go_ret
      exact ⟨ret_bool HE.out.symm, bgo hb0 hX⟩
    have T1 := Lib.hid t1
    clear t1
    cases t2 : ((c.rows.length : Int) == 0)
    · have hE : fitsF c = false := by rw [fiti7 HK.out, T0.out, T1.out, t2]; simp
      have HE := Lib.hid hE
      clear hE
      go_wp2_with fail
      go_ret
      exact ⟨ret_bool HE.out.symm, bgo hb0 hX⟩
    have hE : fitsF c = true := by rw [fiti7 HK.out, T0.out, T1.out, t2]; simp
    have HE := Lib.hid hE
    clear hE
    go_wp2_with fail
    go_ret
    exact ⟨ret_bool HE.out.symm, bgo hb0 hX⟩
  by_cases k8 : c.kind = 8
  · rw [k8] at a0 HA
    have HK := Lib.hid k8
    clear k8
    go_wp2_with fail
    refine (rowsIn _ _ _ _ _ _ _ _ (SlR.on (RowC.keeps IntC.keeps) (RowC.widens IntC.widens) G3.out hX)).mono ?_
    rintro e w21 ⟨rfl, hY1⟩
    replace hX := bgo hX hY1
    clear hY1 a0 a1 a2 a3 a4
    obtain ⟨a0, a1, a2, a3, a4⟩ := (HA.out.below hX (by omega)).cells
    cases t0 : rowsOk c.rows 6 (-1) (wrap64 ((c.rows.length : Int) - 1))
    · have hE : fitsF c = false := by rw [fiti8 HK.out, t0]; simp
      have HE := Lib.hid hE
      clear hE
      clear t0
      go_wp2_with fail
      go_ret
      exact ⟨ret_bool HE.out.symm, bgo hb0 hX⟩
    have T0 := Lib.hid t0
    clear t0
    go_wp2_with fail
    refine (idistinct _ _ _ _ _ K2.out (IntR.on G2.out hX)).mono ?_
    rintro e w22 ⟨rfl, hY2⟩
    replace hX := bgo hX hY2
    clear hY2 a0 a1 a2 a3 a4
    obtain ⟨a0, a1, a2, a3, a4⟩ := (HA.out.below hX (by omega)).cells
    cases t1 : disF c.args
    · have hE : fitsF c = false := by rw [fiti8 HK.out, T0.out, t1]; simp
      have HE := Lib.hid hE
      clear hE
      clear t1
      go_wp2_with fail
      go_ret
      exact ⟨ret_bool HE.out.symm, bgo hb0 hX⟩
    have T1 := Lib.hid t1
    clear t1
    go_wp2_with fail
    refine (allIn _ _ _ _ _ _ _ (IntR.on G2.out hX)).mono ?_
    rintro e w23 ⟨rfl, hY3⟩
    replace hX := bgo hX hY3
    clear hY3 a0 a1 a2 a3 a4
    obtain ⟨a0, a1, a2, a3, a4⟩ := (HA.out.below hX (by omega)).cells
    cases t2 : (c.args.all fun x => inB x 0 (wrap64 ((c.rows.length : Int) - 1)))
    · have hE : fitsF c = false := by rw [fiti8 HK.out, T0.out, T1.out, t2]; simp
      have HE := Lib.hid hE
      clear hE
      clear t2
      go_wp2_with fail
      go_ret
      exact ⟨ret_bool HE.out.symm, bgo hb0 hX⟩
    have T2 := Lib.hid t2
    clear t2
    cases t3 : (c.bound == 0)
    · have hE : fitsF c = false := by rw [fiti8 HK.out, T0.out, T1.out, T2.out, t3]; simp
      have HE := Lib.hid hE
      clear hE
      go_wp2_with fail
      go_ret
      exact ⟨ret_bool HE.out.symm, bgo hb0 hX⟩
    have hE : fitsF c = true := by rw [fiti8 HK.out, T0.out, T1.out, T2.out, t3]; simp
    have HE := Lib.hid hE
    clear hE
    go_wp2_with fail
    go_ret
    exact ⟨ret_bool HE.out.symm, bgo hb0 hX⟩
  have HE := Lib.hid (fits0 k1 k2 k3 k9 k4 k5 k6 k7 k8)
  have b1 : (c.kind == 1) = false := by simpa using k1
  have b2 : (c.kind == 2) = false := by simpa using k2
  have b3 : (c.kind == 3) = false := by simpa using k3
  have b9 : (c.kind == 9) = false := by simpa using k9
  have b4 : (c.kind == 4) = false := by simpa using k4
  have b5 : (c.kind == 5) = false := by simpa using k5
  have b6 : (c.kind == 6) = false := by simpa using k6
  have b7 : (c.kind == 7) = false := by simpa using k7
  have b8 : (c.kind == 8) = false := by simpa using k8
  clear k1 k2 k3 k9 k4 k5 k6 k7 k8
  go_wp2_with fail
  go_ret
  exact ⟨ret_bool HE.out.symm, bgo hb0 hX⟩
  -- end kinds
set_option maxHeartbeats 8000000 in
theorem iValidConstraint (us : List Value) (c : Con) (m : Int) (w : World) (h : ConR w w.heap.size us c) :
    Calls Tryd.prog 32 #[.agg us.toArray, .int .i64 m] w fun e w' => e = .returned (.bool (vconstF c m)) ∧ Below w.heap.size w w' := by
  have HC := Lib.hid h
  obtain ⟨va, aa, ra, cv, ca, cr, rfl, g1, g2, g3, cap1, cap2⟩ := h
  obtain ⟨wa, hwa⟩ : ∃ wa, wa = w.alloc (.cells #[.int .i64 c.kind, .slice va c.vars.length cv, .slice aa c.args.length ca, .int .i64 c.bound, .slice ra c.rows.length cr] 50) := ⟨_, rfl⟩
  have hb0 : Below w.heap.size w wa := by rw [hwa]; exact b_alloc _ _
  have hsz : wa.heap.size = w.heap.size + 1 := by rw [hwa, size_alloc_]
  have ha : CBlk wa w.heap.size (.int .i64 c.kind) (.slice va c.vars.length cv) (.slice aa c.args.length ca) (.int .i64 c.bound) (.slice ra c.rows.length cr) := by
    rw [hwa]; exact CBlk.new w _ _ _ _ _
  have HA := Lib.hid ha
  have K1 := Lib.hid cap1
  have G1 := Lib.hid (IntR.on g1 hb0)
  have HC1 := Lib.hid (ConR.on HC.out hb0)
  obtain ⟨a0, a1, a2, a3, a4⟩ := ha.cells
  have hX : Below wa.heap.size wa wa := Below.refl _ _
  clear ha g1 g2 g3 cap1 cap2
  go_enter Tryd.func32, Tryd.ntmps32
  go_wp2_with fail
  rw [← hwa]
  clear hwa
  refine (within _ _ _ _).mono ?_
  rintro e w' ⟨rfl, rfl⟩
  cases t0 : inB m 1 4
  · have HE := Lib.hid (show vconstF c m = false by unfold vconstF; rw [t0]; rfl)
    clear t0
    go_wp2_with fail
    go_ret
    exact ⟨ret_bool HE.out.symm, hb0⟩
  have T0 := Lib.hid t0
  clear t0
  go_wp2_with fail
  refine (within _ _ _ _).mono ?_
  rintro e w' ⟨rfl, rfl⟩
  cases t1 : inB (c.vars.length : Int) 1 m
  · have HE := Lib.hid (show vconstF c m = false by unfold vconstF vconF; rw [t1]; simp)
    clear t1
    go_wp2_with fail
    go_ret
    exact ⟨ret_bool HE.out.symm, hb0⟩
  have T1 := Lib.hid t1
  clear t1
  go_wp2_with fail
  refine (allIn _ _ _ _ _ _ _ G1.out).mono ?_
  rintro e w1 ⟨rfl, hY⟩
  replace hX := bgo hX hY
  clear hY a0 a1 a2 a3 a4
  obtain ⟨a0, a1, a2, a3, a4⟩ := (HA.out.below hX (by omega)).cells
  cases t2 : (c.vars.all fun x => inB x 0 (wrap64 (m - 1)))
  · have HE := Lib.hid (show vconstF c m = false by unfold vconstF vconF; rw [t2]; simp)
    clear t2
    go_wp2_with fail
    go_ret
    exact ⟨ret_bool HE.out.symm, bgo hb0 hX⟩
  have T2 := Lib.hid t2
  clear t2
  go_wp2_with fail
  refine (idistinct _ _ _ _ _ K1.out (IntR.on G1.out hX)).mono ?_
  rintro e w2 ⟨rfl, hY⟩
  replace hX := bgo hX hY
  clear hY a0 a1 a2 a3 a4
  obtain ⟨a0, a1, a2, a3, a4⟩ := (HA.out.below hX (by omega)).cells
  cases t3 : disF c.vars
  · have HE := Lib.hid (show vconstF c m = false by unfold vconstF vconF; rw [t3]; simp)
    clear t3
    go_wp2_with fail
    go_ret
    exact ⟨ret_bool HE.out.symm, bgo hb0 hX⟩
  have HE := Lib.hid (show vconstF c m = fitsF c by unfold vconstF vconF; rw [T0.out, T1.out, T2.out, t3]; simp)
  clear t3
  go_wp2_with fail
  refine (ifits _ _ _ (ConR.on HC1.out hX)).mono ?_
  rintro e w3 ⟨rfl, hY⟩
  replace hX := bgo hX hY
  clear hY a0 a1 a2 a3 a4
  go_wp2_with fail
  go_ret
  exact ⟨ret_bool HE.out.symm, bgo hb0 hX⟩
end Go.Proofs.YtfoodlhfmcfjeaaDoor
