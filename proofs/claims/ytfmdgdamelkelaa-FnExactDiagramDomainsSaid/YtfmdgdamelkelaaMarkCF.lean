/- The marks of a constraint that came in; cuts of a walk behind a region. -/
import Derived.Test.YtfmdgdamelkelaaTouchF
namespace Go.Proofs.Ytfmdgdamelkelaa
open Go.ChangeShapes Go.WideShapes Go.ChangeAt Go.RowKit
open Go.Shelf
set_option linter.unusedVariables false
set_option maxRecDepth 100000
/-- A constraint whose blocks lie from lo to below hi. -/
def HConV (w : World) (lo hi : Nat) (us : List Value) : Prop := ∃ kk va nv cv aa na ca b ra nr cr, us = [.int .i64 kk, .slice va nv cv, .slice aa na ca, .int .i64 b, .slice ra nr cr] ∧ HCon w lo hi va aa ra nv na nr
theorem HConV.keep {w w' : World} {lo hi : Nat} {us : List Value} (h : HConV w lo hi us) (k : Keep w w') : HConV w' lo hi us := by
  obtain ⟨kk, va, nv, cv, aa, na, ca, b, ra, nr, cr, e, h1⟩ := h
  exact ⟨kk, va, nv, cv, aa, na, ca, b, ra, nr, cr, e, h1.keep k⟩
theorem HConV.of_own {w : World} {base : Nat} {us : List Value} {c : Con} (h : OwnCon w base (.agg us.toArray) c) (hs : SmCon c) : HConV w base w.heap.size us := by
  obtain ⟨vv, av, rv, he, o1, o2, o3⟩ := h
  injection he with he
  have he2 : us = [.int .i64 c.kind, vv, av, .int .i64 c.bound, rv] := by simpa using congrArg Array.toList he
  obtain ⟨A1, c1, hv1, -⟩ := o1.read
  obtain ⟨A2, c2, hv2, -⟩ := o2.read
  obtain ⟨A3, c3, hv3, -⟩ := read2 o3
  rw [hv1] at o1 he2
  rw [hv2] at o2 he2
  rw [hv3] at o3 he2
  exact ⟨_, _, _, _, _, _, _, _, _, _, _, he2, hs.1, hs.2.1, hs.2.2.1, HI.of_own o1, HI.of_own o2, HRows.of_own o3 hs.2.2.2⟩
set_option maxHeartbeats 4000000 in
theorem markConT (us : List Value) (lo hi : Nat) (k : Int) (w : World) (h : HConV w lo hi us) (hlo : lo ≤ w.heap.size) (h0 : 0 ≤ k) (h1 : k ≤ 4611684918000000000) :
    Calls Try.prog 17 #[.agg us.toArray, .int .i64 k] w fun e w' => ∃ k' : Int, e = .returned (.int .i64 k') ∧ k ≤ k' ∧ k' ≤ k + 1099513724928 ∧ Touch lo hi w w' ∧ Keep w w' := by
  obtain ⟨kk, va, nv, cv, aa, na, ca, b, ra, nr, cr, rfl, s1, s2, s3, g1, g2, g3⟩ := h
  obtain ⟨wa, hwa⟩ : ∃ wa, wa = w.alloc (.cells #[.int .i64 kk, .slice va nv cv, .slice aa na ca, .int .i64 b, .slice ra nr cr] 29) := ⟨_, rfl⟩
  have hb0 : Below w.heap.size w wa := by rw [hwa]; exact b_alloc _ _
  have hsz : wa.heap.size = w.heap.size + 1 := by rw [hwa, size_alloc_]
  have ha : TBlk 29 wa w.heap.size #[.int .i64 kk, .slice va nv cv, .slice aa na ca, .int .i64 b, .slice ra nr cr] := by rw [hwa]; exact TBlk.new _ _ _
  have HA := Lib.hid ha
  have TA := Lib.hid (Touch.of_below (lo := lo) (hi := hi) hb0 hlo)
  have KA := Lib.hid (Keep.of_below hb0)
  have G1 := Lib.hid (g1.keep KA.out)
  have G2 := Lib.hid (g2.keep KA.out)
  have G3 := Lib.hid (g3.keep KA.out)
  have a1 : wa.cell? ⟨w.heap.size, 1, none⟩ = some (.slice va nv cv) := ha.at_ 1 rfl
  clear g1 g2 g3 ha hb0
  go_enter Try.func17, Try.ntmps17
  go_wp2_with fail
  rw [← hwa]
  clear hwa
  refine (markIntT va nv cv lo hi k wa G1.out (by omega) s1 h0 (by omega)).mono ?_
  rintro e w1 ⟨k1, rfl, p1, p2, ht1, hq1⟩
  obtain ⟨cs1, b1, b2, -⟩ := hq1 _ _ _ HA.out
  have a2 : w1.cell? ⟨w.heap.size, 2, none⟩ = some (.slice aa na ca) := by rw [cell_of_row w1 _ _ cs1 _ _ b1]; exact b2 2 _ _ _ rfl
  have z1 := ht1.1.size
  have S4 := Lib.hid (b2 4 _ _ _ rfl)
  have B1 := Lib.hid b1
  have TB := Lib.hid (TA.out.trans ht1)
  have KB := Lib.hid (KA.out.trans hq1)
  have G5 := Lib.hid (G2.out.keep hq1)
  have G6 := Lib.hid (G3.out.keep hq1)
  clear ht1 hq1 b1 b2 a1
  go_wp2_with fail
  refine (markIntT aa na ca lo hi k1 w1 G5.out (by omega) s2 (by omega) (by omega)).mono ?_
  rintro e w2 ⟨k2, rfl, p3, p4, ht2, hq2⟩
  obtain ⟨cs2, b3, b4, -⟩ := hq2 _ _ _ B1.out
  have a4 : w2.cell? ⟨w.heap.size, 4, none⟩ = some (.slice ra nr cr) := by rw [cell_of_row w2 _ _ cs2 _ _ b3]; exact b4 4 _ _ _ S4.out
  have z2 := ht2.1.size
  have TC := Lib.hid (TB.out.trans ht2)
  have KC := Lib.hid (KB.out.trans hq2)
  have G7 := Lib.hid (G6.out.keep hq2)
  clear ht2 hq2 b3 b4 a2
  go_wp2_with fail
  refine (markIntSST ra nr cr lo hi k2 w2 G7.out (by omega) s3 (by omega) (by omega)).mono ?_
  rintro e w3 ⟨k3, rfl, p5, p6, ht3, hq3⟩
  have TD := Lib.hid (TC.out.trans ht3)
  have KD := Lib.hid (KC.out.trans hq3)
  clear ht3 hq3
  go_wp2_with fail
  go_ret
  exact ⟨k3, rfl, by omega, by omega, TD.out, KD.out⟩
end Go.Proofs.Ytfmdgdamelkelaa
