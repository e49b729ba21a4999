/- FnExactWithConstraint: for every input the law returns true and its arguments read as before; no further condition. -/
import Derived.Test.YtcghhnajjmnkkaaRows
import Derived.WalkKit
import Derived.ProofKit
import Derived.OpenShut
import Derived.Carry
import Derived.StillTailTactics
import Derived.Test.YtcghhnajjmnkkaaMarkC
import Derived.Test.YtcghhnajjmnkkaaOpenC
namespace Go.Proofs.Ytcghhnajjmnkkaa.fnExactWithConstraint
open Go.ChangeShapes Go.WideShapes Go.ChangeAt Go.RowKit
open Go.Shelf
set_option linter.unusedVariables false
set_option maxRecDepth 100000

theorem own : ownKnob Try.prog.godebug = none := by kernel_rfl
theorem laid : laidOutB Try.prog = true := by kernel_rfl

set_option maxHeartbeats 8000000 in
theorem walk {W0 : World} (us0 : List Value) (x0 : Mod) (g0 : ModA W0 W0.heap.size us0 x0) (us1 : List Value) (x1 : Con) (g1 : ConA W0 W0.heap.size us1 x1) :
    Calls Try.prog 3 #[.agg us0.toArray, .agg us1.toArray] W0 fun e w' => e = .returned (.bool true) ∧ Below W0.heap.size W0 w' := by
  obtain ⟨u00, u01, rfl⟩ := g0.two
  obtain ⟨u10, u11, u12, u13, u14, rfl⟩ := g1.five
  obtain ⟨W1, hW1⟩ : ∃ W1, W1 = W0.alloc (.cells #[u00, u01] 25) := ⟨_, rfl⟩
  have hB1 : Below W0.heap.size W0 W1 := by rw [hW1]; exact b_alloc _ _
  have HX_a0 : Hid (TBlk 25 W1 W0.heap.size #[u00, u01]) := by rw [hW1]; exact TBlk.new _ _ _
  have c0 := hB1
  clear hB1
  obtain ⟨W2, hW2⟩ : ∃ W2, W2 = W1.alloc (.cells #[u10, u11, u12, u13, u14] 28) := ⟨_, rfl⟩
  have hB2 : Below W1.heap.size W1 W2 := by rw [hW2]; exact b_alloc _ _
  have HX_a1 : Hid (TBlk 28 W2 W1.heap.size #[u10, u11, u12, u13, u14]) := by rw [hW2]; exact TBlk.new _ _ _
  replace c0 := bgo c0 hB2
  have c1 := hB2
  clear hB2
  have hz1 : W1.heap.size = W0.heap.size + 1 := by rw [hW1, size_alloc_]
  rw [hz1] at HX_a1
  clear hz1
  have hy_a0 := HX_a0.out.below_ c1 HX_a0.out.lt
  have ra0_0 : ((W0.alloc (.cells #[u00, u01] 25)).alloc (.cells #[u10, u11, u12, u13, u14] 28)).cell? ⟨W0.heap.size, 0, none⟩ = some (u00) := by rw [← hW1, ← hW2]; exact hy_a0.at_ 0 rfl
  have ra0_1 : ((W0.alloc (.cells #[u00, u01] 25)).alloc (.cells #[u10, u11, u12, u13, u14] 28)).cell? ⟨W0.heap.size, 1, none⟩ = some (u01) := by rw [← hW1, ← hW2]; exact hy_a0.at_ 1 rfl
  clear hy_a0
  have hy_a1 := HX_a1.out
  skip
  skip
  skip
  skip
  skip
  clear hy_a1
  go_enter Try.func3, Try.ntmps3
  go_wp2_with fail
  rw [← hW1, ← hW2]
  clear hW1 hW2
  clear ra0_0 ra0_1
  refine (szModel _ _ _ _ (ModA.on g0 c0) (by omega) (by omega)).mono ?_
  rintro e W3 ⟨r0, rfl, hr, hB3⟩
  replace c0 := bgo c0 hB3
  replace c1 := bgo c1 hB3
  have c2 := hB3
  clear hB3
  rcases hr with rfl | ⟨hr0, hr1, hs0⟩
  · go_wp2_with fail
    go_ret
    exact ⟨rfl, c0⟩
  have hy_a1 := HX_a1.out.below_ c2 HX_a1.out.lt
  have pa1_0 : W3.cell? ⟨W0.heap.size + 1, 0, none⟩ = some (u10) := hy_a1.at_ 0 rfl
  have pa1_1 : W3.cell? ⟨W0.heap.size + 1, 1, none⟩ = some (u11) := hy_a1.at_ 1 rfl
  have pa1_2 : W3.cell? ⟨W0.heap.size + 1, 2, none⟩ = some (u12) := hy_a1.at_ 2 rfl
  have pa1_3 : W3.cell? ⟨W0.heap.size + 1, 3, none⟩ = some (u13) := hy_a1.at_ 3 rfl
  have pa1_4 : W3.cell? ⟨W0.heap.size + 1, 4, none⟩ = some (u14) := hy_a1.at_ 4 rfl
  clear hy_a1
  go_wp2_with fail
  clear pa1_0 pa1_1 pa1_2 pa1_3 pa1_4
  refine (szConstraint _ _ _ _ (ConA.on g1 c0) (by omega) (by omega)).mono ?_
  rintro e W4 ⟨r1, rfl, hr, hB4⟩
  replace c0 := bgo c0 hB4
  replace c1 := bgo c1 hB4
  replace c2 := bgo c2 hB4
  have c3 := hB4
  clear hB4
  rcases hr with rfl | ⟨hq0, hq1, hs1⟩
  · go_wp2_with fail
    go_ret
    exact ⟨rfl, c0⟩
  clear c3
  have hy_a0 := HX_a0.out.below_ c1 HX_a0.out.lt
  have pa0_0 : W4.cell? ⟨W0.heap.size, 0, none⟩ = some (u00) := hy_a0.at_ 0 rfl
  have pa0_1 : W4.cell? ⟨W0.heap.size, 1, none⟩ = some (u01) := hy_a0.at_ 1 rfl
  clear hy_a0
  have hy_a1 := HX_a1.out.below_ c2 HX_a1.out.lt
  have pa1_0 : W4.cell? ⟨W0.heap.size + 1, 0, none⟩ = some (u10) := hy_a1.at_ 0 rfl
  have pa1_1 : W4.cell? ⟨W0.heap.size + 1, 1, none⟩ = some (u11) := hy_a1.at_ 1 rfl
  have pa1_2 : W4.cell? ⟨W0.heap.size + 1, 2, none⟩ = some (u12) := hy_a1.at_ 2 rfl
  have pa1_3 : W4.cell? ⟨W0.heap.size + 1, 3, none⟩ = some (u13) := hy_a1.at_ 3 rfl
  have pa1_4 : W4.cell? ⟨W0.heap.size + 1, 4, none⟩ = some (u14) := hy_a1.at_ 4 rfl
  clear hy_a1
  go_wp2_with fail
  clear pa0_0 pa0_1 pa1_0 pa1_1 pa1_2 pa1_3 pa1_4
  have hS : ∀ w', Below W4.heap.size W4 w' → (w'.cell? ⟨W0.heap.size, 0, none⟩ = some (u00) ∧ w'.cell? ⟨W0.heap.size, 1, none⟩ = some (u01) ∧ w'.cell? ⟨W0.heap.size + 1, 0, none⟩ = some (u10) ∧ w'.cell? ⟨W0.heap.size + 1, 1, none⟩ = some (u11) ∧ w'.cell? ⟨W0.heap.size + 1, 2, none⟩ = some (u12) ∧ w'.cell? ⟨W0.heap.size + 1, 3, none⟩ = some (u13) ∧ w'.cell? ⟨W0.heap.size + 1, 4, none⟩ = some (u14)) := by
    intro w' h
    have ka0 := HX_a0.out.below_ (bgo c1 h) HX_a0.out.lt
    have ka1 := HX_a1.out.below_ (bgo c2 h) HX_a1.out.lt
    exact ⟨ka0.at_ 0 rfl, ka0.at_ 1 rfl, ka1.at_ 0 rfl, ka1.at_ 1 rfl, ka1.at_ 2 rfl, ka1.at_ 3 rfl, ka1.at_ 4 rfl⟩
  have hbd : Below W4.heap.size W4 W4.drew := below_drewN (Below.refl _ _) 1
  have hS0 := hS _ hbd
  refine wp_cut (ι := CutP) (fun i a => Act.sets a [(28, .agg #[u00, u01]), (29, .agg i.p.toArray), (30, .agg #[u10, u11, u12, u13, u14]), (31, .agg i.q.toArray), (32, .tuple #[.agg #[.slice i.A i.n i.c, .slice i.B i.m i.d], .bool (vmodF (addC x0 x1))]), (27, .tuple #[.agg #[.slice i.A i.n i.c, .slice i.B i.m i.d], .bool (vmodF (addC x0 x1))]), (33, .agg #[.slice i.A i.n i.c, .slice i.B i.m i.d]), (34, .bool (vmodF (addC x0 x1))), (6, .pointer (some ⟨i.g, 0, none⟩)), (7, .bool (vmodF (addC x0 x1)))]) (fun i W => ModR W W.heap.size [.slice i.A i.n i.c, .slice i.B i.m i.d] (withM x0 x1) ∧ TBlk 33 W i.g #[.slice i.A i.n i.c, .slice i.B i.m i.d] ∧ W4.heap.size ≤ i.g ∧ Below W4.heap.size W4 W) ?_ ?_
  · go_region_held3 (fun w' => w'.cell? ⟨W0.heap.size, 0, none⟩ = some (u00) ∧ w'.cell? ⟨W0.heap.size, 1, none⟩ = some (u01) ∧ w'.cell? ⟨W0.heap.size + 1, 0, none⟩ = some (u10) ∧ w'.cell? ⟨W0.heap.size + 1, 1, none⟩ = some (u11) ∧ w'.cell? ⟨W0.heap.size + 1, 2, none⟩ = some (u12) ∧ w'.cell? ⟨W0.heap.size + 1, 3, none⟩ = some (u13) ∧ w'.cell? ⟨W0.heap.size + 1, 4, none⟩ = some (u14))
      (first | with_reducible exact hS0 | (with_reducible refine hS _ ?_; (repeat' (first | with_reducible assumption | with_reducible exact Below.refl _ _ | with_reducible refine Below.drew_ ?_ | with_reducible refine Below.setCell ?_ (by first | (simp; done) | (simp; omega)) _ | with_reducible refine Below.alloc0 ?_ _))))
          (first
          | (go_at_call 11
             refine (toModel _ _ _ (ModA.on g0 (bgo c0 (show Below W4.heap.size W4 _ by (repeat' (first | with_reducible assumption | with_reducible exact Below.refl _ _ | with_reducible refine Below.drew_ ?_ | with_reducible refine Below.setCell ?_ (by first | (simp; done) | (simp; omega)) _ | with_reducible refine Below.alloc0 ?_ _))))) hs0).mono ?_
             rintro e V1 ⟨v, rfl, o1, hB1⟩
             obtain ⟨vs8, rfl, r8⟩ := o1.read
             have e1 := bgo (show Below W4.heap.size W4 _ by (repeat' (first | with_reducible assumption | with_reducible exact Below.refl _ _ | with_reducible refine Below.drew_ ?_ | with_reducible refine Below.setCell ?_ (by first | (simp; done) | (simp; omega)) _ | with_reducible refine Below.alloc0 ?_ _))) hB1
             have z1 := e1.size
             first
               | (refine have_then (A := TBlk 33 V1 W4.heap.size #[.slice none 0 0, .slice none 0 0]) ?_ ?_
                  focus (refine TBlk.on ?_ hB1; (repeat' (first | with_reducible assumption | with_reducible exact TBlk.new _ _ _ | with_reducible exact TBlk.new2 _ _ _ _ | with_reducible refine TBlk.drew_ ?_ | with_reducible refine TBlk.on ?_ (b_alloc _ _))); done)
                  intro t1)
               | skip
             clear o1)
          | (go_at_call 12
             refine (toConstraint _ _ _ (ConA.on g1 (bgo c0 (show Below W4.heap.size W4 _ by (repeat' (first | with_reducible assumption | with_reducible exact Below.refl _ _ | with_reducible refine Below.drew_ ?_ | with_reducible refine Below.setCell ?_ (by first | (simp; done) | (simp; omega)) _ | with_reducible refine Below.alloc0 ?_ _))))) hs1).mono ?_
             rintro e V2 ⟨v, rfl, o2, hB2⟩
             obtain ⟨vs9, rfl, r9⟩ := o2.read
             have e2 := bgo (show Below W4.heap.size W4 _ by (repeat' (first | with_reducible assumption | with_reducible exact Below.refl _ _ | with_reducible refine Below.drew_ ?_ | with_reducible refine Below.setCell ?_ (by first | (simp; done) | (simp; omega)) _ | with_reducible refine Below.alloc0 ?_ _))) hB2
             have e12 := bgo (show Below V1.heap.size V1 _ by (repeat' (first | with_reducible assumption | with_reducible exact Below.refl _ _ | with_reducible refine Below.drew_ ?_ | with_reducible refine Below.setCell ?_ (by first | (simp; done) | (simp; omega)) _ | with_reducible refine Below.alloc0 ?_ _))) hB2
             have z2 := e2.size
             first
               | (refine have_then (A := TBlk 33 V2 W4.heap.size #[.slice none 0 0, .slice none 0 0]) ?_ ?_
                  focus (refine TBlk.on ?_ hB2; (repeat' (first | with_reducible assumption | with_reducible exact TBlk.new _ _ _ | with_reducible exact TBlk.new2 _ _ _ _ | with_reducible refine TBlk.drew_ ?_ | with_reducible refine TBlk.on ?_ (b_alloc _ _))); done)
                  intro t2)
               | (refine have_then (A := TBlk 33 V2 V1.heap.size #[.slice none 0 0, .slice none 0 0]) ?_ ?_
                  focus (refine TBlk.on ?_ hB2; (repeat' (first | with_reducible assumption | with_reducible exact TBlk.new _ _ _ | with_reducible exact TBlk.new2 _ _ _ _ | with_reducible refine TBlk.drew_ ?_ | with_reducible refine TBlk.on ?_ (b_alloc _ _))); done)
                  intro t2)
               | skip
             clear o2)
          | (go_at_call 10
             refine (sWith vs8 vs9 x0 x1 _ (ModR.on r8 (show Below V1.heap.size V1 _ by (repeat' (first | with_reducible assumption | with_reducible exact Below.refl _ _ | with_reducible refine Below.drew_ ?_ | with_reducible refine Below.setCell ?_ (by first | (simp; done) | (simp; omega)) _ | with_reducible refine Below.alloc0 ?_ _)))) (ConR.on r9 (show Below V2.heap.size V2 _ by (repeat' (first | with_reducible assumption | with_reducible exact Below.refl _ _ | with_reducible refine Below.drew_ ?_ | with_reducible refine Below.setCell ?_ (by first | (simp; done) | (simp; omega)) _ | with_reducible refine Below.alloc0 ?_ _)))) hs0 hs1).mono ?_
             rintro e V3 ⟨rs, rfl, ow, hB3⟩
             obtain ⟨wa, wn, wb, wc, wm, wd, rfl, -⟩ := OwnModL.shape ow
             have e3 := bgo (show Below W4.heap.size W4 _ by (repeat' (first | with_reducible assumption | with_reducible exact Below.refl _ _ | with_reducible refine Below.drew_ ?_ | with_reducible refine Below.setCell ?_ (by first | (simp; done) | (simp; omega)) _ | with_reducible refine Below.alloc0 ?_ _))) hB3
             have z3 := e3.size
             first
               | (refine have_then (A := ∃ B, TBlk 33 V3 W4.heap.size #[.slice none 0 0, .slice none 0 0] ∧ W4.heap.size < B ∧ OwnMod V3 B (.agg #[.slice wa wn wb, .slice wc wm wd]) (withM x0 x1)) ?_ ?_
                  focus (refine TBlk.on2 ?_ hB3 ow; (repeat' (first | with_reducible assumption | with_reducible exact TBlk.new _ _ _ | with_reducible exact TBlk.new2 _ _ _ _ | with_reducible refine TBlk.drew_ ?_ | with_reducible refine TBlk.on ?_ (b_alloc _ _))); done)
                  intro hT
                  obtain ⟨Bq, t3, hlt, ow3⟩ := hT
                  have d0 := t3.at_ 0 rfl
                  have d1 := t3.at_ 1 rfl
                  have df := fun j => t3.frozen j)
               | (refine have_then (A := ∃ B, TBlk 33 V3 V1.heap.size #[.slice none 0 0, .slice none 0 0] ∧ V1.heap.size < B ∧ OwnMod V3 B (.agg #[.slice wa wn wb, .slice wc wm wd]) (withM x0 x1)) ?_ ?_
                  focus (refine TBlk.on2 ?_ hB3 ow; (repeat' (first | with_reducible assumption | with_reducible exact TBlk.new _ _ _ | with_reducible exact TBlk.new2 _ _ _ _ | with_reducible refine TBlk.drew_ ?_ | with_reducible refine TBlk.on ?_ (b_alloc _ _))); done)
                  intro hT
                  obtain ⟨Bq, t3, hlt, ow3⟩ := hT
                  have d0 := t3.at_ 0 rfl
                  have d1 := t3.at_ 1 rfl
                  have df := fun j => t3.frozen j)
               | (refine have_then (A := ∃ B, TBlk 33 V3 V2.heap.size #[.slice none 0 0, .slice none 0 0] ∧ V2.heap.size < B ∧ OwnMod V3 B (.agg #[.slice wa wn wb, .slice wc wm wd]) (withM x0 x1)) ?_ ?_
                  focus (refine TBlk.on2 ?_ hB3 ow; (repeat' (first | with_reducible assumption | with_reducible exact TBlk.new _ _ _ | with_reducible exact TBlk.new2 _ _ _ _ | with_reducible refine TBlk.drew_ ?_ | with_reducible refine TBlk.on ?_ (b_alloc _ _))); done)
                  intro hT
                  obtain ⟨Bq, t3, hlt, ow3⟩ := hT
                  have d0 := t3.at_ 0 rfl
                  have d1 := t3.at_ 1 rfl
                  have df := fun j => t3.frozen j)
               | skip))
    all_goals first
      | (refine ⟨rfl, ⟨vs8, vs9, wa, wn, wb, wc, wm, wd, V3.heap.size⟩, ?_, ?_, ?_, ?_, ?_⟩
         focus (simp only [Act.sets, List.foldl_cons, List.foldl_nil, List.setIfInBounds_toArray, List.set_cons_zero, List.set_cons_succ]; done)
         focus exact OwnModL.modR (OwnMod.below ow (b_alloc _ _))
         focus exact TBlk.new _ _ _
         focus exact z3
         exact Below.alloc0 e3 _)
      | (refine ⟨rfl, ⟨vs8, vs9, wa, wn, wb, wc, wm, wd, V1.heap.size⟩, ?_, ?_, ?_, ?_, ?_⟩
         focus (simp only [Act.sets, List.foldl_cons, List.foldl_nil, List.setIfInBounds_toArray, List.set_cons_zero, List.set_cons_succ]; done)
         focus exact OwnModL.modR (OwnMod.apart ow3 (((Apart.refl _ _).set hlt 0 _).set hlt 1 _))
         focus exact (t3.store 0 _).store 1 _
         focus exact z1
         exact (e3.setCell (by first | (simp; done) | (simp; omega)) _).setCell (by first | (simp; done) | (simp; omega)) _)
      | (refine ⟨rfl, ⟨vs8, vs9, wa, wn, wb, wc, wm, wd, V2.heap.size⟩, ?_, ?_, ?_, ?_, ?_⟩
         focus (simp only [Act.sets, List.foldl_cons, List.foldl_nil, List.setIfInBounds_toArray, List.set_cons_zero, List.set_cons_succ]; done)
         focus exact OwnModL.modR (OwnMod.apart ow3 (((Apart.refl _ _).set hlt 0 _).set hlt 1 _))
         focus exact (t3.store 0 _).store 1 _
         focus exact z2
         exact (e3.setCell (by first | (simp; done) | (simp; omega)) _).setCell (by first | (simp; done) | (simp; omega)) _)
      | (refine ⟨rfl, ⟨vs8, vs9, wa, wn, wb, wc, wm, wd, W4.heap.size⟩, ?_, ?_, ?_, ?_, ?_⟩
         focus (simp only [Act.sets, List.foldl_cons, List.foldl_nil, List.setIfInBounds_toArray, List.set_cons_zero, List.set_cons_succ]; done)
         focus exact OwnModL.modR (OwnMod.apart ow3 (((Apart.refl _ _).set hlt 0 _).set hlt 1 _))
         focus exact (t3.store 0 _).store 1 _
         focus exact (Nat.le_refl _)
         exact (e3.setCell (by first | (simp; done) | (simp; omega)) _).setCell (by first | (simp; done) | (simp; omega)) _)
  rintro ⟨p8, q8, wa, wn, wb, wc, wm, wd, g6⟩ W5 ⟨rw0, hx, hg6, hB5⟩
  simp only [] at rw0 hx hg6
  have HX_w := Lib.hid hx
  clear hx hS hS0 hbd
  replace c0 := bgo c0 hB5
  replace c1 := bgo c1 hB5
  replace c2 := bgo c2 hB5
  have c4 := hB5
  clear hB5
  simp only [Act.sets, List.foldl_cons, List.foldl_nil, List.setIfInBounds_toArray, List.set_cons_zero, List.set_cons_succ]
  clear c4
  have hy_a0 := HX_a0.out.below_ c1 HX_a0.out.lt
  have pa0_0 : W5.cell? ⟨W0.heap.size, 0, none⟩ = some (u00) := hy_a0.at_ 0 rfl
  have pa0_1 : W5.cell? ⟨W0.heap.size, 1, none⟩ = some (u01) := hy_a0.at_ 1 rfl
  clear hy_a0
  go_wp2_with fail
  clear pa0_0 pa0_1
  have y0 := c0.size
  have y1 := c1.size
  have y2 := c2.size
  refine (toModel _ _ _ (ModA.on g0 c0) hs0).mono ?_
  rintro e W6 ⟨v, rfl, oi0, hB6⟩
  replace c0 := bgo c0 hB6
  replace c1 := bgo c1 hB6
  replace c2 := bgo c2 hB6
  have c5 := hB6
  clear hB6
  obtain ⟨vsi0, rfl, ri0⟩ := oi0.read
  have hm0 := Lib.hid (HMod.of_own oi0 hs0)
  clear oi0
  have zlh := c5.size
  obtain ⟨ia, ib, ic, id0, ie, if0, rfl⟩ := ri0.two
  obtain ⟨W7, hW7⟩ : ∃ W7, W7 = W6.alloc (.cells #[.slice ia ic id0, .slice ib ie if0] 33) := ⟨_, rfl⟩
  have hB7 : Below W6.heap.size W6 W7 := by rw [hW7]; exact b_alloc _ _
  have HX_x : Hid (TBlk 33 W7 W6.heap.size #[.slice ia ic id0, .slice ib ie if0]) := by rw [hW7]; exact TBlk.new _ _ _
  replace c0 := bgo c0 hB7
  replace c1 := bgo c1 hB7
  replace c2 := bgo c2 hB7
  replace c5 := bgo c5 hB7
  have c6 := hB7
  clear hB7
  have hy_a1 := HX_a1.out.below_ c2 HX_a1.out.lt
  have ra1_0 : (W6.alloc (.cells #[.slice ia ic id0, .slice ib ie if0] 33)).cell? ⟨W0.heap.size + 1, 0, none⟩ = some (u10) := by rw [← hW7]; exact hy_a1.at_ 0 rfl
  have ra1_1 : (W6.alloc (.cells #[.slice ia ic id0, .slice ib ie if0] 33)).cell? ⟨W0.heap.size + 1, 1, none⟩ = some (u11) := by rw [← hW7]; exact hy_a1.at_ 1 rfl
  have ra1_2 : (W6.alloc (.cells #[.slice ia ic id0, .slice ib ie if0] 33)).cell? ⟨W0.heap.size + 1, 2, none⟩ = some (u12) := by rw [← hW7]; exact hy_a1.at_ 2 rfl
  have ra1_3 : (W6.alloc (.cells #[.slice ia ic id0, .slice ib ie if0] 33)).cell? ⟨W0.heap.size + 1, 3, none⟩ = some (u13) := by rw [← hW7]; exact hy_a1.at_ 3 rfl
  have ra1_4 : (W6.alloc (.cells #[.slice ia ic id0, .slice ib ie if0] 33)).cell? ⟨W0.heap.size + 1, 4, none⟩ = some (u14) := by rw [← hW7]; exact hy_a1.at_ 4 rfl
  clear hy_a1
  go_wp2_with fail
  rw [← hW7]
  clear hW7 ra1_0 ra1_1 ra1_2 ra1_3 ra1_4
  have zlo2b := c5.size
  have hy_a1 := HX_a1.out.below_ c2 HX_a1.out.lt
  have pa1_0 : W7.cell? ⟨W0.heap.size + 1, 0, none⟩ = some (u10) := hy_a1.at_ 0 rfl
  have pa1_1 : W7.cell? ⟨W0.heap.size + 1, 1, none⟩ = some (u11) := hy_a1.at_ 1 rfl
  have pa1_2 : W7.cell? ⟨W0.heap.size + 1, 2, none⟩ = some (u12) := hy_a1.at_ 2 rfl
  have pa1_3 : W7.cell? ⟨W0.heap.size + 1, 3, none⟩ = some (u13) := hy_a1.at_ 3 rfl
  have pa1_4 : W7.cell? ⟨W0.heap.size + 1, 4, none⟩ = some (u14) := hy_a1.at_ 4 rfl
  clear hy_a1
  refine (toConstraint _ _ _ (ConA.on g1 c0) hs1).mono ?_
  rintro e W8 ⟨v, rfl, oj0, hB8⟩
  replace c0 := bgo c0 hB8
  replace c1 := bgo c1 hB8
  replace c2 := bgo c2 hB8
  replace c5 := bgo c5 hB8
  replace c6 := bgo c6 hB8
  have c7 := hB8
  clear hB8
  obtain ⟨vsj0, rfl, rj0⟩ := oj0.read
  have hm1 := Lib.hid (HConV.of_own oj0 hs1)
  clear oj0
  have zlh2 := c7.size
  have zlo2 := c5.size
  obtain ⟨ja, jb, jc, jd, je, jf, jg, jh, ji, jj, jk, rfl⟩ := rj0.five
  have zhh2 := c6.size
  obtain ⟨W9, hW9⟩ : ∃ W9, W9 = W8.alloc (.cells #[.int .i64 ja, .slice jc jf jg, .slice jd jh ji, .int .i64 jb, .slice je jj jk] 37) := ⟨_, rfl⟩
  have hB9 : Below W8.heap.size W8 W9 := by rw [hW9]; exact b_alloc _ _
  have HX_y : Hid (TBlk 37 W9 W8.heap.size #[.int .i64 ja, .slice jc jf jg, .slice jd jh ji, .int .i64 jb, .slice je jj jk]) := by rw [hW9]; exact TBlk.new _ _ _
  replace c0 := bgo c0 hB9
  replace c1 := bgo c1 hB9
  replace c2 := bgo c2 hB9
  replace c5 := bgo c5 hB9
  replace c6 := bgo c6 hB9
  replace c7 := bgo c7 hB9
  have c8 := hB9
  clear hB9
  have hy_x := HX_x.out.below_ c7 HX_x.out.lt
  have rx_0 : (W8.alloc (.cells #[.int .i64 ja, .slice jc jf jg, .slice jd jh ji, .int .i64 jb, .slice je jj jk] 37)).cell? ⟨W6.heap.size, 0, none⟩ = some (.slice ia ic id0) := by rw [← hW9]; exact hy_x.at_ 0 rfl
  have rx_1 : (W8.alloc (.cells #[.int .i64 ja, .slice jc jf jg, .slice jd jh ji, .int .i64 jb, .slice je jj jk] 37)).cell? ⟨W6.heap.size, 1, none⟩ = some (.slice ib ie if0) := by rw [← hW9]; exact hy_x.at_ 1 rfl
  clear hy_x
  go_wp2_with fail
  rw [← hW9]
  clear hW9 rx_0 rx_1
  have zhg2 := c8.size
  have zhg := c6.size
  have zlg := c5.size
  refine (iWith _ _ x0 x1 _ (ModR.on ri0 c6) (ConR.on rj0 c8) hs0 hs1).mono ?_
  rintro e W10 ⟨rsg, D, xs, rfl, og, fg, hB10⟩
  replace c0 := bgo c0 hB10
  replace c1 := bgo c1 hB10
  replace c2 := bgo c2 hB10
  replace c5 := bgo c5 hB10
  replace c6 := bgo c6 hB10
  replace c7 := bgo c7 hB10
  replace c8 := bgo c8 hB10
  have c9 := hB10
  clear hB10
  have zgw := c9.size
  obtain ⟨ga, gn, gb0, gc, gm, gd, rfl⟩ := CMod.shape og
  obtain ⟨S, sg0, sg1, sg2, sg3⟩ := CMod.site og fg
  have SG := Lib.hid sg0
  have SN := Lib.hid sg1
  have SL := Lib.hid sg3
  have KG := Lib.hid og
  clear sg0 sg1 sg3 og fg
  obtain ⟨W11, hW11⟩ : ∃ W11, W11 = W10.alloc (.cells #[.slice ga gn gb0, .slice gc gm gd] 33) := ⟨_, rfl⟩
  have hB11 : Below W10.heap.size W10 W11 := by rw [hW11]; exact b_alloc _ _
  have HX_g : Hid (TBlk 33 W11 W10.heap.size #[.slice ga gn gb0, .slice gc gm gd]) := by rw [hW11]; exact TBlk.new _ _ _
  replace c0 := bgo c0 hB11
  replace c1 := bgo c1 hB11
  replace c2 := bgo c2 hB11
  replace c5 := bgo c5 hB11
  replace c6 := bgo c6 hB11
  replace c7 := bgo c7 hB11
  replace c8 := bgo c8 hB11
  replace c9 := bgo c9 hB11
  have c10 := hB11
  clear hB11
  replace KG := Lib.hid (KG.out.below c10)
  have hy_w := HX_w.out.below_ c5 HX_w.out.lt
  have rw_0 : (W10.alloc (.cells #[.slice ga gn gb0, .slice gc gm gd] 33)).cell? ⟨g6, 0, none⟩ = some (.slice wa wn wb) := by rw [← hW11]; exact hy_w.at_ 0 rfl
  have rw_1 : (W10.alloc (.cells #[.slice ga gn gb0, .slice gc gm gd] 33)).cell? ⟨g6, 1, none⟩ = some (.slice wc wm wd) := by rw [← hW11]; exact hy_w.at_ 1 rfl
  clear hy_w
  go_wp2_with fail
  rw [← hW11]
  clear hW11 rw_0 rw_1
  refine (eqModel _ _ _ _ _ (CMod.read KG.out) (ModR.on rw0 c5)).mono ?_
  rintro e W12 ⟨rfl, hB12⟩
  replace c0 := bgo c0 hB12
  replace c1 := bgo c1 hB12
  replace c2 := bgo c2 hB12
  replace c5 := bgo c5 hB12
  replace c6 := bgo c6 hB12
  replace c7 := bgo c7 hB12
  replace c8 := bgo c8 hB12
  replace c9 := bgo c9 hB12
  replace c10 := bgo c10 hB12
  have c11 := hB12
  clear hB12
  replace KG := Lib.hid (KG.out.below c11)
  have hy_x := HX_x.out.below_ c7 HX_x.out.lt
  have px_0 : W12.cell? ⟨W6.heap.size, 0, none⟩ = some (.slice ia ic id0) := hy_x.at_ 0 rfl
  have px_1 : W12.cell? ⟨W6.heap.size, 1, none⟩ = some (.slice ib ie if0) := hy_x.at_ 1 rfl
  clear hy_x
  have hy_a0 := HX_a0.out.below_ c1 HX_a0.out.lt
  have pa0_0 : W12.cell? ⟨W0.heap.size, 0, none⟩ = some (u00) := hy_a0.at_ 0 rfl
  have pa0_1 : W12.cell? ⟨W0.heap.size, 1, none⟩ = some (u01) := hy_a0.at_ 1 rfl
  clear hy_a0
  go_wp2_with fail
  clear px_0 px_1 pa0_0 pa0_1
  have hS : ∀ w', Below W12.heap.size W12 w' → (w'.cell? ⟨W0.heap.size, 0, none⟩ = some (u00) ∧ w'.cell? ⟨W0.heap.size, 1, none⟩ = some (u01) ∧ w'.cell? ⟨W6.heap.size, 0, none⟩ = some (.slice ia ic id0) ∧ w'.cell? ⟨W6.heap.size, 1, none⟩ = some (.slice ib ie if0)) := by
    intro w' h
    have ka0 := HX_a0.out.below_ (bgo c1 h) HX_a0.out.lt
    have kx := HX_x.out.below_ (bgo c7 h) HX_x.out.lt
    exact ⟨ka0.at_ 0 rfl, ka0.at_ 1 rfl, kx.at_ 0 rfl, kx.at_ 1 rfl⟩
  have hbd : Below W12.heap.size W12 W12.drew := below_drewN (Below.refl _ _) 1
  have hS0 := hS _ hbd
  go_region_held3 (fun w' => w'.cell? ⟨W0.heap.size, 0, none⟩ = some (u00) ∧ w'.cell? ⟨W0.heap.size, 1, none⟩ = some (u01) ∧ w'.cell? ⟨W6.heap.size, 0, none⟩ = some (.slice ia ic id0) ∧ w'.cell? ⟨W6.heap.size, 1, none⟩ = some (.slice ib ie if0))
    (first | with_reducible exact hS0 | with_reducible exact hS _ hb8 | with_reducible exact hS _ hb9)
    (first
      | (go_at_call 11
         refine (toModel _ _ _ (ModA.on g0 (bgo c0 hbd)) hs0).mono ?_
         rintro e Wq ⟨v, rfl, oe0, hBq⟩
         obtain ⟨vse0, rfl, re0⟩ := oe0.read
         clear oe0
         have hb8 := bgo hbd hBq
         clear hBq)
      | (go_at_call 14
         refine (eqModel _ _ _ _ _ (ModR.on ri0 (bgo c6 hb8)) re0).mono ?_
         rintro e W13 ⟨rfl, hBq⟩
         have hb9 := bgo hb8 hBq
         clear hBq))
  clear hS hS0 hbd hb8 re0
  have hB13 := hb9
  clear hb9
  replace c0 := bgo c0 hB13
  replace c1 := bgo c1 hB13
  replace c2 := bgo c2 hB13
  replace c5 := bgo c5 hB13
  replace c6 := bgo c6 hB13
  replace c7 := bgo c7 hB13
  replace c8 := bgo c8 hB13
  replace c9 := bgo c9 hB13
  replace c10 := bgo c10 hB13
  replace c11 := bgo c11 hB13
  have c12 := hB13
  clear hB13
  replace KG := Lib.hid (KG.out.below c12)
  clear c12
  have hy_y := HX_y.out.below_ c9 HX_y.out.lt
  have py_0 : W13.cell? ⟨W8.heap.size, 0, none⟩ = some (.int .i64 ja) := hy_y.at_ 0 rfl
  have py_1 : W13.cell? ⟨W8.heap.size, 1, none⟩ = some (.slice jc jf jg) := hy_y.at_ 1 rfl
  have py_2 : W13.cell? ⟨W8.heap.size, 2, none⟩ = some (.slice jd jh ji) := hy_y.at_ 2 rfl
  have py_3 : W13.cell? ⟨W8.heap.size, 3, none⟩ = some (.int .i64 jb) := hy_y.at_ 3 rfl
  have py_4 : W13.cell? ⟨W8.heap.size, 4, none⟩ = some (.slice je jj jk) := hy_y.at_ 4 rfl
  clear hy_y
  have hy_a1 := HX_a1.out.below_ c2 HX_a1.out.lt
  have pa1_0 : W13.cell? ⟨W0.heap.size + 1, 0, none⟩ = some (u10) := hy_a1.at_ 0 rfl
  have pa1_1 : W13.cell? ⟨W0.heap.size + 1, 1, none⟩ = some (u11) := hy_a1.at_ 1 rfl
  have pa1_2 : W13.cell? ⟨W0.heap.size + 1, 2, none⟩ = some (u12) := hy_a1.at_ 2 rfl
  have pa1_3 : W13.cell? ⟨W0.heap.size + 1, 3, none⟩ = some (u13) := hy_a1.at_ 3 rfl
  have pa1_4 : W13.cell? ⟨W0.heap.size + 1, 4, none⟩ = some (u14) := hy_a1.at_ 4 rfl
  clear hy_a1
  go_wp2_with fail
  clear py_0 py_1 py_2 py_3 py_4 pa1_0 pa1_1 pa1_2 pa1_3 pa1_4
  have hS : ∀ w', Below W13.heap.size W13 w' → (w'.cell? ⟨W0.heap.size + 1, 0, none⟩ = some (u10) ∧ w'.cell? ⟨W0.heap.size + 1, 1, none⟩ = some (u11) ∧ w'.cell? ⟨W0.heap.size + 1, 2, none⟩ = some (u12) ∧ w'.cell? ⟨W0.heap.size + 1, 3, none⟩ = some (u13) ∧ w'.cell? ⟨W0.heap.size + 1, 4, none⟩ = some (u14) ∧ w'.cell? ⟨W8.heap.size, 0, none⟩ = some (.int .i64 ja) ∧ w'.cell? ⟨W8.heap.size, 1, none⟩ = some (.slice jc jf jg) ∧ w'.cell? ⟨W8.heap.size, 2, none⟩ = some (.slice jd jh ji) ∧ w'.cell? ⟨W8.heap.size, 3, none⟩ = some (.int .i64 jb) ∧ w'.cell? ⟨W8.heap.size, 4, none⟩ = some (.slice je jj jk)) := by
    intro w' h
    have ka1 := HX_a1.out.below_ (bgo c2 h) HX_a1.out.lt
    have ky := HX_y.out.below_ (bgo c9 h) HX_y.out.lt
    exact ⟨ka1.at_ 0 rfl, ka1.at_ 1 rfl, ka1.at_ 2 rfl, ka1.at_ 3 rfl, ka1.at_ 4 rfl, ky.at_ 0 rfl, ky.at_ 1 rfl, ky.at_ 2 rfl, ky.at_ 3 rfl, ky.at_ 4 rfl⟩
  have hbd : Below W13.heap.size W13 W13.drew := below_drewN (Below.refl _ _) 1
  have hS0 := hS _ hbd
  go_region_held3 (fun w' => w'.cell? ⟨W0.heap.size + 1, 0, none⟩ = some (u10) ∧ w'.cell? ⟨W0.heap.size + 1, 1, none⟩ = some (u11) ∧ w'.cell? ⟨W0.heap.size + 1, 2, none⟩ = some (u12) ∧ w'.cell? ⟨W0.heap.size + 1, 3, none⟩ = some (u13) ∧ w'.cell? ⟨W0.heap.size + 1, 4, none⟩ = some (u14) ∧ w'.cell? ⟨W8.heap.size, 0, none⟩ = some (.int .i64 ja) ∧ w'.cell? ⟨W8.heap.size, 1, none⟩ = some (.slice jc jf jg) ∧ w'.cell? ⟨W8.heap.size, 2, none⟩ = some (.slice jd jh ji) ∧ w'.cell? ⟨W8.heap.size, 3, none⟩ = some (.int .i64 jb) ∧ w'.cell? ⟨W8.heap.size, 4, none⟩ = some (.slice je jj jk))
    (first | with_reducible exact hS0 | with_reducible exact hS _ hb8 | with_reducible exact hS _ hb9)
    (first
      | (go_at_call 12
         refine (toConstraint _ _ _ (ConA.on g1 (bgo c0 hbd)) hs1).mono ?_
         rintro e Wq ⟨v, rfl, oe0, hBq⟩
         obtain ⟨vse0, rfl, re0⟩ := oe0.read
         clear oe0
         have hb8 := bgo hbd hBq
         clear hBq)
      | (go_at_call 15
         refine (eqConstraint _ _ _ _ _ (ConR.on rj0 (bgo c8 hb8)) re0).mono ?_
         rintro e W14 ⟨rfl, hBq⟩
         have hb9 := bgo hb8 hBq
         clear hBq))
  clear hS hS0 hbd hb8 re0
  have hB14 := hb9
  clear hb9
  replace c0 := bgo c0 hB14
  replace c1 := bgo c1 hB14
  replace c2 := bgo c2 hB14
  replace c5 := bgo c5 hB14
  replace c6 := bgo c6 hB14
  replace c7 := bgo c7 hB14
  replace c8 := bgo c8 hB14
  replace c9 := bgo c9 hB14
  replace c10 := bgo c10 hB14
  replace c11 := bgo c11 hB14
  have c13 := hB14
  clear hB14
  replace KG := Lib.hid (KG.out.below c13)
  clear c13
  have hy_x := HX_x.out.below_ c7 HX_x.out.lt
  have px_0 : W14.cell? ⟨W6.heap.size, 0, none⟩ = some (.slice ia ic id0) := hy_x.at_ 0 rfl
  have px_1 : W14.cell? ⟨W6.heap.size, 1, none⟩ = some (.slice ib ie if0) := hy_x.at_ 1 rfl
  clear hy_x
  go_wp2_with fail
  clear px_0 px_1
  have k_hm0 := Lib.hid (hm0.out.keep (Keep.of_below c6))
  have zlc := c5.size
  have zlc3 := c7.size
  refine (markModelT [.slice ia ic id0, .slice ib ie if0] W5.heap.size W6.heap.size 1 _ k_hm0.out zlc (by omega) (by omega)).mono ?_
  rintro e W15 ⟨kk0, rfl, pa0, pb0, ht, hq⟩
  replace KG : Hid (CMod W15 W9.heap.size [.slice ga gn gb0, .slice gc gm gd] _ D xs) := CMod.apart KG.out ⟨ht.1.size, fun b h1 h2 => ht.2 b (by omega) h2⟩
  replace SG := Lib.hid (SMod.keep (SMod.keep SG.out (Keep.of_below c10)) hq)
  have HY_g := Lib.hid ((HX_g.out.below_ c11 HX_g.out.lt).touch ht (by omega))
  have HX_g := HY_g
  clear HY_g
  have HY_y := Lib.hid ((HX_y.out.below_ c9 HX_y.out.lt).touch ht (by omega))
  have HX_y := HY_y
  clear HY_y
  have k8 := c8
  replace c0 := c0.trans (ht.1.mono y0)
  replace c1 := c1.trans (ht.1.mono y1)
  replace c2 := c2.trans (ht.1.mono y2)
  replace c5 := c5.trans (ht.1.mono (Nat.le_refl _))
  clear c6
  clear c7
  clear c8
  clear c9
  clear c10
  clear c11
  have k_hm1 := Lib.hid (HConV.keep (hm1.out.keep (Keep.of_below k8)) hq)
  have zlc2 := ht.1.size
  have zlo3 : W7.heap.size ≤ W15.heap.size := by omega
  clear ht hq k_hm0 HX_x k8
  have hy_y := HX_y.out
  have py_0 : W15.cell? ⟨W8.heap.size, 0, none⟩ = some (.int .i64 ja) := hy_y.at_ 0 rfl
  have py_1 : W15.cell? ⟨W8.heap.size, 1, none⟩ = some (.slice jc jf jg) := hy_y.at_ 1 rfl
  have py_2 : W15.cell? ⟨W8.heap.size, 2, none⟩ = some (.slice jd jh ji) := hy_y.at_ 2 rfl
  have py_3 : W15.cell? ⟨W8.heap.size, 3, none⟩ = some (.int .i64 jb) := hy_y.at_ 3 rfl
  have py_4 : W15.cell? ⟨W8.heap.size, 4, none⟩ = some (.slice je jj jk) := hy_y.at_ 4 rfl
  clear hy_y
  go_wp2_with fail
  clear py_0 py_1 py_2 py_3 py_4
  refine (markConT [.int .i64 ja, .slice jc jf jg, .slice jd jh ji, .int .i64 jb, .slice je jj jk] W7.heap.size W8.heap.size kk0 _ k_hm1.out zlo3 (by omega) (by omega)).mono ?_
  rintro e W16 ⟨kk1, rfl, qa0, ht, hq⟩
  replace KG : Hid (CMod W16 W9.heap.size [.slice ga gn gb0, .slice gc gm gd] _ D xs) := CMod.apart KG.out ⟨ht.1.size, fun b h1 h2 => ht.2 b (by omega) h2⟩
  replace SG := Lib.hid (SMod.keep SG.out hq)
  have HY_g := Lib.hid (HX_g.out.touch ht (by omega))
  have HX_g := HY_g
  clear HY_g
  replace c0 := c0.trans (ht.1.mono (by omega))
  replace c1 := c1.trans (ht.1.mono (by omega))
  replace c2 := c2.trans (ht.1.mono (by omega))
  replace c5 := c5.trans (ht.1.mono (by omega))
  clear ht hq k_hm1 HX_y
  have hkd : decide (kk1 < 0) = false := decide_eq_false (by omega)
  have hy_g := HX_g.out
  have pg_0 : W16.cell? ⟨W10.heap.size, 0, none⟩ = some (.slice ga gn gb0) := hy_g.at_ 0 rfl
  have pg_1 : W16.cell? ⟨W10.heap.size, 1, none⟩ = some (.slice gc gm gd) := hy_g.at_ 1 rfl
  clear hy_g
  have hy_w := HX_w.out.below_ c5 HX_w.out.lt
  have pw_0 : W16.cell? ⟨g6, 0, none⟩ = some (.slice wa wn wb) := hy_w.at_ 0 rfl
  have pw_1 : W16.cell? ⟨g6, 1, none⟩ = some (.slice wc wm wd) := hy_w.at_ 1 rfl
  clear hy_w
  go_wp2_with fail
  clear pg_0 pg_1 pw_0 pw_1
  clear hkd
  refine (eqModel _ _ _ _ _ (CMod.read KG.out) (ModR.on rw0 c5)).mono ?_
  rintro e W17 ⟨rfl, hB17⟩
  replace c0 := bgo c0 hB17
  replace c1 := bgo c1 hB17
  replace c2 := bgo c2 hB17
  replace c5 := bgo c5 hB17
  have c16 := hB17
  clear hB17
  replace SG := Lib.hid (SMod.keep SG.out (Keep.of_below c16))
  clear KG
  have hy_g := HX_g.out.below_ c16 HX_g.out.lt
  have pg_0 : W17.cell? ⟨W10.heap.size, 0, none⟩ = some (.slice ga gn gb0) := hy_g.at_ 0 rfl
  have pg_1 : W17.cell? ⟨W10.heap.size, 1, none⟩ = some (.slice gc gm gd) := hy_g.at_ 1 rfl
  clear hy_g
  have hgl := (HX_g.out.below_ c16 HX_g.out.lt).lt
  go_wp2_with fail
  have zgb : W9.heap.size ≤ W17.heap.size := by omega
  refine (markModelW [.slice ga gn gb0, .slice gc gm gd] W9.heap.size 1 S _ SG.out zgb (by omega) (by omega)).mono ?_
  rintro e W18 ⟨rfl, hw⟩
  have G0 : W18.cell? ⟨W10.heap.size, 0, none⟩ = some (.slice ga gn gb0) := (hw.old _ 0 hgl (fun h => absurd (SL.out _ h) (by simp))).trans pg_0
  have G1 : W18.cell? ⟨W10.heap.size, 1, none⟩ = some (.slice gc gm gd) := (hw.old _ 1 hgl (fun h => absurd (SL.out _ h) (by simp))).trans pg_1
  have HG0 := Lib.hid G0
  have HG1 := Lib.hid G1
  have HGL := Lib.hid (Nat.lt_of_lt_of_le hgl hw.below.size)
  clear pg_0 pg_1 hgl
  replace c0 := c0.trans (hw.below.mono (by omega))
  replace c1 := c1.trans (hw.below.mono (by omega))
  replace c2 := c2.trans (hw.below.mono (by omega))
  replace c5 := c5.trans (hw.below.mono (by omega))
  clear c16
  replace SG := Lib.hid (SMod.keep SG.out hw.keep)
  have HH := Lib.hid (Holds.of_wr hw SN.out)
  have HL := Lib.hid hw.lt
  clear hw HX_g SL
  go_wp2_with fail
  clear G0 G1
  have hkd : decide ((1 : Int) + (S.length : Int) < 0) = false := decide_eq_false (by omega)
  have hkn : (((1 : Int) + (S.length : Int)) == ((1 : Int) + (S.length : Int))) = true := by simp
  refine (heldModelW [.slice ga gn gb0, .slice gc gm gd] W9.heap.size 1 S _ SG.out HH.out HL.out (by omega) (by omega)).mono ?_
  rintro e W19 ⟨rfl, hB19⟩
  replace c0 := bgo c0 hB19
  replace c1 := bgo c1 hB19
  replace c2 := bgo c2 hB19
  replace c5 := bgo c5 hB19
  have c18 := hB19
  clear hB19
  replace SG := Lib.hid (SMod.keep SG.out (Keep.of_below c18))
  replace HH := Lib.hid (HH.out.below c18 HL.out)
  replace HL := Lib.hid (fun s hs => Nat.lt_of_lt_of_le (HL.out s hs) c18.size)
  go_wp2_with fail
  have hS : ∀ w', Below W19.heap.size W19 w' → (w'.cell? ⟨W0.heap.size, 0, none⟩ = some (u00) ∧ w'.cell? ⟨W0.heap.size, 1, none⟩ = some (u01) ∧ w'.cell? ⟨W0.heap.size + 1, 0, none⟩ = some (u10) ∧ w'.cell? ⟨W0.heap.size + 1, 1, none⟩ = some (u11) ∧ w'.cell? ⟨W0.heap.size + 1, 2, none⟩ = some (u12) ∧ w'.cell? ⟨W0.heap.size + 1, 3, none⟩ = some (u13) ∧ w'.cell? ⟨W0.heap.size + 1, 4, none⟩ = some (u14)) := by
    intro w' h
    have ka0 := HX_a0.out.below_ (bgo c1 h) HX_a0.out.lt
    have ka1 := HX_a1.out.below_ (bgo c2 h) HX_a1.out.lt
    exact ⟨ka0.at_ 0 rfl, ka0.at_ 1 rfl, ka1.at_ 0 rfl, ka1.at_ 1 rfl, ka1.at_ 2 rfl, ka1.at_ 3 rfl, ka1.at_ 4 rfl⟩
  have hbd : Below W19.heap.size W19 W19.drew := below_drewN (Below.refl _ _) 1
  have hS0 := hS _ hbd
  refine wp_cut (ι := CutP) (fun i a => Act.sets a [(95, .agg #[u00, u01]), (96, .agg i.p.toArray), (97, .agg #[u10, u11, u12, u13, u14]), (98, .agg i.q.toArray), (99, .tuple #[.agg #[.slice i.A i.n i.c, .slice i.B i.m i.d], .bool (vmodF (addC x0 x1))]), (94, .tuple #[.agg #[.slice i.A i.n i.c, .slice i.B i.m i.d], .bool (vmodF (addC x0 x1))]), (100, .agg #[.slice i.A i.n i.c, .slice i.B i.m i.d]), (101, .bool (vmodF (addC x0 x1))), (15, .pointer (some ⟨i.g, 0, none⟩)), (16, .bool (vmodF (addC x0 x1)))]) (fun i W => ModR W W.heap.size [.slice i.A i.n i.c, .slice i.B i.m i.d] (withM x0 x1) ∧ TBlk 33 W i.g #[.slice i.A i.n i.c, .slice i.B i.m i.d] ∧ W19.heap.size ≤ i.g ∧ Below W19.heap.size W19 W) ?_ ?_
  · go_region_held3 (fun w' => w'.cell? ⟨W0.heap.size, 0, none⟩ = some (u00) ∧ w'.cell? ⟨W0.heap.size, 1, none⟩ = some (u01) ∧ w'.cell? ⟨W0.heap.size + 1, 0, none⟩ = some (u10) ∧ w'.cell? ⟨W0.heap.size + 1, 1, none⟩ = some (u11) ∧ w'.cell? ⟨W0.heap.size + 1, 2, none⟩ = some (u12) ∧ w'.cell? ⟨W0.heap.size + 1, 3, none⟩ = some (u13) ∧ w'.cell? ⟨W0.heap.size + 1, 4, none⟩ = some (u14))
      (first | with_reducible exact hS0 | (with_reducible refine hS _ ?_; (repeat' (first | with_reducible assumption | with_reducible exact Below.refl _ _ | with_reducible refine Below.drew_ ?_ | with_reducible refine Below.setCell ?_ (by first | (simp; done) | (simp; omega)) _ | with_reducible refine Below.alloc0 ?_ _))))
          (first
          | (go_at_call 11
             refine (toModel _ _ _ (ModA.on g0 (bgo c0 (show Below W19.heap.size W19 _ by (repeat' (first | with_reducible assumption | with_reducible exact Below.refl _ _ | with_reducible refine Below.drew_ ?_ | with_reducible refine Below.setCell ?_ (by first | (simp; done) | (simp; omega)) _ | with_reducible refine Below.alloc0 ?_ _))))) hs0).mono ?_
             rintro e V1 ⟨v, rfl, o1, hB1⟩
             obtain ⟨vs8, rfl, r8⟩ := o1.read
             have e1 := bgo (show Below W19.heap.size W19 _ by (repeat' (first | with_reducible assumption | with_reducible exact Below.refl _ _ | with_reducible refine Below.drew_ ?_ | with_reducible refine Below.setCell ?_ (by first | (simp; done) | (simp; omega)) _ | with_reducible refine Below.alloc0 ?_ _))) hB1
             have z1 := e1.size
             first
               | (refine have_then (A := TBlk 33 V1 W19.heap.size #[.slice none 0 0, .slice none 0 0]) ?_ ?_
                  focus (refine TBlk.on ?_ hB1; (repeat' (first | with_reducible assumption | with_reducible exact TBlk.new _ _ _ | with_reducible exact TBlk.new2 _ _ _ _ | with_reducible refine TBlk.drew_ ?_ | with_reducible refine TBlk.on ?_ (b_alloc _ _))); done)
                  intro t1)
               | skip
             clear o1)
          | (go_at_call 12
             refine (toConstraint _ _ _ (ConA.on g1 (bgo c0 (show Below W19.heap.size W19 _ by (repeat' (first | with_reducible assumption | with_reducible exact Below.refl _ _ | with_reducible refine Below.drew_ ?_ | with_reducible refine Below.setCell ?_ (by first | (simp; done) | (simp; omega)) _ | with_reducible refine Below.alloc0 ?_ _))))) hs1).mono ?_
             rintro e V2 ⟨v, rfl, o2, hB2⟩
             obtain ⟨vs9, rfl, r9⟩ := o2.read
             have e2 := bgo (show Below W19.heap.size W19 _ by (repeat' (first | with_reducible assumption | with_reducible exact Below.refl _ _ | with_reducible refine Below.drew_ ?_ | with_reducible refine Below.setCell ?_ (by first | (simp; done) | (simp; omega)) _ | with_reducible refine Below.alloc0 ?_ _))) hB2
             have e12 := bgo (show Below V1.heap.size V1 _ by (repeat' (first | with_reducible assumption | with_reducible exact Below.refl _ _ | with_reducible refine Below.drew_ ?_ | with_reducible refine Below.setCell ?_ (by first | (simp; done) | (simp; omega)) _ | with_reducible refine Below.alloc0 ?_ _))) hB2
             have z2 := e2.size
             first
               | (refine have_then (A := TBlk 33 V2 W19.heap.size #[.slice none 0 0, .slice none 0 0]) ?_ ?_
                  focus (refine TBlk.on ?_ hB2; (repeat' (first | with_reducible assumption | with_reducible exact TBlk.new _ _ _ | with_reducible exact TBlk.new2 _ _ _ _ | with_reducible refine TBlk.drew_ ?_ | with_reducible refine TBlk.on ?_ (b_alloc _ _))); done)
                  intro t2)
               | (refine have_then (A := TBlk 33 V2 V1.heap.size #[.slice none 0 0, .slice none 0 0]) ?_ ?_
                  focus (refine TBlk.on ?_ hB2; (repeat' (first | with_reducible assumption | with_reducible exact TBlk.new _ _ _ | with_reducible exact TBlk.new2 _ _ _ _ | with_reducible refine TBlk.drew_ ?_ | with_reducible refine TBlk.on ?_ (b_alloc _ _))); done)
                  intro t2)
               | skip
             clear o2)
          | (go_at_call 13
             refine (iWith vs8 vs9 x0 x1 _ (ModR.on r8 (show Below V1.heap.size V1 _ by (repeat' (first | with_reducible assumption | with_reducible exact Below.refl _ _ | with_reducible refine Below.drew_ ?_ | with_reducible refine Below.setCell ?_ (by first | (simp; done) | (simp; omega)) _ | with_reducible refine Below.alloc0 ?_ _)))) (ConR.on r9 (show Below V2.heap.size V2 _ by (repeat' (first | with_reducible assumption | with_reducible exact Below.refl _ _ | with_reducible refine Below.drew_ ?_ | with_reducible refine Below.setCell ?_ (by first | (simp; done) | (simp; omega)) _ | with_reducible refine Below.alloc0 ?_ _)))) hs0 hs1).mono ?_
             rintro e V3 ⟨rs, Dh, xsh, rfl, ow, fh, hB3⟩
             obtain ⟨wa, wn, wb, wc, wm, wd, rfl⟩ := CMod.shape ow
             have e3 := bgo (show Below W19.heap.size W19 _ by (repeat' (first | with_reducible assumption | with_reducible exact Below.refl _ _ | with_reducible refine Below.drew_ ?_ | with_reducible refine Below.setCell ?_ (by first | (simp; done) | (simp; omega)) _ | with_reducible refine Below.alloc0 ?_ _))) hB3
             have z3 := e3.size
             first
               | (refine have_then (A := ∃ B, TBlk 33 V3 W19.heap.size #[.slice none 0 0, .slice none 0 0] ∧ W19.heap.size < B ∧ CMod V3 B [.slice wa wn wb, .slice wc wm wd] (withM x0 x1) Dh xsh) ?_ ?_
                  focus (refine TBlk.on2 ?_ hB3 ow; (repeat' (first | with_reducible assumption | with_reducible exact TBlk.new _ _ _ | with_reducible exact TBlk.new2 _ _ _ _ | with_reducible refine TBlk.drew_ ?_ | with_reducible refine TBlk.on ?_ (b_alloc _ _))); done)
                  intro hT
                  obtain ⟨Bq, t3, hlt, ow3⟩ := hT
                  have d0 := t3.at_ 0 rfl
                  have d1 := t3.at_ 1 rfl
                  have df := fun j => t3.frozen j)
               | (refine have_then (A := ∃ B, TBlk 33 V3 V1.heap.size #[.slice none 0 0, .slice none 0 0] ∧ V1.heap.size < B ∧ CMod V3 B [.slice wa wn wb, .slice wc wm wd] (withM x0 x1) Dh xsh) ?_ ?_
                  focus (refine TBlk.on2 ?_ hB3 ow; (repeat' (first | with_reducible assumption | with_reducible exact TBlk.new _ _ _ | with_reducible exact TBlk.new2 _ _ _ _ | with_reducible refine TBlk.drew_ ?_ | with_reducible refine TBlk.on ?_ (b_alloc _ _))); done)
                  intro hT
                  obtain ⟨Bq, t3, hlt, ow3⟩ := hT
                  have d0 := t3.at_ 0 rfl
                  have d1 := t3.at_ 1 rfl
                  have df := fun j => t3.frozen j)
               | (refine have_then (A := ∃ B, TBlk 33 V3 V2.heap.size #[.slice none 0 0, .slice none 0 0] ∧ V2.heap.size < B ∧ CMod V3 B [.slice wa wn wb, .slice wc wm wd] (withM x0 x1) Dh xsh) ?_ ?_
                  focus (refine TBlk.on2 ?_ hB3 ow; (repeat' (first | with_reducible assumption | with_reducible exact TBlk.new _ _ _ | with_reducible exact TBlk.new2 _ _ _ _ | with_reducible refine TBlk.drew_ ?_ | with_reducible refine TBlk.on ?_ (b_alloc _ _))); done)
                  intro hT
                  obtain ⟨Bq, t3, hlt, ow3⟩ := hT
                  have d0 := t3.at_ 0 rfl
                  have d1 := t3.at_ 1 rfl
                  have df := fun j => t3.frozen j)
               | skip))
    all_goals first
      | (refine ⟨rfl, ⟨vs8, vs9, wa, wn, wb, wc, wm, wd, V3.heap.size⟩, ?_, ?_, ?_, ?_, ?_⟩
         focus (simp only [Act.sets, List.foldl_cons, List.foldl_nil, List.setIfInBounds_toArray, List.set_cons_zero, List.set_cons_succ]; done)
         focus exact CMod.read (CMod.below ow (b_alloc _ _))
         focus exact TBlk.new _ _ _
         focus exact z3
         exact Below.alloc0 e3 _)
      | (refine ⟨rfl, ⟨vs8, vs9, wa, wn, wb, wc, wm, wd, V1.heap.size⟩, ?_, ?_, ?_, ?_, ?_⟩
         focus (simp only [Act.sets, List.foldl_cons, List.foldl_nil, List.setIfInBounds_toArray, List.set_cons_zero, List.set_cons_succ]; done)
         focus exact CMod.read (CMod.apart ow3 (((Apart.refl _ _).set hlt 0 _).set hlt 1 _))
         focus exact (t3.store 0 _).store 1 _
         focus exact z1
         exact (e3.setCell (by first | (simp; done) | (simp; omega)) _).setCell (by first | (simp; done) | (simp; omega)) _)
      | (refine ⟨rfl, ⟨vs8, vs9, wa, wn, wb, wc, wm, wd, V2.heap.size⟩, ?_, ?_, ?_, ?_, ?_⟩
         focus (simp only [Act.sets, List.foldl_cons, List.foldl_nil, List.setIfInBounds_toArray, List.set_cons_zero, List.set_cons_succ]; done)
         focus exact CMod.read (CMod.apart ow3 (((Apart.refl _ _).set hlt 0 _).set hlt 1 _))
         focus exact (t3.store 0 _).store 1 _
         focus exact z2
         exact (e3.setCell (by first | (simp; done) | (simp; omega)) _).setCell (by first | (simp; done) | (simp; omega)) _)
      | (refine ⟨rfl, ⟨vs8, vs9, wa, wn, wb, wc, wm, wd, W19.heap.size⟩, ?_, ?_, ?_, ?_, ?_⟩
         focus (simp only [Act.sets, List.foldl_cons, List.foldl_nil, List.setIfInBounds_toArray, List.set_cons_zero, List.set_cons_succ]; done)
         focus exact CMod.read (CMod.apart ow3 (((Apart.refl _ _).set hlt 0 _).set hlt 1 _))
         focus exact (t3.store 0 _).store 1 _
         focus exact (Nat.le_refl _)
         exact (e3.setCell (by first | (simp; done) | (simp; omega)) _).setCell (by first | (simp; done) | (simp; omega)) _)
  rintro ⟨p9, q9, ha, hn, hb, hc, hm, hd, g7⟩ W20 ⟨rh0, hx, hg7, hB20⟩
  simp only [] at rh0 hx hg7
  have HX_h := Lib.hid hx
  clear hx hS hS0 hbd
  replace c0 := bgo c0 hB20
  replace c1 := bgo c1 hB20
  replace c2 := bgo c2 hB20
  replace c5 := bgo c5 hB20
  replace c18 := bgo c18 hB20
  have c19 := hB20
  clear hB20
  replace SG := Lib.hid (SMod.keep SG.out (Keep.of_below c19))
  replace HH := Lib.hid (HH.out.below c19 HL.out)
  replace HL := Lib.hid (fun s hs => Nat.lt_of_lt_of_le (HL.out s hs) c19.size)
  simp only [Act.sets, List.foldl_cons, List.foldl_nil, List.setIfInBounds_toArray, List.set_cons_zero, List.set_cons_succ]
  clear c19
  have hy_h := HX_h.out
  have ph_0 : W20.cell? ⟨g7, 0, none⟩ = some (.slice ha hn hb) := hy_h.at_ 0 rfl
  have ph_1 : W20.cell? ⟨g7, 1, none⟩ = some (.slice hc hm hd) := hy_h.at_ 1 rfl
  clear hy_h
  have hy_w := HX_w.out.below_ c5 HX_w.out.lt
  have pw_0 : W20.cell? ⟨g6, 0, none⟩ = some (.slice wa wn wb) := hy_w.at_ 0 rfl
  have pw_1 : W20.cell? ⟨g6, 1, none⟩ = some (.slice wc wm wd) := hy_w.at_ 1 rfl
  clear hy_w
  go_wp2_with fail
  clear ph_0 ph_1 pw_0 pw_1
  have oh := rh0
  refine (eqModel _ _ _ _ _ oh (ModR.on rw0 c5)).mono ?_
  rintro e W21 ⟨rfl, hB21⟩
  replace c0 := bgo c0 hB21
  replace c1 := bgo c1 hB21
  replace c2 := bgo c2 hB21
  replace c5 := bgo c5 hB21
  replace c18 := bgo c18 hB21
  have c20 := hB21
  clear hB21
  replace SG := Lib.hid (SMod.keep SG.out (Keep.of_below c20))
  replace HH := Lib.hid (HH.out.below c20 HL.out)
  replace HL := Lib.hid (fun s hs => Nat.lt_of_lt_of_le (HL.out s hs) c20.size)
  clear oh
  have G0 := (c18.cell HGL.out).trans HG0.out
  have G1 := (c18.cell HGL.out).trans HG1.out
  go_wp2_with fail
  clear G0 G1
  refine (heldModelW [.slice ga gn gb0, .slice gc gm gd] W9.heap.size 1 S _ SG.out HH.out HL.out (by omega) (by omega)).mono ?_
  rintro e W22 ⟨rfl, hB22⟩
  replace c0 := bgo c0 hB22
  replace c1 := bgo c1 hB22
  replace c2 := bgo c2 hB22
  replace c5 := bgo c5 hB22
  replace c18 := bgo c18 hB22
  replace c20 := bgo c20 hB22
  have c21 := hB22
  clear hB22
  go_wp2_with fail
  go_ret
  exact ⟨rfl, c0⟩

set_option maxRecDepth 100000 in
theorem lifted (os : Os) (started : os.Started) (H : Type) (enc : TypeId × Value → H) :
    ReturnsInHanded {} Try.checked os 3 .any (Rows.fnExactWithConstraintSpec.pre6 enc Try.prog Try.f3 Rows.fnExactWithConstraintRow.domain false) (Rows.fnExactWithConstraintSpec.post enc Try.prog Try.f3 false true false false) := by
  refine returnsInHanded_of_change (C := Try.checked) own started (by kernel_rfl) Try.func3
    (ChangeSpec.witness6 (enc := enc) (C := Try.checked) false ⟨#[], #[.agg #[.slice none 0 0, .slice none 0 0], .agg #[.int .i64 0, .slice none 0 0, .slice none 0 0, .int .i64 0, .slice none 0 0]], []⟩ 8 (by kernel_rfl) (by kernel_rfl) (by kernel_rfl) (by kernel_rfl)) ?_
  intro W base args ds gs before hval0 hW hcnd _
  have hval : ∀ (j : Nat) t v, Try.f3.params[j]? = some t → args[j]? = some v → Value.okWide Try.prog W .any base t v := hval0
  have hW' := hW
  obtain ⟨p, q, hA0, hV, rfl, hfz, hnd⟩ := hW
  have hA : DataW.TrodAll enc Try.prog W 0 (fun _ => true) true Try.f3.params.toList args.toList ds p := hA0
  rw [Try.params3] at hA hval
  obtain ⟨v0, vs0, d0, ds0, p0, q0, hargs, rfl, rfl, h0, r0⟩ := trodAll_cons hA
  obtain ⟨v1, vs1, d1, ds1, p1, q1, rfl, rfl, rfl, h1, r1⟩ := trodAll_cons r0
  obtain ⟨rfl, rfl, rfl⟩ := trodAll_nil r1
  obtain rfl : args = #[v0, v1] := by cases args; simp_all
  obtain ⟨rfl, rfl⟩ := trodVars_none hV
  have k0 := h0
  have l0 : ∀ x ∈ p0, x.block < W.heap.size := fun x hx => hW'.lt x (by simp [hx])
  have k1 := h1
  have l1 : ∀ x ∈ p1, x.block < W.heap.size := fun x hx => hW'.lt x (by simp [hx])
  obtain ⟨us0, x0, rfl, g0⟩ := open_model (hval 0 25 v0 rfl rfl) k0
  obtain ⟨us1, x1, rfl, g1⟩ := open_con (hval 1 28 v1 rfl rfl) k1
  clear hA0 hval0
  refine (walk us0 x0 g0 us1 x1 g1).mono fun e W' ⟨he, hb⟩ => ?_
  subst he
  exact ⟨_, rfl, _, _, _, [], _, [], hW', trodAll_cons_mk (p := []) (shut_bool Try.underlying4 _) trodAll_mk0, (trodAll_cons_mk (Below.trod laid (by kernel_rfl) (of_decide_eq_true (by kernel_rfl)) h0 hb l0) (trodAll_cons_mk (Below.trod laid (by kernel_rfl) (of_decide_eq_true (by kernel_rfl)) h1 hb l1) trodAll_mk0)), rfl, hb.frame _, fun h => by cases h⟩

theorem over : Rows.fnExactWithConstraintRow.holds Try.pinned (OpenSpec.ofChange Rows.fnExactWithConstraintSpec) :=
  OpenClaim.holds_of_wide 3 Try.f3 rfl rfl rfl rfl rfl rfl rfl ⟨rfl, rfl, rfl, rfl, rfl⟩ rfl rfl rfl rfl rfl (by kernel_rfl) Try.func3 (by kernel_rfl)
    (of_decide_eq_true (by kernel_rfl)) (by unfold Func.isWrapper; first | (rw [if_pos (by decide +kernel)]; kernel_rfl) | (rw [if_neg (by decide +kernel)]; exact ⟨rfl, rfl⟩))
    (fun os started H enc _ => lifted os started H enc)

/-- The statement. -/
theorem proved : Rows.FnExactWithConstraintSaid :=
  over
#print axioms proved
end Go.Proofs.Ytcghhnajjmnkkaa.fnExactWithConstraint
