/- What is drawn: a model and a constraint; a model. -/
import Derived.Test.YtejfnkbdmlijbaaDrawN
namespace Go.Proofs.Ytejfnkbdmlijbaa
open Go.ChangeShapes Go.WideShapes Go.ChangeAt Go.RowKit
open Go.Shelf
set_option linter.unusedVariables false
set_option linter.unusedSimpArgs false
set_option maxRecDepth 100000

theorem OwnMod.butG {w w' : World} {base g : Nat} {v : Value} {m : Mod} (h : OwnMod w base v m) (hb : ButG g w.heap.size w w') (hg : g < base) : OwnMod w' base v m := by
  obtain ⟨a, b, e, k1, k2⟩ := h
  exact ⟨a, b, e, OwnI.butG k1 hb hg, OwnCons.butG k2 hb hg⟩
theorem OwnCon.butG {w w' : World} {base g : Nat} {v : Value} {k : Con} (h : OwnCon w base v k) (hb : ButG g w.heap.size w w') (hg : g < base) : OwnCon w' base v k := by
  obtain ⟨vv, av, rv, e, k1, k2, k3⟩ := h
  exact ⟨vv, av, rv, e, OwnI.butG k1 hb hg, OwnI.butG k2 hb hg, OwnRows.butG k3 hb hg⟩
/-- a small model. -/
def SzM (m : Mod) : Prop := 1 ≤ m.doms.length ∧ m.doms.length ≤ 4 ∧ m.cons.length ≤ 4 ∧ ∀ k ∈ m.cons, SmD k
theorem SzM.sm {m : Mod} (h : SzM m) : SmMod m := ⟨by have := h.2.1; unfold Sm1; omega, by have := h.2.2.1; omega, fun k hk => (h.2.2.2 k hk).con⟩
/-- five cells of one box. -/
theorem butG_set5 (w : World) (R B : Nat) (x0 x1 x2 x3 x4 : Value) : ButG R B w (((((w.setCell ⟨R, 0, none⟩ x0).setCell ⟨R, 1, none⟩ x1).setCell ⟨R, 2, none⟩ x2).setCell ⟨R, 3, none⟩ x3).setCell ⟨R, 4, none⟩ x4) :=
  ((((ButG.set R B 0 w x0).trans (ButG.set R B 1 _ x1)).trans (ButG.set R B 2 _ x2)).trans (ButG.set R B 3 _ x3)).trans (ButG.set R B 4 _ x4)
theorem butG_set2 (w : World) (R B : Nat) (x0 x1 : Value) : ButG R B w ((w.setCell ⟨R, 0, none⟩ x0).setCell ⟨R, 1, none⟩ x1) := (ButG.set R B 0 w x0).trans (ButG.set R B 1 _ x1)
theorem TBlk.laid5 {w : World} {R : Nat} {x0 x1 x2 x3 x4 z0 z1 z2 z3 z4 : Value} (h : TBlk 35 w R #[z0, z1, z2, z3, z4]) : TBlk 35 (((((w.setCell ⟨R, 0, none⟩ x0).setCell ⟨R, 1, none⟩ x1).setCell ⟨R, 2, none⟩ x2).setCell ⟨R, 3, none⟩ x3).setCell ⟨R, 4, none⟩ x4) R #[x0, x1, x2, x3, x4] :=
  ((((h.store 0 x0).store 1 x1).store 2 x2).store 3 x3).store 4 x4
theorem TBlk.laid2 {t : TypeId} {w : World} {R : Nat} {x0 x1 z0 z1 : Value} (h : TBlk t w R #[z0, z1]) : TBlk t ((w.setCell ⟨R, 0, none⟩ x0).setCell ⟨R, 1, none⟩ x1) R #[x0, x1] := (h.store 0 x0).store 1 x1
set_option maxHeartbeats 4000000 in
theorem drawPropagate (A : Option Addr) (n c : Nat) (bs : List Int) (w : World) (h : CodeA w w.heap.size A n c bs) :
    Calls Try.prog 34 #[.slice A n c] w fun e w' => ∃ (vs : List Value) (m : Mod), e = .returned (.agg vs.toArray) ∧ OwnMod w' w.heap.size (.agg vs.toArray) m ∧ SzM m ∧ Below w.heap.size w w' := by
  obtain ⟨wa, hwa⟩ : ∃ wa, wa = w.alloc (.cells #[.slice none 0 0, .slice none 0 0] 26) := ⟨_, rfl⟩
  have hba : Below w.heap.size w wa := by rw [hwa]; exact b_alloc _ _
  have hza : wa.heap.size = w.heap.size + 1 := by rw [hwa, size_alloc_]
  have HT : Hid (TBlk 26 wa w.heap.size #[.slice none 0 0, .slice none 0 0]) := by rw [hwa]; exact TBlk.new _ _ _
  have HN := newReader A n c bs wa ⟨SlA.on ByteC.keeps ByteC.widens h.1 hba, h.2⟩
  have HBA := Lib.hid hba
  clear h hba
  go_enter Try.func34, Try.ntmps34
  go_wp2_with fail
  rw [← hwa]
  clear hwa
  refine HN.mono ?_
  rintro e w1 ⟨g, m, c', bs', rfl, hr, hb1, hg⟩
  have hbase := hr.base_le
  have HT1 := Lib.hid (HT.out.below_ hb1 HT.out.lt)
  have hz1 := hb1.size
  go_wp2_with fail
  refine (anyModel _ g m c' 0 A bs' w1 hr (by omega)).mono ?_
  rintro e w6 ⟨vs, md, q, rfl, ho, hsz, hq, hr6, hb6⟩
  have hB6 : Below w.heap.size w w6 := (bgo HBA.out hb1).trans ((hb6.below hbase hb1.size).mono (by omega))
  have HT6 := HT1.out.butG hb6 (by omega)
  obtain ⟨dv, cv, ev, o1, o2⟩ := ho
  obtain rfl : vs = [dv, cv] := by
    injection ev with ev
    exact List.toArray_inj ev
  obtain ⟨A0, c0, rfl, -⟩ := o1.read
  obtain ⟨Ac, cc, rfl⟩ := OwnK.form o2
  obtain ⟨nd, hnd⟩ : ∃ nd, md.doms.length = nd := ⟨_, rfl⟩
  obtain ⟨nc, hnc⟩ : ∃ nc, md.cons.length = nc := ⟨_, rfl⟩
  rw [hnd] at o1 ⊢
  rw [hnc] at o2 ⊢
  clear hnd hnc
  have y0 := HT6.at_ 0 rfl
  have y1 := HT6.at_ 1 rfl
  have f0 := HT6.frozen 0
  have f1 := HT6.frozen 1
  obtain ⟨wf, hwf⟩ : ∃ wf, wf = (w6.setCell ⟨w.heap.size, 0, none⟩ (.slice A0 nd c0)).setCell ⟨w.heap.size, 1, none⟩ (.slice Ac nc cc) := ⟨_, rfl⟩
  have hq1 : ButG w.heap.size w6.heap.size w6 wf := by rw [hwf]; exact butG_set2 _ _ _ _ _
  have hTF : TBlk 26 wf w.heap.size #[.slice A0 nd c0, .slice Ac nc cc] := by rw [hwf]; exact TBlk.laid2 HT6
  have hBF : Below w.heap.size w wf := by rw [hwf]; exact (hB6.setCell (p := ⟨w.heap.size, 0, none⟩) (Nat.le_refl _) _).setCell (p := ⟨w.heap.size, 1, none⟩) (Nat.le_refl _) _
  have HF := Lib.hid (And.intro (OwnMod.butG (show OwnMod w6 w1.heap.size (.agg #[.slice A0 nd c0, .slice Ac nc cc]) md from ⟨_, _, rfl, o1, o2⟩) hq1 (by omega)) (And.intro hBF hwf))
  have t0 := hTF.at_ 0 rfl
  have t1 := hTF.at_ 1 rfl
  clear hq1 hTF hBF hwf o1 o2 HT6 hB6 hb6 hr6
  go_wp2_with fail
  rw [← HF.out.2.2]
  refine bodyPost_ret (v := .agg #[.slice A0 nd c0, .slice Ac nc cc]) ?_ rfl ?_
  · simp [results, Try.results34, go_sem, t0, t1]
  · exact ⟨[.slice A0 nd c0, .slice Ac nc cc], _, rfl, OwnMod.base_ HF.out.1 (by omega), hsz, HF.out.2.1⟩
set_option maxHeartbeats 6000000 in
theorem drawWithConstraint (A : Option Addr) (n c : Nat) (bs : List Int) (w : World) (h : CodeA w w.heap.size A n c bs) :
    Calls Try.prog 14 #[.slice A n c] w fun e w' => ∃ (vs us : List Value) (m : Mod) (k : Con), e = .returned (.tuple #[.agg vs.toArray, .agg us.toArray]) ∧ OwnMod w' w.heap.size (.agg vs.toArray) m ∧ OwnCon w' w.heap.size (.agg us.toArray) k ∧ SzM m ∧ SmD k ∧ Below w.heap.size w w' := by
  obtain ⟨wa, hwa⟩ : ∃ wa, wa = (w.alloc (.cells #[.slice none 0 0, .slice none 0 0] 26)).alloc (.cells #[.int .i64 0, .slice none 0 0, .slice none 0 0, .int .i64 0, .slice none 0 0] 35) := ⟨_, rfl⟩
  have hba : Below w.heap.size w wa := by rw [hwa]; exact b_alloc2 _ _ _
  have hza : wa.heap.size = w.heap.size + 1 + 1 := by rw [hwa, size_alloc_, size_alloc_]
  have HT : Hid (TBlk 26 wa w.heap.size #[.slice none 0 0, .slice none 0 0]) := by rw [hwa]; exact Lib.hid ((TBlk.new _ _ _).alloc_ _)
  have HC : Hid (TBlk 35 wa (w.heap.size + 1) #[.int .i64 0, .slice none 0 0, .slice none 0 0, .int .i64 0, .slice none 0 0]) := by rw [hwa]; exact Lib.hid (TBlk.newAt (by simp))
  have HN := newReader A n c bs wa ⟨SlA.on ByteC.keeps ByteC.widens h.1 hba, h.2⟩
  have HBA := Lib.hid hba
  clear h hba
  go_enter Try.func14, Try.ntmps14
  go_wp2_with fail
  rw [← hwa]
  clear hwa
  refine HN.mono ?_
  rintro e w1 ⟨g, m, c', bs', rfl, hr, hb1, hg⟩
  have hbase := hr.base_le
  have HT1 := Lib.hid (HT.out.below_ hb1 HT.out.lt)
  have HC1 := Lib.hid (HC.out.below_ hb1 HC.out.lt)
  have hz1 := hb1.size
  have HB1 := Lib.hid (bgo HBA.out hb1)
  clear hb1 HT HC HBA
  go_wp2_with fail
  refine (anyModel _ g m c' 0 A bs' w1 hr (by omega)).mono ?_
  rintro e w2 ⟨vs, md, q, rfl, ho, hsz, hq, hr2, hb2⟩
  have HB2 := Lib.hid (HB1.out.trans ((hb2.below hbase hz1).mono (by omega)))
  have HT2 := HT1.out.butG hb2 (by omega)
  have HC2 := HC1.out.butG hb2 (by omega)
  have hz2 := hb2.size
  obtain ⟨dv, cv, ev, o1, o2⟩ := ho
  obtain rfl : vs = [dv, cv] := by
    injection ev with ev
    exact List.toArray_inj ev
  obtain ⟨A0, c0, rfl, -⟩ := o1.read
  obtain ⟨Ac, cc, rfl⟩ := OwnK.form o2
  obtain ⟨nd, hnd⟩ : ∃ nd, md.doms.length = nd := ⟨_, rfl⟩
  obtain ⟨nc, hnc⟩ : ∃ nc, md.cons.length = nc := ⟨_, rfl⟩
  rw [hnd] at o1 ⊢
  rw [hnc] at o2 ⊢
  have hd1 : 1 ≤ nd := by rw [← hnd]; exact hsz.1
  have hd4 : nd ≤ 4 := by rw [← hnd]; exact hsz.2.1
  clear hnd hnc
  obtain ⟨w3, hw3⟩ : ∃ w3, w2.alloc (.cells #[.slice A0 nd c0, .slice Ac nc cc] 26) = w3 := ⟨_, rfl⟩
  have hb3 : Below w2.heap.size w2 w3 := by rw [← hw3]; exact b_alloc _ _
  have hz3 : w3.heap.size = w2.heap.size + 1 := by rw [← hw3, size_alloc_]
  have HM3 : Hid (TBlk 26 w3 w2.heap.size #[.slice A0 nd c0, .slice Ac nc cc]) := by rw [← hw3]; exact TBlk.new _ _ _
  have HO3 := Lib.hid (OwnMod.below (show OwnMod w2 w1.heap.size (.agg #[.slice A0 nd c0, .slice Ac nc cc]) md from ⟨_, _, rfl, o1, o2⟩) hb3)
  have HT3 := Lib.hid (HT2.below_ hb3 HT2.lt)
  have HC3 := Lib.hid (HC2.below_ hb3 HC2.lt)
  have hr3 := hr2.under hb3 (by omega)
  have HB3 := Lib.hid (HB2.out.trans (hb3.mono (by omega)))
  clear o1 o2 HT2 HC2 hr2 hb2 hb3 HB2 HB1 HT1 HC1
  have hS : ∀ w', ButG g w3.heap.size w3 w' → w'.cell? ⟨w2.heap.size, 0, none⟩ = some (.slice A0 nd c0) ∧ w'.cell? ⟨w2.heap.size, 1, none⟩ = some (.slice Ac nc cc) := fun w' h => by
    have t := HM3.out.butG h (by omega)
    exact ⟨t.at_ 0 rfl, t.at_ 1 rfl⟩
  have hbd : ButG g w3.heap.size w3 w3.drew := below_butG (below_drewN (Below.refl _ _) 1) g
  have hS0 := hS _ hbd
  have hrd : Rd w3.drew wa.heap.size g A m c' bs' q := hr3.drewN 1
  have hzd : w3.drew.heap.size = w3.heap.size := rfl
  go_wp2_with fail
  clear hw3
  go_region_held3 (fun w' => w'.cell? ⟨w2.heap.size, 0, none⟩ = some (.slice A0 nd c0) ∧ w'.cell? ⟨w2.heap.size, 1, none⟩ = some (.slice Ac nc cc))
    (first | with_reducible exact hS0 | with_reducible assumption)
    (first
      | (go_at_call 51
         refine (anyConstraint wa.heap.size g m c' q A bs' nd w3.drew hrd (by omega) hd1 hd4).mono ?_
         rintro e W6 ⟨vk, kc, q6, rfl, hoc, hsm, hq6, hr6, hbq⟩
         have hb6 := hbd.go hbq
         have hS6 := hS _ hb6
         obtain ⟨vv', av', rv', rfl, k1, k2, k3⟩ := hoc
         obtain ⟨A1', c1', rfl, -⟩ := k1.read
         obtain ⟨A2', c2', rfl, -⟩ := k2.read
         obtain ⟨A3', c3', rfl, -⟩ := read2 k3
         have HT6 := HT3.out.butG hb6 (show w.heap.size ≠ g by omega)
         have HC6 := HC3.out.butG hb6 (show w.heap.size + 1 ≠ g by omega)
         have HM6 := HM3.out.butG hb6 (show w2.heap.size ≠ g by omega)
         have y0 := HT6.at_ 0 rfl
         have y1 := HT6.at_ 1 rfl
         have f0 := HT6.frozen 0
         have f1 := HT6.frozen 1
         obtain ⟨W7, hW7⟩ : ∃ W7, (W6.setCell ⟨w.heap.size, 0, none⟩ (.slice A0 nd c0)).setCell ⟨w.heap.size, 1, none⟩ (.slice Ac nc cc) = W7 := ⟨_, rfl⟩
         have hq7 : ButG w.heap.size W6.heap.size W6 W7 := by rw [← hW7]; exact butG_set2 _ _ _ _ _
         have hT7 : TBlk 26 W7 w.heap.size #[.slice A0 nd c0, .slice Ac nc cc] := by rw [← hW7]; exact TBlk.laid2 HT6
         have hC7 := HC6.butG hq7 (show w.heap.size + 1 ≠ w.heap.size by omega)
         have hM7 := HM6.butG hq7 (show w2.heap.size ≠ w.heap.size by omega)
         have hS7 : W7.cell? ⟨w2.heap.size, 0, none⟩ = some (.slice A0 nd c0) ∧ W7.cell? ⟨w2.heap.size, 1, none⟩ = some (.slice Ac nc cc) := ⟨hM7.at_ 0 rfl, hM7.at_ 1 rfl⟩
         have z0 := hC7.at_ 0 rfl
         have z1 := hC7.at_ 1 rfl
         have z2 := hC7.at_ 2 rfl
         have z3 := hC7.at_ 3 rfl
         have z4 := hC7.at_ 4 rfl
         have e0 := hC7.frozen 0
         have e1 := hC7.frozen 1
         have e2 := hC7.frozen 2
         have e3 := hC7.frozen 3
         have e4 := hC7.frozen 4
         obtain ⟨W8, hW8⟩ : ∃ W8, ((((W7.setCell ⟨w.heap.size + 1, 0, none⟩ (.int .i64 kc.kind)).setCell ⟨w.heap.size + 1, 1, none⟩ (.slice A1' kc.vars.length c1')).setCell ⟨w.heap.size + 1, 2, none⟩ (.slice A2' kc.args.length c2')).setCell ⟨w.heap.size + 1, 3, none⟩ (.int .i64 kc.bound)).setCell ⟨w.heap.size + 1, 4, none⟩ (.slice A3' kc.rows.length c3') = W8 := ⟨_, rfl⟩
         have hq8 : ButG (w.heap.size + 1) W7.heap.size W7 W8 := by rw [← hW8]; exact butG_set5 _ _ _ _ _ _ _ _
         have hM8 := hM7.butG hq8 (show w2.heap.size ≠ w.heap.size + 1 by omega)
         have hS8 : W8.cell? ⟨w2.heap.size, 0, none⟩ = some (.slice A0 nd c0) ∧ W8.cell? ⟨w2.heap.size, 1, none⟩ = some (.slice Ac nc cc) := ⟨hM8.at_ 0 rfl, hM8.at_ 1 rfl⟩
         have hC8 : TBlk 35 W8 (w.heap.size + 1) #[.int .i64 kc.kind, .slice A1' kc.vars.length c1', .slice A2' kc.args.length c2', .int .i64 kc.bound, .slice A3' kc.rows.length c3'] := by rw [← hW8]; exact TBlk.laid5 hC7
         have hT8 := hT7.butG hq8 (show w.heap.size ≠ w.heap.size + 1 by omega)
         have zz6 := hb6.size))
  all_goals
    have OM := ((HO3.out.butG hb6 (by omega)).butG hq7 (show w.heap.size < w1.heap.size by omega)).butG hq8 (show w.heap.size + 1 < w1.heap.size by omega)
    have OC := (OwnCon.butG (OwnCon.butG (show OwnCon W6 w3.drew.heap.size (.agg #[.int .i64 kc.kind, .slice A1' kc.vars.length c1', .slice A2' kc.args.length c2', .int .i64 kc.bound, .slice A3' kc.rows.length c3']) kc from ⟨_, _, _, rfl, k1, k2, k3⟩) hq7 (by omega)) hq8 (by omega))
    have BF : Below w.heap.size w W8 := ((HB3.out.trans ((hb6.below (show w.heap.size ≤ g by omega) (by omega)).mono (Nat.le_refl _))).trans (hq7.below (Nat.le_refl _) (by omega))).trans (hq8.below (by omega) (by have := hq7.size; omega))
    have t0 := hT8.at_ 0 rfl
    have t1 := hT8.at_ 1 rfl
    have t2 := hC8.at_ 0 rfl
    have t3 := hC8.at_ 1 rfl
    have t4 := hC8.at_ 2 rfl
    have t5 := hC8.at_ 3 rfl
    have t6 := hC8.at_ 4 rfl
    have HALL := Lib.hid (And.intro OM (And.intro OC (And.intro BF (And.intro hsz hsm))))
    go_wp2_with fail
    refine bodyPost_ret (v := .tuple #[.agg #[.slice A0 nd c0, .slice Ac nc cc], .agg #[.int .i64 kc.kind, .slice A1' kc.vars.length c1', .slice A2' kc.args.length c2', .int .i64 kc.bound, .slice A3' kc.rows.length c3']]) ?_ rfl ?_
    · simp [results, Try.results14, go_sem, t0, t1, t2, t3, t4, t5, t6]
    · first
        | exact ⟨[.slice A0 nd c0, .slice Ac nc cc], [.int .i64 kc.kind, .slice A1' kc.vars.length c1', .slice A2' kc.args.length c2', .int .i64 kc.bound, .slice A3' kc.rows.length c3'], md, kc, rfl, OwnMod.base_ HALL.out.1 (by omega), OwnCon.base_ HALL.out.2.1 (by omega), HALL.out.2.2.2.1, HALL.out.2.2.2.2, HALL.out.2.2.1⟩
        | exact ⟨[.slice A0 nd c0, .slice Ac nc cc], [.int .i64 kc.kind, .slice A1' kc.vars.length c1', .slice A2' kc.args.length c2', .int .i64 kc.bound, .slice A3' kc.rows.length c3'], rfl, md, OwnMod.base_ HALL.out.1 (by omega), kc, OwnCon.base_ HALL.out.2.1 (by omega), HALL.out.2.2.2.1, HALL.out.2.2.2.2, HALL.out.2.2.1⟩
end Go.Proofs.Ytejfnkbdmlijbaa
