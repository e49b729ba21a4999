/- Models: the laws' copies, sizes and comparisons. -/
import Derived.Test.YtfoodlhfmcfjeaaDoorModI
namespace Go.Proofs.YtfoodlhfmcfjeaaDoor
open Go.ChangeShapes Go.WideShapes Go.ChangeAt Go.RowKit
open Go.Shelf
set_option linter.unusedVariables false
set_option maxRecDepth 100000

def SmMod (m : Mod) : Prop := Sm1 m.doms ∧ SmS SmCon m.cons
/-- A fresh model. -/
def OwnMod (w : World) (base : Nat) (v : Value) (m : Mod) : Prop := ∃ dv cv, v = .agg #[dv, cv] ∧ OwnI 3 w base dv m.doms ∧ OwnCons w base cv m.cons
theorem OwnMod.read {w : World} {base : Nat} {v : Value} {m : Mod} (h : OwnMod w base v m) : ∃ us, v = .agg us.toArray ∧ ModR w w.heap.size us m := by
  obtain ⟨dv, cv, rfl, h1, h2⟩ := h
  obtain ⟨A1, c1, rfl, r1⟩ := h1.read
  obtain ⟨A2, c2, rfl, r2, k2⟩ := OwnCons.read h2
  have k1 := own_cap h1.1
  exact ⟨_, rfl, A1, A2, c1, c2, rfl, r1, r2, k1, k2⟩
theorem OwnMod.below {w w' : World} {base : Nat} {v : Value} {m : Mod} (h : OwnMod w base v m) (hb : Below w.heap.size w w') : OwnMod w' base v m := by
  obtain ⟨dv, cv, e, h1, h2⟩ := h
  exact ⟨dv, cv, e, (OwnI.stays 3).below _ _ _ _ _ hb h1, (OwnK.stays OwnConU.stays).below _ _ _ _ _ hb h2⟩
theorem OwnMod.base_ {w : World} {base b' : Nat} {v : Value} {m : Mod} (h : OwnMod w base v m) (hb : b' ≤ base) : OwnMod w b' v m := by
  obtain ⟨dv, cv, e, h1, h2⟩ := h
  exact ⟨dv, cv, e, (OwnI.stays 3).base _ _ _ _ _ hb h1, (OwnK.stays OwnConU.stays).base _ _ _ _ _ hb h2⟩
theorem OwnConU.shun {t : TypeId} (h1 : t ≠ 3) (h2 : t ≠ 22) : ShunsK t OwnConU := by
  intro w base us c g j cs fr u hg h
  obtain ⟨vv, av, rv, e, k1, k2, k3⟩ := h
  exact ⟨vv, av, rv, e, OwnI.shuns h1 _ _ _ _ _ j _ _ _ hg k1, OwnI.shuns h1 _ _ _ _ _ j _ _ _ hg k2, OwnOf.shuns h2 (OwnI.shuns h1) _ _ _ _ _ j _ _ _ hg k3⟩
theorem OwnMod.set {w : World} {t : TypeId} {b j base : Nat} {cs : Array Value} {u v : Value} {m : Mod} (h1 : t ≠ 3) (h2 : t ≠ 22) (h3 : t ≠ 50) (h : OwnMod w base v m) (hb : TBlk t w b cs) : OwnMod (w.setCell ⟨b, j, none⟩ u) base v m := by
  obtain ⟨dv, cv, e, k1, k2⟩ := h
  exact ⟨dv, cv, e, OwnI.shuns h1 _ _ _ _ _ j _ _ _ hb k1, OwnK.shuns h3 (OwnConU.shun h1 h2) _ _ _ _ _ j _ _ _ hb k2⟩
set_option maxHeartbeats 4000000 in
theorem szModel (us : List Value) (m : Mod) (left : Int) (w : World) (h : ModA w w.heap.size us m) (h0 : 0 ≤ left) (h1 : left ≤ 1048576) :
    Calls Tryd.prog 4 #[.agg us.toArray, .int .i64 left] w fun e w' => ∃ r : Int, e = .returned (.int .i64 r) ∧ (r = -1 ∨ 0 ≤ r ∧ r ≤ left ∧ SmMod m) ∧ Below w.heap.size w w' := by
  obtain ⟨da, ca, cd, cc, rfl, g1, g2⟩ := h
  obtain ⟨wa, hwa⟩ : ∃ wa, wa = w.alloc (.cells #[.slice da m.doms.length cd, .slice ca m.cons.length cc] 25) := ⟨_, rfl⟩
  have hb0 : Below w.heap.size w wa := by rw [hwa]; exact b_alloc _ _
  have hsz : wa.heap.size = w.heap.size + 1 := by rw [hwa, size_alloc_]
  have ha : TBlk 25 wa w.heap.size #[.slice da m.doms.length cd, .slice ca m.cons.length cc] := by rw [hwa]; exact TBlk.new _ _ _
  have HA := Lib.hid ha
  have G1 := Lib.hid (IntA.on g1 hb0)
  have G2 := Lib.hid (ConsA.on g2 hb0)
  have a0 := ha.at_ 0 rfl
  have a1 := ha.at_ 1 rfl
  clear ha g1 g2
  go_enter Tryd.func4, Tryd.ntmps4
  go_wp2_with fail
  rw [← hwa]
  clear hwa
  refine (szIntS _ _ _ _ left _ G1.out h0 h1).mono ?_
  rintro e w1 ⟨r1, rfl, hr, hb1⟩
  rcases hr with rfl | ⟨p0, p1, s1⟩
  · go_wp2_with fail
    go_ret
    exact ⟨-1, rfl, .inl rfl, bgo hb0 hb1⟩
  have S1 := Lib.hid s1
  clear a0 a1 s1
  have a1 := (HA.out.below_ hb1 (by omega)).at_ 1 rfl
  go_wp2_with fail
  refine (szConstraintS _ _ _ _ r1 _ (ConsA.on G2.out hb1) p0 (by omega)).mono ?_
  rintro e w2 ⟨r2, rfl, hr, hb2⟩
  rcases hr with rfl | ⟨p2, p3, s2⟩
  · go_wp2_with fail
    go_ret
    exact ⟨-1, rfl, .inl rfl, bgo (bgo hb0 hb1) hb2⟩
  have S2 := Lib.hid s2
  clear s2
  go_wp2_with fail
  go_ret
  exact ⟨r2, rfl, .inr ⟨p2, by omega, S1.out, S2.out⟩, bgo (bgo hb0 hb1) hb2⟩
set_option maxHeartbeats 4000000 in
theorem toModel (us : List Value) (m : Mod) (w : World) (h : ModA w w.heap.size us m) (hs : SmMod m) :
    Calls Tryd.prog 6 #[.agg us.toArray] w fun e w' => ∃ v, e = .returned v ∧ OwnMod w' w.heap.size v m ∧ Below w.heap.size w w' := by
  obtain ⟨da, ca, cd, cc, rfl, g1, g2⟩ := h
  obtain ⟨wa, hwa⟩ : ∃ wa, wa = ((w.alloc (.cells #[.slice da m.doms.length cd, .slice ca m.cons.length cc] 25)).alloc (.cells #[.slice none 0 0, .slice none 0 0] 30)).alloc (.cells #[.slice none 0 0, .slice none 0 0] 30) := ⟨_, rfl⟩
  have hb0 : Below w.heap.size w wa := by rw [hwa]; exact b_alloc3 _ _ _ _
  have hsz : wa.heap.size = w.heap.size + 1 + 1 + 1 := by rw [hwa, size_alloc_, size_alloc_, size_alloc_]
  have ha : TBlk 25 wa w.heap.size #[.slice da m.doms.length cd, .slice ca m.cons.length cc] := by
    rw [hwa]; exact (TBlk.new _ _ _).below_ (b_alloc2 (w.alloc _) _ _) (by rw [size_alloc_]; omega)
  have hr : TBlk 30 wa (w.heap.size + 1) #[.slice none 0 0, .slice none 0 0] := by
    rw [hwa]
    have := TBlk.new (w.alloc (.cells #[.slice da m.doms.length cd, .slice ca m.cons.length cc] 25)) #[.slice none 0 0, .slice none 0 0] 30
    rw [size_alloc_] at this
    exact this.below_ (b_alloc _ _) (by rw [size_alloc_, size_alloc_]; omega)
  have ho : TBlk 30 wa (w.heap.size + 1 + 1) #[.slice none 0 0, .slice none 0 0] := by
    rw [hwa]
    have := TBlk.new ((w.alloc (.cells #[.slice da m.doms.length cd, .slice ca m.cons.length cc] 25)).alloc (.cells #[.slice none 0 0, .slice none 0 0] 30)) #[.slice none 0 0, .slice none 0 0] 30
    rw [size_alloc_, size_alloc_] at this
    exact this
  have G1 := Lib.hid g1
  have G2 := Lib.hid g2
  have S1 := Lib.hid hs.1
  have S2 := Lib.hid hs.2
  have HA := Lib.hid ha
  have HR := Lib.hid hr
  have HO := Lib.hid ho
  have a0 : wa.cell? ⟨w.heap.size, 0, none⟩ = some (.slice da m.doms.length cd) := ha.at_ 0 rfl
  clear g1 g2 hs ha hr ho
  go_enter Tryd.func6, Tryd.ntmps6
  go_wp2_with fail
  rw [← hwa]
  clear hwa
  refine (toIntS_own da _ cd m.doms wa (IntA.on G1.out hb0) S1.out).mono ?_
  rintro e w1 ⟨v1, rfl, o1, hb1⟩
  have z0 := hb0.size
  have z1 := hb1.size
  have ha1 := HA.out.below_ hb1 (by omega)
  have ho1 := HO.out.below_ hb1 (by omega)
  have c10 : w1.cell? ⟨w.heap.size + 1 + 1, 0, none⟩ = some (.slice none 0 0) := ho1.at_ 0 rfl
  have f10 := ho1.frozen 0
  have c11 : w1.cell? ⟨w.heap.size, 1, none⟩ = some (.slice ca m.cons.length cc) := ha1.at_ 1 rfl
  obtain ⟨V1, d1, e1, -⟩ := o1.read
  subst e1
  have ho2 := ho1.store 0 (.slice V1 m.doms.length d1)
  have hr2 : TBlk 30 (w1.setCell ⟨w.heap.size + 1 + 1, 0, none⟩ (.slice V1 m.doms.length d1)) (w.heap.size + 1) #[.slice none 0 0, .slice none 0 0] := (HR.out.below_ hb1 (by omega)).far (by omega)
  have o1' := OwnI.shuns (t := 30) (by decide) _ _ _ _ _ 0 _ _ (.slice V1 m.doms.length d1) ho1 o1
  have hb2 : Below w.heap.size w (w1.setCell ⟨w.heap.size + 1 + 1, 0, none⟩ (.slice V1 m.doms.length d1)) := (bgo hb0 hb1).setCell (by simp; omega) _
  clear ha1 ho1 o1 a0
  go_wp2_with fail
  obtain ⟨wb, hwb⟩ : ∃ wb, wb = w1.setCell ⟨w.heap.size + 1 + 1, 0, none⟩ (.slice V1 m.doms.length d1) := ⟨_, rfl⟩
  rw [← hwb] at ho2 hr2 o1' hb2 ⊢
  have hzb : wb.heap.size = w1.heap.size := by rw [hwb]; simp
  clear hwb c10 f10 c11
  have HO2 := Lib.hid ho2
  have HR2 := Lib.hid hr2
  have O1 := Lib.hid o1'
  clear ho2 hr2 o1'
  refine (toConstraintS _ _ _ _ _ (ConsA.on G2.out hb2) S2.out).mono ?_
  rintro e w2 ⟨v2, rfl, o2, hb3⟩
  have z3 := hb3.size
  have ho3 := HO2.out.below_ hb3 (by omega)
  have hr3 := HR2.out.below_ hb3 (by omega)
  have o1b := (OwnI.stays 3).below _ _ _ _ _ hb3 O1.out
  have hown : OwnMod w2 w.heap.size (.agg #[.slice V1 m.doms.length d1, v2]) m := ⟨_, _, rfl, (OwnI.stays 3).base _ _ _ _ _ (by omega) o1b, (OwnK.stays OwnConU.stays).base _ _ _ _ _ (by omega) o2⟩
  obtain ⟨V2, d2, e2, -⟩ := OwnCons.read o2
  subst e2
  have c20 : w2.cell? ⟨w.heap.size + 1 + 1, 0, none⟩ = some (.slice V1 m.doms.length d1) := ho3.at_ 0 rfl
  have c21 : w2.cell? ⟨w.heap.size + 1 + 1, 1, none⟩ = some (.slice none 0 0) := ho3.at_ 1 rfl
  have f21 := ho3.frozen 1
  have r20 : w2.cell? ⟨w.heap.size + 1, 0, none⟩ = some (.slice none 0 0) := hr3.at_ 0 rfl
  have r21 : w2.cell? ⟨w.heap.size + 1, 1, none⟩ = some (.slice none 0 0) := hr3.at_ 1 rfl
  have g20 := hr3.frozen 0
  have g21 := hr3.frozen 1
  have ho4 := ho3.store 1 (.slice V2 m.cons.length d2)
  have hr4 : TBlk 30 (w2.setCell ⟨w.heap.size + 1 + 1, 1, none⟩ (.slice V2 m.cons.length d2)) (w.heap.size + 1) #[.slice none 0 0, .slice none 0 0] := hr3.far (by omega)
  have q1 := hown.set (j := 1) (u := .slice V2 m.cons.length d2) (by decide) (by decide) (by decide) ho3
  have q2 := q1.set (j := 0) (u := .slice V1 m.doms.length d1) (by decide) (by decide) (by decide) hr4
  have hr5 := hr4.store 0 (.slice V1 m.doms.length d1)
  have q3 := q2.set (j := 1) (u := .slice V2 m.cons.length d2) (by decide) (by decide) (by decide) hr5
  have hr6 := hr5.store 1 (.slice V2 m.cons.length d2)
  have he6 : Below w.heap.size w (((w2.setCell ⟨w.heap.size + 1 + 1, 1, none⟩ (.slice V2 m.cons.length d2)).setCell ⟨w.heap.size + 1, 0, none⟩ (.slice V1 m.doms.length d1)).setCell ⟨w.heap.size + 1, 1, none⟩ (.slice V2 m.cons.length d2)) :=
    (((bgo hb2 hb3).setCell (by simp; omega) _).setCell (by simp) _).setCell (by simp) _
  have t0 : (((w2.setCell ⟨w.heap.size + 1 + 1, 1, none⟩ (.slice V2 m.cons.length d2)).setCell ⟨w.heap.size + 1, 0, none⟩ (.slice V1 m.doms.length d1)).setCell ⟨w.heap.size + 1, 1, none⟩ (.slice V2 m.cons.length d2)).cell? ⟨w.heap.size + 1, 0, none⟩ = some (.slice V1 m.doms.length d1) := hr6.at_ 0 rfl
  have t1 : (((w2.setCell ⟨w.heap.size + 1 + 1, 1, none⟩ (.slice V2 m.cons.length d2)).setCell ⟨w.heap.size + 1, 0, none⟩ (.slice V1 m.doms.length d1)).setCell ⟨w.heap.size + 1, 1, none⟩ (.slice V2 m.cons.length d2)).cell? ⟨w.heap.size + 1, 1, none⟩ = some (.slice V2 m.cons.length d2) := hr6.at_ 1 rfl
  have T := Lib.hid (And.intro t0 t1)
  have HOWN := Lib.hid q3
  have HE := Lib.hid he6
  clear t0 t1 q1 q2 q3 he6 hr4 hr5 hr6 ho4 ho3 hr3 o1b o2 hown
  go_wp2_with fail
  generalize ((w2.setCell ⟨w.heap.size + 1 + 1, 1, none⟩ (.slice V2 m.cons.length d2)).setCell ⟨w.heap.size + 1, 0, none⟩ (.slice V1 m.doms.length d1)).setCell ⟨w.heap.size + 1, 1, none⟩ (.slice V2 m.cons.length d2) = wf at T HOWN HE ⊢
  obtain ⟨t0, t1⟩ := T.out
  exact bodyPost_ret (v := .agg #[.slice V1 m.doms.length d1, .slice V2 m.cons.length d2]) (by simp [results, Tryd.results6, go_sem, t0, t1]) rfl ⟨_, rfl, HOWN.out, HE.out⟩
set_option maxHeartbeats 4000000 in
theorem eqModel (us vs : List Value) (c d : Mod) (w : World) (h : ModR w w.heap.size us c) (k : ModR w w.heap.size vs d) :
    Calls Tryd.prog 8 #[.agg us.toArray, .agg vs.toArray] w fun e w' => e = .returned (.bool (decide (c = d))) ∧ Below w.heap.size w w' := by
  obtain ⟨da, ca, cd, cc, rfl, g1, g2, -⟩ := h
  obtain ⟨db, cb, dd, dc, rfl, k1, k2, -⟩ := k
  obtain ⟨wa, hwa⟩ : ∃ wa, wa = (w.alloc (.cells #[.slice da c.doms.length cd, .slice ca c.cons.length cc] 30)).alloc (.cells #[.slice db d.doms.length dd, .slice cb d.cons.length dc] 30) := ⟨_, rfl⟩
  have hb0 : Below w.heap.size w wa := by rw [hwa]; exact b_alloc2 _ _ _
  have hsz : wa.heap.size = w.heap.size + 1 + 1 := by rw [hwa, size_alloc_, size_alloc_]
  have ha : TBlk 30 wa w.heap.size #[.slice da c.doms.length cd, .slice ca c.cons.length cc] := by
    rw [hwa]; exact (TBlk.new _ _ _).below_ (b_alloc _ _) (by rw [size_alloc_]; omega)
  have hd : TBlk 30 wa (w.heap.size + 1) #[.slice db d.doms.length dd, .slice cb d.cons.length dc] := by
    rw [hwa]
    have := TBlk.new (w.alloc (.cells #[.slice da c.doms.length cd, .slice ca c.cons.length cc] 30)) #[.slice db d.doms.length dd, .slice cb d.cons.length dc] 30
    rw [size_alloc_] at this
    exact this
  have HA := Lib.hid ha
  have HD := Lib.hid hd
  have G1 := Lib.hid g1
  have G2 := Lib.hid g2
  have K1 := Lib.hid k1
  have K2 := Lib.hid k2
  have a0 : wa.cell? ⟨w.heap.size, 0, none⟩ = some (.slice da c.doms.length cd) := ha.at_ 0 rfl
  have b0 : wa.cell? ⟨w.heap.size + 1, 0, none⟩ = some (.slice db d.doms.length dd) := hd.at_ 0 rfl
  clear ha hd g1 g2 k1 k2
  go_enter Tryd.func8, Tryd.ntmps8
  go_wp2_with fail
  rw [← hwa]
  clear hwa
  refine (eqIntS _ _ _ _ _ _ c.doms d.doms _ (IntR.on G1.out hb0) (IntR.on K1.out hb0)).mono ?_
  rintro e w1 ⟨rfl, hb1⟩
  have z1 := hb1.size
  have a1 : w1.cell? ⟨w.heap.size, 1, none⟩ = some (.slice ca c.cons.length cc) := (HA.out.below_ hb1 (by omega)).at_ 1 rfl
  have b1 : w1.cell? ⟨w.heap.size + 1, 1, none⟩ = some (.slice cb d.cons.length dc) := (HD.out.below_ hb1 (by omega)).at_ 1 rfl
  have hc1 := bgo hb0 hb1
  clear a0 b0
  cases e1 : decide (c.doms = d.doms)
  · have HE := Lib.hid (show decide (c = d) = false from decide_eq_false (fun h => of_decide_eq_false e1 (by rw [h])))
    have E1 := Lib.hid e1
    clear e1
    go_wp2_with fail
    go_ret
    exact ⟨ret_bool HE.out.symm, hc1⟩
  have E1 := Lib.hid e1
  clear e1
  go_wp2_with fail
  refine (eqConstraintS _ _ _ _ _ _ c.cons d.cons _ (ConsR.on G2.out hc1) (ConsR.on K2.out hc1)).mono ?_
  rintro e w2 ⟨rfl, hb2⟩
  have hc2 := bgo hc1 hb2
  cases e2 : decide (c.cons = d.cons)
  · have HE := Lib.hid (show decide (c = d) = false from decide_eq_false (fun h => of_decide_eq_false e2 (by rw [h])))
    have E2 := Lib.hid e2
    clear e2
    go_wp2_with fail
    go_ret
    exact ⟨ret_bool HE.out.symm, hc2⟩
  have HE := Lib.hid (show decide (c = d) = true from decide_eq_true (by
    rcases c with ⟨x, y⟩
    rcases d with ⟨x', y'⟩
    have h1 := of_decide_eq_true E1.out
    have h2 := of_decide_eq_true e2
    simp only at h1 h2
    subst h1 h2
    rfl))
  have E2 := Lib.hid e2
  clear e2
  go_wp2_with fail
  go_ret
  exact ⟨ret_bool HE.out.symm, hc2⟩
end Go.Proofs.YtfoodlhfmcfjeaaDoor
