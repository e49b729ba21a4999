/- Stores: the laws' copies, sizes and comparisons; valid stores. -/
import Derived.Test.YtcghhnajjmnkkaaVmod
namespace Go.Proofs.Ytcghhnajjmnkkaa
open Go.ChangeShapes Go.WideShapes Go.ChangeAt Go.RowKit
open Go.Shelf
set_option linter.unusedVariables false
set_option maxRecDepth 100000

def SmSto (s : Sto) : Prop := SmMod s.model ∧ SmS Sm1 s.levels
/-- A fresh store. -/
def OwnSto (w : World) (base : Nat) (v : Value) (s : Sto) : Prop := ∃ dv cv lv, v = .agg #[dv, cv, lv] ∧ OwnMod w base (.agg #[dv, cv]) s.model ∧ OwnOf 22 (OwnI 3) w base lv s.levels
theorem rows_cap {w : World} {base n c : Nat} {A : Option Addr} {xs : List (List Int)} (h : OwnOf 22 (OwnI 3) w base (.slice A n c) xs) : n ≤ c := by
  obtain ⟨us, -, h2, -⟩ := h
  exact own_cap h2
theorem OwnSto.read {w : World} {base : Nat} {v : Value} {s : Sto} (h : OwnSto w base v s) : ∃ us, v = .agg us.toArray ∧ StoR w w.heap.size us s := by
  obtain ⟨dv, cv, lv, rfl, h1, h3⟩ := h
  obtain ⟨us, e, hm⟩ := h1.read
  obtain ⟨A3, c3, rfl, r3⟩ := read2 h3
  injection e with e
  have e2 : [dv, cv] = us := by simpa using congrArg Array.toList e
  subst e2
  exact ⟨_, rfl, _, _, A3, c3, rfl, hm, r3, rows_cap h3⟩
theorem OwnSto.below {w w' : World} {base : Nat} {v : Value} {s : Sto} (h : OwnSto w base v s) (hb : Below w.heap.size w w') : OwnSto w' base v s := by
  obtain ⟨dv, cv, lv, e, h1, h3⟩ := h
  exact ⟨dv, cv, lv, e, h1.below hb, (OwnOf.stays (OwnI.stays 3)).below _ _ _ _ _ hb h3⟩
theorem OwnSto.base_ {w : World} {base b' : Nat} {v : Value} {s : Sto} (h : OwnSto w base v s) (hb : b' ≤ base) : OwnSto w b' v s := by
  obtain ⟨dv, cv, lv, e, h1, h3⟩ := h
  exact ⟨dv, cv, lv, e, h1.base_ hb, (OwnOf.stays (OwnI.stays 3)).base _ _ _ _ _ hb h3⟩
theorem OwnSto.set {w : World} {t : TypeId} {b j base : Nat} {cs : Array Value} {u v : Value} {s : Sto} (h1 : t ≠ 3) (h2 : t ≠ 22) (h3 : t ≠ 37) (h : OwnSto w base v s) (hb : TBlk t w b cs) : OwnSto (w.setCell ⟨b, j, none⟩ u) base v s := by
  obtain ⟨dv, cv, lv, e, k1, k3⟩ := h
  exact ⟨dv, cv, lv, e, k1.set h1 h2 h3 hb, OwnOf.shuns h2 (OwnI.shuns h1) _ _ _ _ _ j _ _ _ hb k3⟩
set_option maxHeartbeats 4000000 in
theorem szStore (us : List Value) (s : Sto) (left : Int) (w : World) (h : StoA w w.heap.size us s) (h0 : 0 ≤ left) (h1 : left ≤ 1048576) :
    Calls Try.prog 21 #[.agg us.toArray, .int .i64 left] w fun e w' => ∃ r : Int, e = .returned (.int .i64 r) ∧ (r = -1 ∨ 0 ≤ r ∧ r ≤ left ∧ SmSto s) ∧ Below w.heap.size w w' := by
  obtain ⟨u, v, la, lc, rfl, g1, g2⟩ := h
  obtain ⟨wa, hwa⟩ : ∃ wa, wa = w.alloc (.cells #[u, v, .slice la s.levels.length lc] 47) := ⟨_, rfl⟩
  have hb0 : Below w.heap.size w wa := by rw [hwa]; exact b_alloc _ _
  have hsz : wa.heap.size = w.heap.size + 1 := by rw [hwa, size_alloc_]
  have ha : TBlk 47 wa w.heap.size #[u, v, .slice la s.levels.length lc] := by rw [hwa]; exact TBlk.new _ _ _
  have HA := Lib.hid ha
  have G1 := Lib.hid (ModA.on g1 hb0)
  have G2 := Lib.hid (SlA.on (RowA.keeps IntC.keeps) (RowA.widens IntC.widens) g2 hb0)
  have a0 : wa.cell? ⟨w.heap.size, 0, none⟩ = some u := ha.at_ 0 rfl
  have a1 : wa.cell? ⟨w.heap.size, 1, none⟩ = some v := ha.at_ 1 rfl
  clear ha g1 g2
  go_enter Try.func21, Try.ntmps21
  go_wp2_with fail
  rw [← hwa]
  clear hwa
  refine (szModel _ _ left _ G1.out h0 h1).mono ?_
  rintro e w1 ⟨r1, rfl, hr, hb1⟩
  rcases hr with rfl | ⟨p0, p1, s1⟩
  · go_wp2_with fail
    go_ret
    exact ⟨-1, rfl, .inl rfl, bgo hb0 hb1⟩
  have S1 := Lib.hid s1
  clear a0 a1 s1
  have a2 : w1.cell? ⟨w.heap.size, 2, none⟩ = some (.slice la s.levels.length lc) := (HA.out.below_ hb1 (by omega)).at_ 2 rfl
  go_wp2_with fail
  refine (szIntSS _ _ _ _ r1 _ (SlA.on (RowA.keeps IntC.keeps) (RowA.widens IntC.widens) G2.out hb1) p0 (by omega)).mono ?_
  rintro e w2 ⟨r2, rfl, hr, hb2⟩
  rcases hr with rfl | ⟨p2, p3, s2⟩
  · go_wp2_with fail
    go_ret
    exact ⟨-1, rfl, .inl rfl, bgo (bgo hb0 hb1) hb2⟩
  have S2 := Lib.hid s2
  clear s2
  go_wp2_with fail
  go_ret
  exact ⟨r2, rfl, .inr ⟨p2, by omega, S1.out, S2.out⟩, bgo (bgo hb0 hb1) hb2⟩
set_option maxHeartbeats 4000000 in
theorem toStore (us : List Value) (s : Sto) (w : World) (h : StoA w w.heap.size us s) (hs : SmSto s) :
    Calls Try.prog 23 #[.agg us.toArray] w fun e w' => ∃ v, e = .returned v ∧ OwnSto w' w.heap.size v s ∧ Below w.heap.size w w' := by
  obtain ⟨u, v, la, lc, rfl, g1, g2⟩ := h
  obtain ⟨wa, hwa⟩ : ∃ wa, wa = ((w.alloc (.cells #[u, v, .slice la s.levels.length lc] 47)).alloc (.cells #[.slice none 0 0, .slice none 0 0, .slice none 0 0] 50)).alloc (.cells #[.slice none 0 0, .slice none 0 0, .slice none 0 0] 50) := ⟨_, rfl⟩
  have hb0 : Below w.heap.size w wa := by rw [hwa]; exact b_alloc3 _ _ _ _
  have hsz : wa.heap.size = w.heap.size + 1 + 1 + 1 := by rw [hwa, size_alloc_, size_alloc_, size_alloc_]
  have ha : TBlk 47 wa w.heap.size #[u, v, .slice la s.levels.length lc] := by
    rw [hwa]; exact (TBlk.new _ _ _).below_ (b_alloc2 (w.alloc _) _ _) (by rw [size_alloc_]; omega)
  have hr : TBlk 50 wa (w.heap.size + 1) #[.slice none 0 0, .slice none 0 0, .slice none 0 0] := by
    rw [hwa]
    have := TBlk.new (w.alloc (.cells #[u, v, .slice la s.levels.length lc] 47)) #[.slice none 0 0, .slice none 0 0, .slice none 0 0] 50
    rw [size_alloc_] at this
    exact this.below_ (b_alloc _ _) (by rw [size_alloc_, size_alloc_]; omega)
  have ho : TBlk 50 wa (w.heap.size + 1 + 1) #[.slice none 0 0, .slice none 0 0, .slice none 0 0] := by
    rw [hwa]
    have := TBlk.new ((w.alloc (.cells #[u, v, .slice la s.levels.length lc] 47)).alloc (.cells #[.slice none 0 0, .slice none 0 0, .slice none 0 0] 50)) #[.slice none 0 0, .slice none 0 0, .slice none 0 0] 50
    rw [size_alloc_, size_alloc_] at this
    exact this
  have G1 := Lib.hid g1
  have G2 := Lib.hid g2
  have S1 := Lib.hid hs.1
  have S2 := Lib.hid hs.2
  have HA := Lib.hid ha
  have HR := Lib.hid hr
  have HO := Lib.hid ho
  have a0 : wa.cell? ⟨w.heap.size, 0, none⟩ = some u := ha.at_ 0 rfl
  have a1 : wa.cell? ⟨w.heap.size, 1, none⟩ = some v := ha.at_ 1 rfl
  clear g1 g2 hs ha hr ho
  go_enter Try.func23, Try.ntmps23
  go_wp2_with fail
  rw [← hwa]
  clear hwa
  refine (toModel _ s.model wa (ModA.on G1.out hb0) S1.out).mono ?_
  rintro e w1 ⟨v1, rfl, o1, hb1⟩
  have z0 := hb0.size
  have z1 := hb1.size
  have ha1 := HA.out.below_ hb1 (by omega)
  have ho1 := HO.out.below_ hb1 (by omega)
  have c10 : w1.cell? ⟨w.heap.size + 1 + 1, 0, none⟩ = some (.slice none 0 0) := ho1.at_ 0 rfl
  have c11 : w1.cell? ⟨w.heap.size + 1 + 1, 1, none⟩ = some (.slice none 0 0) := ho1.at_ 1 rfl
  have f10 := ho1.frozen 0
  have f11 := ho1.frozen 1
  have c12 : w1.cell? ⟨w.heap.size, 2, none⟩ = some (.slice la s.levels.length lc) := ha1.at_ 2 rfl
  obtain ⟨V0, V1, d0, d1, e0, e1, rfl⟩ : ∃ V0 V1 d0 d1 e0 e1, v1 = .agg #[.slice V0 d0 e0, .slice V1 d1 e1] := by
    obtain ⟨us, rfl, hm⟩ := o1.read
    obtain ⟨V0, V1, d0, d1, e0, e1, rfl⟩ := hm.two
    exact ⟨_, _, _, _, _, _, rfl⟩
  have ho2 := (ho1.store 0 (.slice V0 d0 e0)).store 1 (.slice V1 d1 e1)
  have hr1 := HR.out.below_ hb1 (by omega)
  have hr2 : TBlk 50 ((w1.setCell ⟨w.heap.size + 1 + 1, 0, none⟩ (.slice V0 d0 e0)).setCell ⟨w.heap.size + 1 + 1, 1, none⟩ (.slice V1 d1 e1)) (w.heap.size + 1) #[.slice none 0 0, .slice none 0 0, .slice none 0 0] := (hr1.far (by omega)).far (by omega)
  have o1' := (o1.set (t := 50) (j := 0) (u := .slice V0 d0 e0) (by decide) (by decide) (by decide) ho1).set (t := 50) (j := 1) (u := .slice V1 d1 e1) (by decide) (by decide) (by decide) (ho1.store 0 (.slice V0 d0 e0))
  have hb2 : Below w.heap.size w ((w1.setCell ⟨w.heap.size + 1 + 1, 0, none⟩ (.slice V0 d0 e0)).setCell ⟨w.heap.size + 1 + 1, 1, none⟩ (.slice V1 d1 e1)) := ((bgo hb0 hb1).setCell (by simp; omega) _).setCell (by simp; omega) _
  clear ha1 ho1 o1 a0 a1 hr1
  go_wp2_with fail
  obtain ⟨wb, hwb⟩ : ∃ wb, wb = (w1.setCell ⟨w.heap.size + 1 + 1, 0, none⟩ (.slice V0 d0 e0)).setCell ⟨w.heap.size + 1 + 1, 1, none⟩ (.slice V1 d1 e1) := ⟨_, rfl⟩
  rw [← hwb] at ho2 hr2 o1' hb2 ⊢
  have hzb : wb.heap.size = w1.heap.size := by rw [hwb]; simp
  clear hwb c10 f10 c11 f11 c12
  have HO2 := Lib.hid ho2
  have HR2 := Lib.hid hr2
  have O1 := Lib.hid o1'
  clear ho2 hr2 o1'
  refine (toIntSS _ _ _ _ _ (SlA.on (RowA.keeps IntC.keeps) (RowA.widens IntC.widens) G2.out hb2) S2.out.1 S2.out.2).mono ?_
  rintro e w2 ⟨v2, rfl, o2, hb3⟩
  have z3 := hb3.size
  have ho3 := HO2.out.below_ hb3 (by omega)
  have hr3 := HR2.out.below_ hb3 (by omega)
  have o1b := O1.out.below hb3
  have hown : OwnSto w2 w.heap.size (.agg #[.slice V0 d0 e0, .slice V1 d1 e1, v2]) s := ⟨_, _, _, rfl, o1b.base_ (by omega), (OwnOf.stays (OwnI.stays 3)).base _ _ _ _ _ (by omega) o2⟩
  obtain ⟨V2, d2, e2, -⟩ := read2 o2
  subst e2
  have c20 : w2.cell? ⟨w.heap.size + 1 + 1, 0, none⟩ = some (.slice V0 d0 e0) := ho3.at_ 0 rfl
  have c21 : w2.cell? ⟨w.heap.size + 1 + 1, 1, none⟩ = some (.slice V1 d1 e1) := ho3.at_ 1 rfl
  have c22 : w2.cell? ⟨w.heap.size + 1 + 1, 2, none⟩ = some (.slice none 0 0) := ho3.at_ 2 rfl
  have f22 := ho3.frozen 2
  have r20 : w2.cell? ⟨w.heap.size + 1, 0, none⟩ = some (.slice none 0 0) := hr3.at_ 0 rfl
  have r21 : w2.cell? ⟨w.heap.size + 1, 1, none⟩ = some (.slice none 0 0) := hr3.at_ 1 rfl
  have r22 : w2.cell? ⟨w.heap.size + 1, 2, none⟩ = some (.slice none 0 0) := hr3.at_ 2 rfl
  have g20 := hr3.frozen 0
  have g21 := hr3.frozen 1
  have g22 := hr3.frozen 2
  have hr4 : TBlk 50 (w2.setCell ⟨w.heap.size + 1 + 1, 2, none⟩ (.slice V2 s.levels.length d2)) (w.heap.size + 1) #[.slice none 0 0, .slice none 0 0, .slice none 0 0] := hr3.far (by omega)
  have q1 := hown.set (j := 2) (u := .slice V2 s.levels.length d2) (by decide) (by decide) (by decide) ho3
  have q2 := q1.set (j := 0) (u := .slice V0 d0 e0) (by decide) (by decide) (by decide) hr4
  have hr5 := hr4.store 0 (.slice V0 d0 e0)
  have q3 := q2.set (j := 1) (u := .slice V1 d1 e1) (by decide) (by decide) (by decide) hr5
  have hr6 := hr5.store 1 (.slice V1 d1 e1)
  have q4 := q3.set (j := 2) (u := .slice V2 s.levels.length d2) (by decide) (by decide) (by decide) hr6
  have hr7 := hr6.store 2 (.slice V2 s.levels.length d2)
  have he6 : Below w.heap.size w ((((w2.setCell ⟨w.heap.size + 1 + 1, 2, none⟩ (.slice V2 s.levels.length d2)).setCell ⟨w.heap.size + 1, 0, none⟩ (.slice V0 d0 e0)).setCell ⟨w.heap.size + 1, 1, none⟩ (.slice V1 d1 e1)).setCell ⟨w.heap.size + 1, 2, none⟩ (.slice V2 s.levels.length d2)) :=
    ((((bgo hb2 hb3).setCell (by simp; omega) _).setCell (by simp) _).setCell (by simp) _).setCell (by simp) _
  have T := Lib.hid hr7
  have HOWN := Lib.hid q4
  have HE := Lib.hid he6
  clear q1 q2 q3 q4 he6 hr4 hr5 hr6 hr7 ho3 hr3 o1b o2 hown
  go_wp2_with fail
  generalize (((w2.setCell ⟨w.heap.size + 1 + 1, 2, none⟩ (.slice V2 s.levels.length d2)).setCell ⟨w.heap.size + 1, 0, none⟩ (.slice V0 d0 e0)).setCell ⟨w.heap.size + 1, 1, none⟩ (.slice V1 d1 e1)).setCell ⟨w.heap.size + 1, 2, none⟩ (.slice V2 s.levels.length d2) = wf at T HOWN HE ⊢
  have t0 : wf.cell? ⟨w.heap.size + 1, 0, none⟩ = some (.slice V0 d0 e0) := T.out.at_ 0 rfl
  have t1 : wf.cell? ⟨w.heap.size + 1, 1, none⟩ = some (.slice V1 d1 e1) := T.out.at_ 1 rfl
  have t2 : wf.cell? ⟨w.heap.size + 1, 2, none⟩ = some (.slice V2 s.levels.length d2) := T.out.at_ 2 rfl
  exact bodyPost_ret (v := .agg #[.slice V0 d0 e0, .slice V1 d1 e1, .slice V2 s.levels.length d2]) (by simp [results, Try.results23, go_sem, t0, t1, t2]) rfl ⟨_, rfl, HOWN.out, HE.out⟩
set_option maxHeartbeats 4000000 in
theorem eqStore (us vs : List Value) (c d : Sto) (w : World) (h : StoR w w.heap.size us c) (k : StoR w w.heap.size vs d) :
    Calls Try.prog 25 #[.agg us.toArray, .agg vs.toArray] w fun e w' => e = .returned (.bool (decide (c = d))) ∧ Below w.heap.size w w' := by
  obtain ⟨ua, va, ca, cc, rfl, g1, g2, -⟩ := h
  obtain ⟨ub, vb, cb, dc, rfl, k1, k2, -⟩ := k
  obtain ⟨wa, hwa⟩ : ∃ wa, wa = (w.alloc (.cells #[ua, va, .slice ca c.levels.length cc] 50)).alloc (.cells #[ub, vb, .slice cb d.levels.length dc] 50) := ⟨_, rfl⟩
  have hb0 : Below w.heap.size w wa := by rw [hwa]; exact b_alloc2 _ _ _
  have hsz : wa.heap.size = w.heap.size + 1 + 1 := by rw [hwa, size_alloc_, size_alloc_]
  have ha : TBlk 50 wa w.heap.size #[ua, va, .slice ca c.levels.length cc] := by
    rw [hwa]; exact (TBlk.new _ _ _).below_ (b_alloc _ _) (by rw [size_alloc_]; omega)
  have hd : TBlk 50 wa (w.heap.size + 1) #[ub, vb, .slice cb d.levels.length dc] := by
    rw [hwa]
    have := TBlk.new (w.alloc (.cells #[ua, va, .slice ca c.levels.length cc] 50)) #[ub, vb, .slice cb d.levels.length dc] 50
    rw [size_alloc_] at this
    exact this
  have HA := Lib.hid ha
  have HD := Lib.hid hd
  have G1 := Lib.hid g1
  have G2 := Lib.hid g2
  have K1 := Lib.hid k1
  have K2 := Lib.hid k2
  have a0 : wa.cell? ⟨w.heap.size, 0, none⟩ = some ua := ha.at_ 0 rfl
  have a1 : wa.cell? ⟨w.heap.size, 1, none⟩ = some va := ha.at_ 1 rfl
  have b0 : wa.cell? ⟨w.heap.size + 1, 0, none⟩ = some ub := hd.at_ 0 rfl
  have b1 : wa.cell? ⟨w.heap.size + 1, 1, none⟩ = some vb := hd.at_ 1 rfl
  clear ha hd g1 g2 k1 k2
  go_enter Try.func25, Try.ntmps25
  go_wp2_with fail
  rw [← hwa]
  clear hwa
  refine (eqModel _ _ c.model d.model _ (ModR.on G1.out hb0) (ModR.on K1.out hb0)).mono ?_
  rintro e w1 ⟨rfl, hb1⟩
  have z1 := hb1.size
  have a2 : w1.cell? ⟨w.heap.size, 2, none⟩ = some (.slice ca c.levels.length cc) := (HA.out.below_ hb1 (by omega)).at_ 2 rfl
  have b2 : w1.cell? ⟨w.heap.size + 1, 2, none⟩ = some (.slice cb d.levels.length dc) := (HD.out.below_ hb1 (by omega)).at_ 2 rfl
  have hc1 := bgo hb0 hb1
  clear a0 b0 a1 b1
  cases e1 : decide (c.model = d.model)
  · have HE := Lib.hid (show decide (c = d) = false from decide_eq_false (fun h => of_decide_eq_false e1 (by rw [h])))
    have E1 := Lib.hid e1
    clear e1
    go_wp2_with fail
    go_ret
    exact ⟨ret_bool HE.out.symm, hc1⟩
  have E1 := Lib.hid e1
  clear e1
  go_wp2_with fail
  refine (eqIntSS _ _ _ _ _ _ c.levels d.levels _ (SlR.on (RowC.keeps IntC.keeps) (RowC.widens IntC.widens) G2.out hc1) (SlR.on (RowC.keeps IntC.keeps) (RowC.widens IntC.widens) K2.out hc1)).mono ?_
  rintro e w2 ⟨rfl, hb2⟩
  have hc2 := bgo hc1 hb2
  cases e2 : decide (c.levels = d.levels)
  · have HE := Lib.hid (show decide (c = d) = false from decide_eq_false (fun h => of_decide_eq_false e2 (by rw [h])))
    have E2 := Lib.hid e2
    clear e2
    go_wp2_with fail
    go_ret
    exact ⟨ret_bool HE.out.symm, hc2⟩
  have HE := Lib.hid (show decide (c = d) = true from decide_eq_true (by
    rcases c with ⟨x, y⟩
    rcases d with ⟨x', y'⟩
    have h1 := of_decide_eq_true E1.out
    have h2 := of_decide_eq_true e2
    simp only at h1 h2
    subst h1 h2
    rfl))
  have E2 := Lib.hid e2
  clear e2
  go_wp2_with fail
  go_ret
  exact ⟨ret_bool HE.out.symm, hc2⟩
end Go.Proofs.Ytcghhnajjmnkkaa
