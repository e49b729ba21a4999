/- The laws' copies, sizes and comparisons of constraints. -/
import Derived.Test.YtfoodlhfmcfjeaaDoorConP
namespace Go.Proofs.YtfoodlhfmcfjeaaDoor
open Go.ChangeShapes Go.WideShapes Go.ChangeAt Go.RowKit
open Go.Shelf
set_option linter.unusedVariables false
set_option maxRecDepth 100000

/-- A constraint in a block of its own. -/
def CBlk (w : World) (b : Nat) (x0 x1 x2 x3 x4 : Value) : Prop := w.heap[b]? = some (.cells #[x0, x1, x2, x3, x4] 50 (0, 0))
section
variable {w w' : World} {b B : Nat} {x0 x1 x2 x3 x4 : Value}
theorem CBlk.cells (h : CBlk w b x0 x1 x2 x3 x4) : w.cell? ⟨b, 0, none⟩ = some x0 ∧ w.cell? ⟨b, 1, none⟩ = some x1 ∧ w.cell? ⟨b, 2, none⟩ = some x2 ∧ w.cell? ⟨b, 3, none⟩ = some x3 ∧ w.cell? ⟨b, 4, none⟩ = some x4 := by
  refine ⟨?_, ?_, ?_, ?_, ?_⟩ <;> rw [cell_of_row w b _ _ _ _ h] <;> rfl
theorem CBlk.frozen (h : CBlk w b x0 x1 x2 x3 x4) (j : Nat) : w.frozen? ⟨b, j, none⟩ = false := frozen_of_row w b j _ _ h
theorem CBlk.below (h : CBlk w b x0 x1 x2 x3 x4) (hb : Below B w w') (hB : b < B) : CBlk w' b x0 x1 x2 x3 x4 := (hb.block b hB).trans h
theorem CBlk.lt (h : CBlk w b x0 x1 x2 x3 x4) : b < w.heap.size := (Array.getElem?_eq_some_iff.1 h).1
theorem CBlk.set0 (h : CBlk w b x0 x1 x2 x3 x4) (u : Value) : CBlk (w.setCell ⟨b, 0, none⟩ u) b u x1 x2 x3 x4 := by unfold CBlk at h ⊢; simp [World.setCell, Array.getElem?_modify, h]
theorem CBlk.set1 (h : CBlk w b x0 x1 x2 x3 x4) (u : Value) : CBlk (w.setCell ⟨b, 1, none⟩ u) b x0 u x2 x3 x4 := by unfold CBlk at h ⊢; simp [World.setCell, Array.getElem?_modify, h]
theorem CBlk.set2 (h : CBlk w b x0 x1 x2 x3 x4) (u : Value) : CBlk (w.setCell ⟨b, 2, none⟩ u) b x0 x1 u x3 x4 := by unfold CBlk at h ⊢; simp [World.setCell, Array.getElem?_modify, h]
theorem CBlk.set3 (h : CBlk w b x0 x1 x2 x3 x4) (u : Value) : CBlk (w.setCell ⟨b, 3, none⟩ u) b x0 x1 x2 u x4 := by unfold CBlk at h ⊢; simp [World.setCell, Array.getElem?_modify, h]
theorem CBlk.set4 (h : CBlk w b x0 x1 x2 x3 x4) (u : Value) : CBlk (w.setCell ⟨b, 4, none⟩ u) b x0 x1 x2 x3 u := by unfold CBlk at h ⊢; simp [World.setCell, Array.getElem?_modify, h]
theorem CBlk.far {g j : Nat} {u : Value} (h : CBlk w b x0 x1 x2 x3 x4) (hg : b ≠ g) : CBlk (w.setCell ⟨g, j, none⟩ u) b x0 x1 x2 x3 x4 := (Below.heap_setCell w ⟨g, j, none⟩ u b hg).trans h
end
theorem OwnCon.set {w : World} {b j base : Nat} {x0 x1 x2 x3 x4 u v : Value} {c : Con} (h : OwnCon w base v c) (hb : CBlk w b x0 x1 x2 x3 x4) : OwnCon (w.setCell ⟨b, j, none⟩ u) base v c := by
  obtain ⟨vv, av, rv, e, h1, h2, h3⟩ := h
  exact ⟨vv, av, rv, e, OwnI.shuns (t := 50) (by decide) _ _ _ _ _ j _ _ _ hb h1, OwnI.shuns (t := 50) (by decide) _ _ _ _ _ j _ _ _ hb h2, OwnOf.shuns (t := 50) (by decide) (OwnI.shuns (by decide)) _ _ _ _ _ j _ _ _ hb h3⟩
theorem OwnCon.below {w w' : World} {base : Nat} {v : Value} {c : Con} (h : OwnCon w base v c) (hb : Below w.heap.size w w') : OwnCon w' base v c := by
  obtain ⟨vv, av, rv, e, h1, h2, h3⟩ := h
  exact ⟨vv, av, rv, e, (OwnI.stays 3).below _ _ _ _ _ hb h1, (OwnI.stays 3).below _ _ _ _ _ hb h2, (OwnOf.stays (OwnI.stays 3)).below _ _ _ _ _ hb h3⟩
theorem OwnCon.base_ {w : World} {base b' : Nat} {v : Value} {c : Con} (h : OwnCon w base v c) (hb : b' ≤ base) : OwnCon w b' v c := by
  obtain ⟨vv, av, rv, e, h1, h2, h3⟩ := h
  exact ⟨vv, av, rv, e, (OwnI.stays 3).base _ _ _ _ _ hb h1, (OwnI.stays 3).base _ _ _ _ _ hb h2, (OwnOf.stays (OwnI.stays 3)).base _ _ _ _ _ hb h3⟩
theorem CBlk.new (w : World) (x0 x1 x2 x3 x4 : Value) : CBlk (w.alloc (.cells #[x0, x1, x2, x3, x4] 50)) w.heap.size x0 x1 x2 x3 x4 := heap_alloc_new w _
/-- A block of a law's own constraint. -/
def ABlk (w : World) (b : Nat) (cs : Array Value) : Prop := w.heap[b]? = some (.cells cs 55 (0, 0))
theorem ABlk.below_ {w w' : World} {b B : Nat} {cs : Array Value} (h : ABlk w b cs) (hb : Below B w w') (hB : b < B) : ABlk w' b cs := (hb.block b hB).trans h
theorem ABlk.at_ {w : World} {b : Nat} {cs : Array Value} (h : ABlk w b cs) (j : Nat) {u : Value} (hu : cs[j]? = some u) : w.cell? ⟨b, j, none⟩ = some u := by rw [cell_of_row w b _ _ _ _ h]; exact hu
theorem ABlk.set {w : World} {b g j : Nat} {cs : Array Value} {u : Value} (h : ABlk w b cs) (hg : b ≠ g) : ABlk (w.setCell ⟨g, j, none⟩ u) b cs := (Below.heap_setCell w ⟨g, j, none⟩ u b hg).trans h
set_option maxHeartbeats 4000000 in
theorem szConstraint (us : List Value) (c : Con) (left : Int) (w : World) (h : ConA w w.heap.size us c) (h0 : 0 ≤ left) (h1 : left ≤ 1048576) :
    Calls Tryd.prog 22 #[.agg us.toArray, .int .i64 left] w fun e w' => ∃ r : Int, e = .returned (.int .i64 r) ∧ (r = -1 ∨ 0 ≤ r ∧ r ≤ left ∧ SmCon c) ∧ Below w.heap.size w w' := by
  obtain ⟨va, aa, ra, cv, ca, cr, rfl, g1, g2, g3⟩ := h
  have hb0 := b_alloc w (.cells #[.int .i64 c.kind, .slice va c.vars.length cv, .slice aa c.args.length ca, .int .i64 c.bound, .slice ra c.rows.length cr] 55)
  have hs0 : w.heap.size < (w.alloc (.cells #[.int .i64 c.kind, .slice va c.vars.length cv, .slice aa c.args.length ca, .int .i64 c.bound, .slice ra c.rows.length cr] 55)).heap.size := by rw [size_alloc_]; omega
  have k2 : (w.alloc (.cells #[.int .i64 c.kind, .slice va c.vars.length cv, .slice aa c.args.length ca, .int .i64 c.bound, .slice ra c.rows.length cr] 55)).cell? ⟨w.heap.size, 2, none⟩ = some (.slice aa c.args.length ca) := by rw [World.cell?_alloc_at _ _ _ _ rfl]; rfl
  have k4 : (w.alloc (.cells #[.int .i64 c.kind, .slice va c.vars.length cv, .slice aa c.args.length ca, .int .i64 c.bound, .slice ra c.rows.length cr] 55)).cell? ⟨w.heap.size, 4, none⟩ = some (.slice ra c.rows.length cr) := by rw [World.cell?_alloc_at _ _ _ _ rfl]; rfl
  have G1 := Lib.hid (IntA.on g1 hb0)
  have G2 := Lib.hid (IntA.on g2 hb0)
  have G3 := Lib.hid (SlA.on (RowA.keeps IntC.keeps) (RowA.widens IntC.widens) g3 hb0)
  clear g1 g2 g3
  go_enter Tryd.func22, Tryd.ntmps22
  go_wp2_with fail
  refine (szIntS va _ cv c.vars left _ G1.out h0 h1).mono ?_
  rintro e w1 ⟨r1, rfl, hr, hb1⟩
  rcases hr with rfl | ⟨p0, p1, s1⟩
  · go_wp2_with fail
    go_ret
    exact ⟨-1, rfl, .inl rfl, bgo hb0 hb1⟩
  have m2 := (hb1.cell (p := ⟨w.heap.size, 2, none⟩) hs0).trans k2
  have m4 := (hb1.cell (p := ⟨w.heap.size, 4, none⟩) hs0).trans k4
  have hs1 := Nat.lt_of_lt_of_le hs0 hb1.size
  have S1 := Lib.hid s1
  clear k2 k4 s1 hs0
  go_wp2_with fail
  refine (szIntS aa _ ca c.args r1 _ (IntA.on G2.out hb1) p0 (by omega)).mono ?_
  rintro e w2 ⟨r2, rfl, hr, hb2⟩
  rcases hr with rfl | ⟨p2, p3, s2⟩
  · go_wp2_with fail
    go_ret
    exact ⟨-1, rfl, .inl rfl, bgo (bgo hb0 hb1) hb2⟩
  have q4 := (hb2.cell (p := ⟨w.heap.size, 4, none⟩) hs1).trans m4
  have S2 := Lib.hid s2
  clear m2 m4 s2
  go_wp2_with fail
  refine (szIntSS ra _ cr c.rows r2 _ (SlA.on (RowA.keeps IntC.keeps) (RowA.widens IntC.widens) G3.out (bgo hb1 hb2)) p2 (by omega)).mono ?_
  rintro e w3 ⟨r3, rfl, hr, hb3⟩
  rcases hr with rfl | ⟨p4, p5, s3⟩
  · go_wp2_with fail
    go_ret
    exact ⟨-1, rfl, .inl rfl, bgo (bgo (bgo hb0 hb1) hb2) hb3⟩
  have S3 := Lib.hid s3
  clear s3
  go_wp2_with fail
  go_ret
  exact ⟨r3, rfl, .inr ⟨p4, by omega, S1.out, S2.out, S3.out⟩, bgo (bgo (bgo hb0 hb1) hb2) hb3⟩
set_option maxHeartbeats 4000000 in
theorem toConstraint (us : List Value) (c : Con) (w : World) (h : ConA w w.heap.size us c) (hs : SmCon c) :
    Calls Tryd.prog 28 #[.agg us.toArray] w fun e w' => ∃ v, e = .returned v ∧ OwnCon w' w.heap.size v c ∧ Below w.heap.size w w' := by
  obtain ⟨va, aa, ra, cv, ca, cr, rfl, g1, g2, g3⟩ := h
  obtain ⟨wa, hwa⟩ : ∃ wa, wa = ((w.alloc (.cells #[.int .i64 c.kind, .slice va c.vars.length cv, .slice aa c.args.length ca, .int .i64 c.bound, .slice ra c.rows.length cr] 55)).alloc (.cells #[.int .i64 0, .slice none 0 0, .slice none 0 0, .int .i64 0, .slice none 0 0] 50)).alloc (.cells #[.int .i64 c.kind, .slice none 0 0, .slice none 0 0, .int .i64 0, .slice none 0 0] 50) := ⟨_, rfl⟩
  have hb0 : Below w.heap.size w wa := by rw [hwa]; exact b_alloc3 _ _ _ _
  have hsz : wa.heap.size = w.heap.size + 1 + 1 + 1 := by rw [hwa, size_alloc_, size_alloc_, size_alloc_]
  have ha : ABlk wa w.heap.size #[.int .i64 c.kind, .slice va c.vars.length cv, .slice aa c.args.length ca, .int .i64 c.bound, .slice ra c.rows.length cr] := by
    rw [hwa]
    exact ((b_alloc2 (w.alloc _) _ _).block w.heap.size (by rw [size_alloc_]; omega)).trans (heap_alloc_new w _)
  have ho : CBlk wa (w.heap.size + 1 + 1) (.int .i64 c.kind) (.slice none 0 0) (.slice none 0 0) (.int .i64 0) (.slice none 0 0) := by
    rw [hwa]
    have := CBlk.new ((w.alloc (.cells #[.int .i64 c.kind, .slice va c.vars.length cv, .slice aa c.args.length ca, .int .i64 c.bound, .slice ra c.rows.length cr] 55)).alloc (.cells #[.int .i64 0, .slice none 0 0, .slice none 0 0, .int .i64 0, .slice none 0 0] 50)) (.int .i64 c.kind) (.slice none 0 0) (.slice none 0 0) (.int .i64 0) (.slice none 0 0)
    rw [size_alloc_, size_alloc_] at this
    exact this
  have hr0 : CBlk wa (w.heap.size + 1) (.int .i64 0) (.slice none 0 0) (.slice none 0 0) (.int .i64 0) (.slice none 0 0) := by
    rw [hwa]
    have := CBlk.new (w.alloc (.cells #[.int .i64 c.kind, .slice va c.vars.length cv, .slice aa c.args.length ca, .int .i64 c.bound, .slice ra c.rows.length cr] 55)) (.int .i64 0) (.slice none 0 0) (.slice none 0 0) (.int .i64 0) (.slice none 0 0)
    rw [size_alloc_] at this
    exact this.below (b_alloc _ _) (by rw [size_alloc_, size_alloc_]; omega)
  have HR := Lib.hid hr0
  clear hr0
  have G1 := Lib.hid g1
  have G2 := Lib.hid g2
  have G3 := Lib.hid g3
  obtain ⟨s1, s2, s3⟩ := hs
  have S1 := Lib.hid s1
  have S2 := Lib.hid s2
  have S3 := Lib.hid s3
  have HA := Lib.hid ha
  have HO := Lib.hid ho
  clear g1 g2 g3 s1 s2 s3 ha ho
  go_enter Tryd.func28, Tryd.ntmps28
  go_wp2_with fail
  rw [← hwa]
  clear hwa
  refine (toIntS_own va _ cv c.vars wa (IntA.on G1.out hb0) S1.out).mono ?_
  rintro e w1 ⟨v1, rfl, o1, hb1⟩
  have z0 := hb0.size
  have z1 := hb1.size
  have ha1 := HA.out.below_ hb1 (by omega)
  have ho1 := HO.out.below hb1 (by omega)
  obtain ⟨-, a12, -, -, -⟩ := ho1.cells
  have f1 := ho1.frozen 1
  have ac2 := ha1.at_ 2 rfl
  obtain ⟨V1, d1, e1, -⟩ := o1.read
  have hc1 : CBlk (w1.setCell ⟨w.heap.size + 1 + 1, 1, none⟩ v1) (w.heap.size + 1 + 1) (.int .i64 c.kind) v1 (.slice none 0 0) (.int .i64 0) (.slice none 0 0) := ho1.set1 v1
  have hd1 : OwnI 3 (w1.setCell ⟨w.heap.size + 1 + 1, 1, none⟩ v1) wa.heap.size v1 c.vars := OwnI.shuns (t := 50) (by decide) _ _ _ _ _ 1 _ _ v1 ho1 o1
  have he1 : Below w.heap.size w (w1.setCell ⟨w.heap.size + 1 + 1, 1, none⟩ v1) := (bgo hb0 hb1).setCell (by simp; omega) _
  have hg1 : ABlk (w1.setCell ⟨w.heap.size + 1 + 1, 1, none⟩ v1) w.heap.size #[.int .i64 c.kind, .slice va c.vars.length cv, .slice aa c.args.length ca, .int .i64 c.bound, .slice ra c.rows.length cr] := ha1.set (by omega)
  have hz1 : (w1.setCell ⟨w.heap.size + 1 + 1, 1, none⟩ v1).heap.size = w1.heap.size := by simp
  have hr1 : CBlk (w1.setCell ⟨w.heap.size + 1 + 1, 1, none⟩ v1) (w.heap.size + 1) (.int .i64 0) (.slice none 0 0) (.slice none 0 0) (.int .i64 0) (.slice none 0 0) := (HR.out.below hb1 (by omega)).far (by omega)
  subst e1
  clear ho1 o1
  go_wp2_with fail
  obtain ⟨wb, hwb⟩ : ∃ wb, wb = w1.setCell ⟨w.heap.size + 1 + 1, 1, none⟩ (.slice V1 c.vars.length d1) := ⟨_, rfl⟩
  rw [← hwb] at hc1 hd1 he1 hg1 hz1 hr1 ⊢
  clear hwb ha1 hb1 a12 f1 ac2
  have HR1 := Lib.hid hr1
  clear hr1
  have HC1 := Lib.hid hc1
  have HG1 := Lib.hid hg1
  have HD1 := Lib.hid hd1
  clear hc1 hg1 hd1 HA HO
  refine (toIntS_own aa _ ca c.args wb (IntA.on G2.out he1) S2.out).mono ?_
  rintro e w2 ⟨v2, rfl, o2, hb2⟩
  have z2 := hb2.size
  have ha2 := HG1.out.below_ hb2 (by omega)
  have ho2 := HC1.out.below hb2 (by omega)
  obtain ⟨-, -, a22, a23, -⟩ := ho2.cells
  have f2 := ho2.frozen 2
  have f3 := ho2.frozen 3
  have ac3 := ha2.at_ 3 rfl
  have ac4 := ha2.at_ 4 rfl
  obtain ⟨V2, d2, e2, -⟩ := o2.read
  have hc2 : CBlk ((w2.setCell ⟨w.heap.size + 1 + 1, 2, none⟩ v2).setCell ⟨w.heap.size + 1 + 1, 3, none⟩ (.int .i64 c.bound)) (w.heap.size + 1 + 1) (.int .i64 c.kind) (.slice V1 c.vars.length d1) v2 (.int .i64 c.bound) (.slice none 0 0) := (ho2.set2 v2).set3 _
  have hd1 : OwnI 3 ((w2.setCell ⟨w.heap.size + 1 + 1, 2, none⟩ v2).setCell ⟨w.heap.size + 1 + 1, 3, none⟩ (.int .i64 c.bound)) wa.heap.size (.slice V1 c.vars.length d1) c.vars := OwnI.shuns (t := 50) (by decide) _ _ _ _ _ 3 _ _ _ (ho2.set2 v2) (OwnI.shuns (t := 50) (by decide) _ _ _ _ _ 2 _ _ _ ho2 ((OwnI.stays 3).below _ _ _ _ _ hb2 HD1.out))
  have hd2 : OwnI 3 ((w2.setCell ⟨w.heap.size + 1 + 1, 2, none⟩ v2).setCell ⟨w.heap.size + 1 + 1, 3, none⟩ (.int .i64 c.bound)) wb.heap.size v2 c.args := OwnI.shuns (t := 50) (by decide) _ _ _ _ _ 3 _ _ _ (ho2.set2 v2) (OwnI.shuns (t := 50) (by decide) _ _ _ _ _ 2 _ _ _ ho2 o2)
  have he2 : Below w.heap.size w ((w2.setCell ⟨w.heap.size + 1 + 1, 2, none⟩ v2).setCell ⟨w.heap.size + 1 + 1, 3, none⟩ (.int .i64 c.bound)) := ((bgo he1 hb2).setCell (by simp; omega) _).setCell (by simp; omega) _
  have hg2 : ABlk ((w2.setCell ⟨w.heap.size + 1 + 1, 2, none⟩ v2).setCell ⟨w.heap.size + 1 + 1, 3, none⟩ (.int .i64 c.bound)) w.heap.size #[.int .i64 c.kind, .slice va c.vars.length cv, .slice aa c.args.length ca, .int .i64 c.bound, .slice ra c.rows.length cr] := (ha2.set (by omega)).set (by omega)
  have hz2 : ((w2.setCell ⟨w.heap.size + 1 + 1, 2, none⟩ v2).setCell ⟨w.heap.size + 1 + 1, 3, none⟩ (.int .i64 c.bound)).heap.size = w2.heap.size := by simp
  have hr2 : CBlk ((w2.setCell ⟨w.heap.size + 1 + 1, 2, none⟩ v2).setCell ⟨w.heap.size + 1 + 1, 3, none⟩ (.int .i64 c.bound)) (w.heap.size + 1) (.int .i64 0) (.slice none 0 0) (.slice none 0 0) (.int .i64 0) (.slice none 0 0) := ((HR1.out.below hb2 (by omega)).far (by omega)).far (by omega)
  subst e2
  clear ho2 o2
  go_wp2_with fail
  obtain ⟨wc, hwc⟩ : ∃ wc, wc = ((w2.setCell ⟨w.heap.size + 1 + 1, 2, none⟩ (.slice V2 c.args.length d2)).setCell ⟨w.heap.size + 1 + 1, 3, none⟩ (.int .i64 c.bound)) := ⟨_, rfl⟩
  rw [← hwc] at hc2 hd1 hd2 he2 hg2 hz2 hr2 ⊢
  clear hwc ha2 hb2 a22 a23 f2 f3 ac3 ac4
  have HR2 := Lib.hid hr2
  clear hr2
  have HC2 := Lib.hid hc2
  have HD1' := Lib.hid hd1
  have HD2 := Lib.hid hd2
  clear hc2 hd1 hd2 hg2 HC1 HG1 HD1
  refine (toIntSS ra _ cr c.rows wc (SlA.on (RowA.keeps IntC.keeps) (RowA.widens IntC.widens) G3.out he2) S3.out.1 S3.out.2).mono ?_
  rintro e w3 ⟨v3, rfl, o3, hb3⟩
  have z3 := hb3.size
  have ho3 := HC2.out.below hb3 (by omega)
  obtain ⟨a30, a31, a32, a33, a34⟩ := ho3.cells
  have f4 := ho3.frozen 4
  have hr3 := HR2.out.below hb3 (by omega)
  obtain ⟨r30, r31, r32, r33, r34⟩ := hr3.cells
  have fr := hr3.frozen
  have fr0 := fr 0
  have fr1 := fr 1
  have fr2 := fr 2
  have fr3 := fr 3
  have fr4 := fr 4
  clear fr
  have s1 := (OwnI.stays 3).below _ _ _ _ _ hb3 HD1'.out
  have s2 := (OwnI.stays 3).below _ _ _ _ _ hb3 HD2.out
  have hown : OwnCon (w3.setCell ⟨w.heap.size + 1 + 1, 4, none⟩ v3) w.heap.size (.agg #[.int .i64 c.kind, .slice V1 c.vars.length d1, .slice V2 c.args.length d2, .int .i64 c.bound, v3]) c :=
    ⟨_, _, _, rfl, (OwnI.stays 3).base _ _ _ _ _ (by omega) (OwnI.shuns (t := 50) (by decide) _ _ _ _ _ 4 _ _ _ ho3 s1), (OwnI.stays 3).base _ _ _ _ _ (by omega) (OwnI.shuns (t := 50) (by decide) _ _ _ _ _ 4 _ _ _ ho3 s2),
      (OwnOf.stays (OwnI.stays 3)).base _ _ _ _ _ (by omega) (OwnOf.shuns (t := 50) (by decide) (OwnI.shuns (by decide)) _ _ _ _ _ 4 _ _ _ ho3 o3)⟩
  have he3 : Below w.heap.size w (w3.setCell ⟨w.heap.size + 1 + 1, 4, none⟩ v3) := (bgo he2 hb3).setCell (by simp; omega) _
  obtain ⟨V3, d3, e3, -⟩ := read2 o3
  have hr4 : CBlk (w3.setCell ⟨w.heap.size + 1 + 1, 4, none⟩ v3) (w.heap.size + 1) (.int .i64 0) (.slice none 0 0) (.slice none 0 0) (.int .i64 0) (.slice none 0 0) := hr3.far (by omega)
  have q0 := hown.set (j := 0) (u := .int .i64 c.kind) hr4
  have p0 := hr4.set0 (.int .i64 c.kind)
  have q1 := q0.set (j := 1) (u := .slice V1 c.vars.length d1) p0
  have p1 := p0.set1 (.slice V1 c.vars.length d1)
  have q2 := q1.set (j := 2) (u := .slice V2 c.args.length d2) p1
  have p2 := p1.set2 (.slice V2 c.args.length d2)
  have q3 := q2.set (j := 3) (u := .int .i64 c.bound) p2
  have p3 := p2.set3 (.int .i64 c.bound)
  have q4 := q3.set (j := 4) (u := v3) p3
  obtain ⟨t0, t1, t2, t3, t4⟩ := (p3.set4 v3).cells
  have T := Lib.hid (And.intro t0 (And.intro t1 (And.intro t2 (And.intro t3 t4))))
  clear t0 t1 t2 t3 t4
  have HOWN := Lib.hid q4
  have he4 := ((((he3.setCell (p := ⟨w.heap.size + 1, 0, none⟩) (by simp) (.int .i64 c.kind)).setCell (p := ⟨w.heap.size + 1, 1, none⟩) (by simp) (.slice V1 c.vars.length d1)).setCell (p := ⟨w.heap.size + 1, 2, none⟩) (by simp) (.slice V2 c.args.length d2)).setCell (p := ⟨w.heap.size + 1, 3, none⟩) (by simp) (.int .i64 c.bound)).setCell (p := ⟨w.heap.size + 1, 4, none⟩) (by simp) v3
  have HE4 := Lib.hid he4
  clear hr4 q0 q1 q2 q3 q4 p0 p1 p2 p3 he3 he4 hr3
  clear s1 s2 hown o3 ho3
  subst e3
  go_wp2_with fail
  generalize (((((w3.setCell ⟨w.heap.size + 1 + 1, 4, none⟩ (.slice V3 c.rows.length d3)).setCell ⟨w.heap.size + 1, 0, none⟩ (.int .i64 c.kind)).setCell ⟨w.heap.size + 1, 1, none⟩ (.slice V1 c.vars.length d1)).setCell ⟨w.heap.size + 1, 2, none⟩ (.slice V2 c.args.length d2)).setCell ⟨w.heap.size + 1, 3, none⟩ (.int .i64 c.bound)).setCell ⟨w.heap.size + 1, 4, none⟩ (.slice V3 c.rows.length d3) = wf at T HOWN HE4 ⊢
  obtain ⟨t0, t1, t2, t3, t4⟩ := T.out
  exact bodyPost_ret (v := .agg #[.int .i64 c.kind, .slice V1 c.vars.length d1, .slice V2 c.args.length d2, .int .i64 c.bound, .slice V3 c.rows.length d3]) (by simp [results, Tryd.results28, go_sem, t0, t1, t2, t3, t4]) rfl ⟨_, rfl, HOWN.out, HE4.out⟩
set_option maxHeartbeats 4000000 in
theorem eqConstraint (us vs : List Value) (c d : Con) (w : World) (h : ConR w w.heap.size us c) (k : ConR w w.heap.size vs d) :
    Calls Tryd.prog 39 #[.agg us.toArray, .agg vs.toArray] w fun e w' => e = .returned (.bool (decide (c = d))) ∧ Below w.heap.size w w' := by
  obtain ⟨va, aa, ra, cv, ca, cr, rfl, g1, g2, g3, -⟩ := h
  obtain ⟨vb, ab, rb, dv, da, dr, rfl, k1, k2, k3, -⟩ := k
  obtain ⟨wa, hwa⟩ : ∃ wa, wa = (w.alloc (.cells #[.int .i64 c.kind, .slice va c.vars.length cv, .slice aa c.args.length ca, .int .i64 c.bound, .slice ra c.rows.length cr] 50)).alloc (.cells #[.int .i64 d.kind, .slice vb d.vars.length dv, .slice ab d.args.length da, .int .i64 d.bound, .slice rb d.rows.length dr] 50) := ⟨_, rfl⟩
  have hb0 : Below w.heap.size w wa := by rw [hwa]; exact b_alloc2 _ _ _
  have hsz : wa.heap.size = w.heap.size + 1 + 1 := by rw [hwa, size_alloc_, size_alloc_]
  have ha : CBlk wa w.heap.size (.int .i64 c.kind) (.slice va c.vars.length cv) (.slice aa c.args.length ca) (.int .i64 c.bound) (.slice ra c.rows.length cr) := by
    rw [hwa]; exact (CBlk.new w _ _ _ _ _).below (b_alloc _ _) (by rw [size_alloc_]; omega)
  have hd : CBlk wa (w.heap.size + 1) (.int .i64 d.kind) (.slice vb d.vars.length dv) (.slice ab d.args.length da) (.int .i64 d.bound) (.slice rb d.rows.length dr) := by
    rw [hwa]
    have := CBlk.new (w.alloc (.cells #[.int .i64 c.kind, .slice va c.vars.length cv, .slice aa c.args.length ca, .int .i64 c.bound, .slice ra c.rows.length cr] 50)) (.int .i64 d.kind) (.slice vb d.vars.length dv) (.slice ab d.args.length da) (.int .i64 d.bound) (.slice rb d.rows.length dr)
    rw [size_alloc_] at this
    exact this
  have HA := Lib.hid ha
  have HD := Lib.hid hd
  have G1 := Lib.hid g1
  have G2 := Lib.hid g2
  have G3 := Lib.hid g3
  have K1 := Lib.hid k1
  have K2 := Lib.hid k2
  have K3 := Lib.hid k3
  clear ha hd g1 g2 g3 k1 k2 k3
  by_cases e0 : c.kind = d.kind
  case neg =>
    have hne : (c.kind != d.kind) = true := by simpa using e0
    have hE : decide (c = d) = false := decide_eq_false (fun h => e0 (by rw [h]))
    rw [hE]
    clear hE e0
    go_enter Tryd.func39, Tryd.ntmps39
    go_wp2_with fail
    go_ret
    exact ⟨rfl, by rw [← hwa]; exact hb0⟩
  have hne0 : (c.kind != d.kind) = false := by simpa using e0
  have E0 := Lib.hid e0
  clear e0
  go_enter Tryd.func39, Tryd.ntmps39
  go_wp2_with fail
  rw [← hwa]
  clear hwa
  refine (eqIntS _ _ _ _ _ _ c.vars d.vars _ (IntR.on G1.out hb0) (IntR.on K1.out hb0)).mono ?_
  rintro e w1 ⟨rfl, hb1⟩
  have z1 := hb1.size
  have ha1 := HA.out.below hb1 (by omega)
  have hd1 := HD.out.below hb1 (by omega)
  obtain ⟨-, -, a2, a3, a4⟩ := ha1.cells
  obtain ⟨-, -, b2, b3, b4⟩ := hd1.cells
  have HA1 := Lib.hid ha1
  have HD1 := Lib.hid hd1
  have hc1 := bgo hb0 hb1
  clear ha1 hd1
  cases e1 : decide (c.vars = d.vars)
  · have hE : decide (c = d) = false := decide_eq_false (fun h => of_decide_eq_false e1 (by rw [h]))
    have HE := Lib.hid hE
    have E1 := Lib.hid e1
    clear hE e1
    go_wp2_with fail
    go_ret
    exact ⟨ret_bool HE.out.symm, hc1⟩
  have E1 := Lib.hid e1
  clear e1
  go_wp2_with fail
  refine (eqIntS _ _ _ _ _ _ c.args d.args _ (IntR.on G2.out hc1) (IntR.on K2.out hc1)).mono ?_
  rintro e w2 ⟨rfl, hb2⟩
  have z2 := hb2.size
  have ha2 := HA1.out.below hb2 (by omega)
  have hd2 := HD1.out.below hb2 (by omega)
  clear a2 a3 a4 b2 b3 b4
  obtain ⟨-, -, -, a3, a4⟩ := ha2.cells
  obtain ⟨-, -, -, b3, b4⟩ := hd2.cells
  have hc2 := bgo hc1 hb2
  clear ha2 hd2
  cases e2 : decide (c.args = d.args)
  · have hE : decide (c = d) = false := decide_eq_false (fun h => of_decide_eq_false e2 (by rw [h]))
    have HE := Lib.hid hE
    have E2 := Lib.hid e2
    clear hE e2
    go_wp2_with fail
    go_ret
    exact ⟨ret_bool HE.out.symm, hc2⟩
  have E2 := Lib.hid e2
  clear e2
  by_cases e3 : c.bound = d.bound
  case neg =>
    have hne : (c.bound != d.bound) = true := by simpa using e3
    have hE : decide (c = d) = false := decide_eq_false (fun h => e3 (by rw [h]))
    have HE := Lib.hid hE
    clear hE e3
    go_wp2_with fail
    go_ret
    exact ⟨ret_bool HE.out.symm, hc2⟩
  have hne3 : (c.bound != d.bound) = false := by simpa using e3
  have E3 := Lib.hid e3
  clear e3
  go_wp2_with fail
  refine (eqIntSS _ _ _ _ _ _ c.rows d.rows _ (SlR.on (RowC.keeps IntC.keeps) (RowC.widens IntC.widens) G3.out hc2) (SlR.on (RowC.keeps IntC.keeps) (RowC.widens IntC.widens) K3.out hc2)).mono ?_
  rintro e w3 ⟨rfl, hb3⟩
  have hc3 := bgo hc2 hb3
  cases e4 : decide (c.rows = d.rows)
  · have hE : decide (c = d) = false := decide_eq_false (fun h => of_decide_eq_false e4 (by rw [h]))
    have HE := Lib.hid hE
    have E4 := Lib.hid e4
    clear hE e4
    go_wp2_with fail
    go_ret
    exact ⟨ret_bool HE.out.symm, hc3⟩
  have hE : decide (c = d) = true := decide_eq_true (by
    rcases c with ⟨k, v, a, b, r⟩
    rcases d with ⟨k', v', a', b', r'⟩
    have h0 := E0.out
    have h1 := of_decide_eq_true E1.out
    have h2 := of_decide_eq_true E2.out
    have h3 := E3.out
    have h4 := of_decide_eq_true e4
    simp only at h0 h1 h2 h3 h4
    subst h0 h1 h2 h3 h4
    rfl)
  have HE := Lib.hid hE
  have E4 := Lib.hid e4
  clear hE e4
  go_wp2_with fail
  go_ret
  exact ⟨ret_bool HE.out.symm, hc3⟩
end Go.Proofs.YtfoodlhfmcfjeaaDoor
