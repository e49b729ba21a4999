/- Weighted constraints: the laws' copies, sizes and comparisons. -/
import Derived.Test.YtpgmjempdpelkaaBox
namespace Go.Proofs.Ytpgmjempdpelkaa
open Go.ChangeShapes Go.WideShapes Go.ChangeAt Go.RowKit
open Go.Shelf
set_option linter.unusedVariables false
set_option maxRecDepth 100000

theorem SofA.on {w w' : World} {us : List Value} {c : Sof} (h : SofA w w.heap.size us c) (hb : Below w.heap.size w w') : SofA w' w'.heap.size us c := SofA.widens _ _ _ _ _ hb.size (SofA.keeps _ _ _ _ _ (fun _ hp => hb.cell hp) h)
theorem SofR.on {w w' : World} {us : List Value} {c : Sof} (h : SofR w w.heap.size us c) (hb : Below w.heap.size w w') : SofR w' w'.heap.size us c := SofR.widens _ _ _ _ _ hb.size (SofR.keeps _ _ _ _ _ (fun _ hp => hb.cell hp) h)
theorem SofA.cells {w : World} {B : Nat} {us : List Value} {s : Sof} (h : SofA w B us s) : ∃ va aa ra cv ca cr, us = [.int .i64 s.con.kind, .slice va s.con.vars.length cv, .slice aa s.con.args.length ca, .int .i64 s.con.bound, .slice ra s.con.rows.length cr, .int .i64 s.weight] := by
  obtain ⟨us0, rfl, va, aa, ra, cv, ca, cr, rfl, -⟩ := h
  exact ⟨_, _, _, _, _, _, rfl⟩
theorem SofR.cells {w : World} {B : Nat} {us : List Value} {s : Sof} (h : SofR w B us s) : ∃ va aa ra cv ca cr, us = [.int .i64 s.con.kind, .slice va s.con.vars.length cv, .slice aa s.con.args.length ca, .int .i64 s.con.bound, .slice ra s.con.rows.length cr, .int .i64 s.weight] := by
  obtain ⟨us0, rfl, va, aa, ra, cv, ca, cr, rfl, -⟩ := h
  exact ⟨_, _, _, _, _, _, rfl⟩
theorem SofA.con {w : World} {B : Nat} {a b c d e f : Value} {s : Sof} (h : SofA w B [a, b, c, d, e, f] s) : f = .int .i64 s.weight ∧ ConA w B [a, b, c, d, e] s.con := by
  obtain ⟨us0, e1, va, aa, ra, cv, ca, cr, rfl, h⟩ := h
  simp only [List.cons_append, List.nil_append, List.cons.injEq, and_true] at e1
  obtain ⟨rfl, rfl, rfl, rfl, rfl, rfl⟩ := e1
  exact ⟨rfl, va, aa, ra, cv, ca, cr, rfl, h⟩
theorem SofR.con {w : World} {B : Nat} {a b c d e f : Value} {s : Sof} (h : SofR w B [a, b, c, d, e, f] s) : f = .int .i64 s.weight ∧ ConR w B [a, b, c, d, e] s.con := by
  obtain ⟨us0, e1, va, aa, ra, cv, ca, cr, rfl, h⟩ := h
  simp only [List.cons_append, List.nil_append, List.cons.injEq, and_true] at e1
  obtain ⟨rfl, rfl, rfl, rfl, rfl, rfl⟩ := e1
  exact ⟨rfl, va, aa, ra, cv, ca, cr, rfl, h⟩
def SmSof (s : Sof) : Prop := SmCon s.con
def OwnSof (w : World) (base : Nat) (v : Value) (s : Sof) : Prop := ∃ vv av rv, v = .agg #[.int .i64 s.con.kind, vv, av, .int .i64 s.con.bound, rv, .int .i64 s.weight] ∧ OwnI 3 w base vv s.con.vars ∧ OwnI 3 w base av s.con.args ∧ OwnOf 22 (OwnI 3) w base rv s.con.rows
theorem OwnSof.con {w : World} {base : Nat} {a b c d e f : Value} {s : Sof} (h : OwnSof w base (.agg #[a, b, c, d, e, f]) s) : OwnCon w base (.agg #[a, b, c, d, e]) s.con := by
  obtain ⟨vv, av, rv, he, h1, h2, h3⟩ := h
  injection he with he
  have he2 : [a, b, c, d, e, f] = [.int .i64 s.con.kind, vv, av, .int .i64 s.con.bound, rv, .int .i64 s.weight] := by simpa using congrArg Array.toList he
  simp only [List.cons.injEq, and_true] at he2
  obtain ⟨rfl, rfl, rfl, rfl, rfl, rfl⟩ := he2
  exact ⟨_, _, _, rfl, h1, h2, h3⟩
def OwnSofU : World → Nat → List Value → Sof → Prop := fun w b us c => OwnSof w b (.agg us.toArray) c
theorem OwnSofU.stays : StaysK OwnSofU :=
  ⟨fun _ _ _ _ _ hb ⟨vv, av, rv, e, h1, h2, h3⟩ => ⟨vv, av, rv, e, (OwnI.stays 3).below _ _ _ _ _ hb h1, (OwnI.stays 3).below _ _ _ _ _ hb h2, (OwnOf.stays (OwnI.stays 3)).below _ _ _ _ _ hb h3⟩,
   fun _ _ _ _ _ hb ⟨vv, av, rv, e, h1, h2, h3⟩ => ⟨vv, av, rv, e, (OwnI.stays 3).base _ _ _ _ _ hb h1, (OwnI.stays 3).base _ _ _ _ _ hb h2, (OwnOf.stays (OwnI.stays 3)).base _ _ _ _ _ hb h3⟩⟩
theorem OwnSofU.shun {t : TypeId} (h1 : t ≠ 3) (h2 : t ≠ 22) : ShunsK t OwnSofU := by
  intro w base us c g j cs fr u hg h
  obtain ⟨vv, av, rv, e, k1, k2, k3⟩ := h
  exact ⟨vv, av, rv, e, OwnI.shuns h1 _ _ _ _ _ j _ _ _ hg k1, OwnI.shuns h1 _ _ _ _ _ j _ _ _ hg k2, OwnOf.shuns h2 (OwnI.shuns h1) _ _ _ _ _ j _ _ _ hg k3⟩
theorem OwnSofU.shuns : ShunsK 85 OwnSofU := OwnSofU.shun (by decide) (by decide)
theorem OwnSofU.read {w : World} {base : Nat} {us : List Value} {c : Sof} (h : OwnSofU w base us c) : SofR w w.heap.size us c := by
  obtain ⟨vv, av, rv, e, h1, h2, h3⟩ := h
  injection e with e
  have e2 : us = [.int .i64 c.con.kind, vv, av, .int .i64 c.con.bound, rv, .int .i64 c.weight] := by simpa using congrArg Array.toList e
  obtain ⟨vs, e3, hr⟩ := OwnCon.read (show OwnCon w base (.agg #[.int .i64 c.con.kind, vv, av, .int .i64 c.con.bound, rv]) c.con from ⟨_, _, _, rfl, h1, h2, h3⟩)
  injection e3 with e3
  have e4 : [.int .i64 c.con.kind, vv, av, .int .i64 c.con.bound, rv] = vs := by simpa using congrArg Array.toList e3
  refine ⟨vs, ?_, hr⟩
  rw [e2, ← e4]; rfl
abbrev OwnSofs (w : World) (base : Nat) (v : Value) (xs : List Sof) : Prop := OwnK 85 6 OwnSofU w base v xs
theorem OwnSofs.read {w : World} {base : Nat} {v : Value} {xs : List Sof} (h : OwnSofs w base v xs) : ∃ A c, v = .slice A xs.length c ∧ SofsR w w.heap.size A xs.length xs ∧ xs.length ≤ c := OwnK.read (fun _ _ _ _ h => OwnSofU.read h) h
set_option maxHeartbeats 4000000 in
theorem szSoft (us : List Value) (s : Sof) (left : Int) (w : World) (h : SofA w w.heap.size us s) (h0 : 0 ≤ left) (h1 : left ≤ 1048576) :
    Calls Try.prog 61 #[.agg us.toArray, .int .i64 left] w fun e w' => ∃ r : Int, e = .returned (.int .i64 r) ∧ (r = -1 ∨ 0 ≤ r ∧ r ≤ left ∧ SmSof s) ∧ Below w.heap.size w w' := by
  obtain ⟨va, aa, ra, cv, ca, cr, rfl⟩ := SofA.cells h
  obtain ⟨wa, hwa⟩ : ∃ wa, wa = w.alloc (.cells #[.int .i64 s.con.kind, .slice va s.con.vars.length cv, .slice aa s.con.args.length ca, .int .i64 s.con.bound, .slice ra s.con.rows.length cr, .int .i64 s.weight] 82) := ⟨_, rfl⟩
  have hb0 : Below w.heap.size w wa := by rw [hwa]; exact b_alloc _ _
  have G1 := Lib.hid (ConA.on (SofA.con h).2 hb0)
  clear h
  go_enter Try.func61, Try.ntmps61
  go_wp2_with fail
  rw [← hwa]
  clear hwa
  refine (szConstraint _ _ left _ G1.out h0 h1).mono ?_
  rintro e w1 ⟨r1, rfl, hr, hb1⟩
  rcases hr with rfl | ⟨p0, p1, s1⟩
  · go_wp2_with fail
    go_ret
    exact ⟨-1, rfl, .inl rfl, bgo hb0 hb1⟩
  have S1 := Lib.hid s1
  clear s1
  go_wp2_with fail
  go_ret
  exact ⟨r1, rfl, .inr ⟨p0, by omega, S1.out⟩, bgo hb0 hb1⟩
set_option maxHeartbeats 4000000 in
theorem eqSoft (us vs : List Value) (c d : Sof) (w : World) (h : SofR w w.heap.size us c) (k : SofR w w.heap.size vs d) :
    Calls Try.prog 68 #[.agg us.toArray, .agg vs.toArray] w fun e w' => e = .returned (.bool (decide (c = d))) ∧ Below w.heap.size w w' := by
  obtain ⟨va, aa, ra, cv, ca, cr, rfl⟩ := SofR.cells h
  obtain ⟨vb, ab, rb, dv, da, dr, rfl⟩ := SofR.cells k
  obtain ⟨wa, hwa⟩ : ∃ wa, wa = (w.alloc (.cells #[.int .i64 c.con.kind, .slice va c.con.vars.length cv, .slice aa c.con.args.length ca, .int .i64 c.con.bound, .slice ra c.con.rows.length cr, .int .i64 c.weight] 85)).alloc (.cells #[.int .i64 d.con.kind, .slice vb d.con.vars.length dv, .slice ab d.con.args.length da, .int .i64 d.con.bound, .slice rb d.con.rows.length dr, .int .i64 d.weight] 85) := ⟨_, rfl⟩
  have hb0 : Below w.heap.size w wa := by rw [hwa]; exact b_alloc2 _ _ _
  have hsz : wa.heap.size = w.heap.size + 1 + 1 := by rw [hwa, size_alloc_, size_alloc_]
  have ha : TBlk 85 wa w.heap.size #[.int .i64 c.con.kind, .slice va c.con.vars.length cv, .slice aa c.con.args.length ca, .int .i64 c.con.bound, .slice ra c.con.rows.length cr, .int .i64 c.weight] := by
    rw [hwa]; exact (TBlk.new _ _ _).below_ (b_alloc _ _) (by rw [size_alloc_]; omega)
  have hd : TBlk 85 wa (w.heap.size + 1) #[.int .i64 d.con.kind, .slice vb d.con.vars.length dv, .slice ab d.con.args.length da, .int .i64 d.con.bound, .slice rb d.con.rows.length dr, .int .i64 d.weight] := by
    rw [hwa]
    have := TBlk.new (w.alloc (.cells #[.int .i64 c.con.kind, .slice va c.con.vars.length cv, .slice aa c.con.args.length ca, .int .i64 c.con.bound, .slice ra c.con.rows.length cr, .int .i64 c.weight] 85)) #[.int .i64 d.con.kind, .slice vb d.con.vars.length dv, .slice ab d.con.args.length da, .int .i64 d.con.bound, .slice rb d.con.rows.length dr, .int .i64 d.weight] 85
    rw [size_alloc_] at this
    exact this
  have HA := Lib.hid ha
  have HD := Lib.hid hd
  have G1 := Lib.hid (ConR.on (SofR.con h).2 hb0)
  have K1 := Lib.hid (ConR.on (SofR.con k).2 hb0)
  clear ha hd h k
  go_enter Try.func68, Try.ntmps68
  go_wp2_with fail
  rw [← hwa]
  clear hwa
  refine (eqConstraint _ _ c.con d.con _ G1.out K1.out).mono ?_
  rintro e w1 ⟨rfl, hb1⟩
  have z1 := hb1.size
  have a5 : w1.cell? ⟨w.heap.size, 5, none⟩ = some (.int .i64 c.weight) := (HA.out.below_ hb1 (by omega)).at_ 5 rfl
  have b5 : w1.cell? ⟨w.heap.size + 1, 5, none⟩ = some (.int .i64 d.weight) := (HD.out.below_ hb1 (by omega)).at_ 5 rfl
  have hc1 := bgo hb0 hb1
  cases e1 : decide (c.con = d.con)
  · have HE := Lib.hid (show decide (c = d) = false from decide_eq_false (fun h => of_decide_eq_false e1 (by rw [h])))
    have E1 := Lib.hid e1
    clear e1
    go_wp2_with fail
    go_ret
    exact ⟨ret_bool HE.out.symm, hc1⟩
  have E1 := Lib.hid e1
  clear e1
  cases e2 : (c.weight == d.weight)
  · have e3 : (c.weight != d.weight) = true := by simp only [bne, e2]; rfl
    have HE := Lib.hid (show decide (c = d) = false from decide_eq_false (fun h => beq_eq_false_iff_ne.1 e2 (by rw [h])))
    clear e2
    go_wp2_with fail
    go_ret
    exact ⟨ret_bool HE.out.symm, hc1⟩
  have e3 : (c.weight != d.weight) = false := by simp only [bne, e2]; rfl
  have HE := Lib.hid (show decide (c = d) = true from decide_eq_true (by
    rcases c with ⟨x, y⟩
    rcases d with ⟨x', y'⟩
    have h1 := of_decide_eq_true E1.out
    have h2 := beq_iff_eq.1 e2
    simp only at h1 h2
    subst h1 h2
    rfl))
  clear e2
  go_wp2_with fail
  go_ret
  exact ⟨ret_bool HE.out.symm, hc1⟩
set_option maxHeartbeats 4000000 in
theorem toSoft (us : List Value) (s : Sof) (w : World) (h : SofA w w.heap.size us s) (hs : SmSof s) :
    Calls Try.prog 65 #[.agg us.toArray] w fun e w' => ∃ v, e = .returned v ∧ OwnSof w' w.heap.size v s ∧ Below w.heap.size w w' := by
  obtain ⟨va, aa, ra, cv, ca, cr, rfl⟩ := SofA.cells h
  obtain ⟨w1, hw1⟩ : ∃ w1, w1 = w.alloc (.cells #[.int .i64 s.con.kind, .slice va s.con.vars.length cv, .slice aa s.con.args.length ca, .int .i64 s.con.bound, .slice ra s.con.rows.length cr, .int .i64 s.weight] 82) := ⟨_, rfl⟩
  obtain ⟨w2, hw2⟩ : ∃ w2, w2 = w1.alloc (.cells #[.int .i64 0, .slice none 0 0, .slice none 0 0, .int .i64 0, .slice none 0 0, .int .i64 0] 85) := ⟨_, rfl⟩
  obtain ⟨wa, hwa⟩ : ∃ wa, wa = w2.alloc (.cells #[.int .i64 0, .slice none 0 0, .slice none 0 0, .int .i64 0, .slice none 0 0, .int .i64 0] 85) := ⟨_, rfl⟩
  have y1 : w1.heap.size = w.heap.size + 1 := by rw [hw1, size_alloc_]
  have y2 : w2.heap.size = w.heap.size + 1 + 1 := by rw [hw2, size_alloc_, y1]
  have hsz : wa.heap.size = w.heap.size + 1 + 1 + 1 := by rw [hwa, size_alloc_, y2]
  have hb0 : Below w.heap.size w wa := by rw [hwa, hw2, hw1]; exact b_alloc3 _ _ _ _
  have ha1 : TBlk 82 w1 w.heap.size #[.int .i64 s.con.kind, .slice va s.con.vars.length cv, .slice aa s.con.args.length ca, .int .i64 s.con.bound, .slice ra s.con.rows.length cr, .int .i64 s.weight] := by rw [hw1]; exact TBlk.new _ _ _
  have b12 : Below w1.heap.size w1 w2 := by rw [hw2]; exact b_alloc _ _
  have b23 : Below w2.heap.size w2 wa := by rw [hwa]; exact b_alloc _ _
  have ha : TBlk 82 wa w.heap.size #[.int .i64 s.con.kind, .slice va s.con.vars.length cv, .slice aa s.con.args.length ca, .int .i64 s.con.bound, .slice ra s.con.rows.length cr, .int .i64 s.weight] := (ha1.below_ b12 (by omega)).below_ b23 (by omega)
  have hr : TBlk 85 wa (w.heap.size + 1) #[.int .i64 0, .slice none 0 0, .slice none 0 0, .int .i64 0, .slice none 0 0, .int .i64 0] := by
    have := TBlk.new w1 #[.int .i64 0, .slice none 0 0, .slice none 0 0, .int .i64 0, .slice none 0 0, .int .i64 0] 85
    rw [← hw2, y1] at this
    exact this.below_ b23 (by omega)
  have ho : TBlk 85 wa (w.heap.size + 1 + 1) #[.int .i64 0, .slice none 0 0, .slice none 0 0, .int .i64 0, .slice none 0 0, .int .i64 0] := by
    have := TBlk.new w2 #[.int .i64 0, .slice none 0 0, .slice none 0 0, .int .i64 0, .slice none 0 0, .int .i64 0] 85
    rw [← hwa, y2] at this
    exact this
  rw [hw2, hw1] at hwa
  have G1 := Lib.hid (ConA.on (SofA.con h).2 hb0)
  have S1 := Lib.hid hs
  have HA := Lib.hid ha
  have HR := Lib.hid hr
  have HO := Lib.hid ho
  clear hs ha hr ho h ha1 b12 b23 hw1 hw2 y1 y2
  go_enter Try.func65, Try.ntmps65
  go_wp2_with fail
  rw [← hwa]
  clear hwa
  refine (toConstraint _ s.con wa G1.out S1.out).mono ?_
  rintro e w3 ⟨v1, rfl, o1, hb1⟩
  have z0 := hb0.size
  have z1 := hb1.size
  have ha3 := HA.out.below_ hb1 (by omega)
  have ho3 := HO.out.below_ hb1 (by omega)
  have hr3 := HR.out.below_ hb1 (by omega)
  obtain ⟨vv, av, rv, rfl, p1, p2, p3⟩ := o1
  obtain ⟨A1, c1, rfl, -⟩ := p1.read
  obtain ⟨A2, c2, rfl, -⟩ := p2.read
  obtain ⟨A3, c3, rfl, -⟩ := read2 p3
  have hown : OwnSofU w3 w.heap.size [.int .i64 s.con.kind, .slice A1 s.con.vars.length c1, .slice A2 s.con.args.length c2, .int .i64 s.con.bound, .slice A3 s.con.rows.length c3, .int .i64 s.weight] s :=
    OwnSofU.stays.base _ _ _ _ _ (by omega) (⟨_, _, _, rfl, p1, p2, p3⟩ : OwnSofU w3 wa.heap.size _ s)
  have x5 : w3.cell? ⟨w.heap.size, 5, none⟩ = some (.int .i64 s.weight) := ha3.at_ 5 rfl
  have c0 : w3.cell? ⟨w.heap.size + 1 + 1, 0, none⟩ = some (.int .i64 0) := ho3.at_ 0 rfl
  have c1' : w3.cell? ⟨w.heap.size + 1 + 1, 1, none⟩ = some (.slice none 0 0) := ho3.at_ 1 rfl
  have c2' : w3.cell? ⟨w.heap.size + 1 + 1, 2, none⟩ = some (.slice none 0 0) := ho3.at_ 2 rfl
  have c3' : w3.cell? ⟨w.heap.size + 1 + 1, 3, none⟩ = some (.int .i64 0) := ho3.at_ 3 rfl
  have c4' : w3.cell? ⟨w.heap.size + 1 + 1, 4, none⟩ = some (.slice none 0 0) := ho3.at_ 4 rfl
  have c5' : w3.cell? ⟨w.heap.size + 1 + 1, 5, none⟩ = some (.int .i64 0) := ho3.at_ 5 rfl
  have f0 := ho3.frozen 0
  have f1 := ho3.frozen 1
  have f2 := ho3.frozen 2
  have f3 := ho3.frozen 3
  have f4 := ho3.frozen 4
  have f5 := ho3.frozen 5
  have r0 : w3.cell? ⟨w.heap.size + 1, 0, none⟩ = some (.int .i64 0) := hr3.at_ 0 rfl
  have r1 : w3.cell? ⟨w.heap.size + 1, 1, none⟩ = some (.slice none 0 0) := hr3.at_ 1 rfl
  have r2 : w3.cell? ⟨w.heap.size + 1, 2, none⟩ = some (.slice none 0 0) := hr3.at_ 2 rfl
  have r3 : w3.cell? ⟨w.heap.size + 1, 3, none⟩ = some (.int .i64 0) := hr3.at_ 3 rfl
  have r4 : w3.cell? ⟨w.heap.size + 1, 4, none⟩ = some (.slice none 0 0) := hr3.at_ 4 rfl
  have r5 : w3.cell? ⟨w.heap.size + 1, 5, none⟩ = some (.int .i64 0) := hr3.at_ 5 rfl
  have q0 := hr3.frozen 0
  have q1 := hr3.frozen 1
  have q2 := hr3.frozen 2
  have q3 := hr3.frozen 3
  have q4 := hr3.frozen 4
  have q5 := hr3.frozen 5
  -- the world behind all stores
  obtain ⟨k0, hk0⟩ : ∃ x : Value, x = .int .i64 s.con.kind := ⟨_, rfl⟩
  have P : ∀ (x0 x1 x2 x3 x4 x5 : Value), ∀ wz : World, wz = ((((((((((((w3.setCell ⟨w.heap.size + 1 + 1, 0, none⟩ x0).setCell ⟨w.heap.size + 1 + 1, 1, none⟩ x1).setCell ⟨w.heap.size + 1 + 1, 2, none⟩ x2).setCell ⟨w.heap.size + 1 + 1, 3, none⟩ x3).setCell ⟨w.heap.size + 1 + 1, 4, none⟩ x4).setCell ⟨w.heap.size + 1 + 1, 5, none⟩ x5).setCell ⟨w.heap.size + 1, 0, none⟩ x0).setCell ⟨w.heap.size + 1, 1, none⟩ x1).setCell ⟨w.heap.size + 1, 2, none⟩ x2).setCell ⟨w.heap.size + 1, 3, none⟩ x3).setCell ⟨w.heap.size + 1, 4, none⟩ x4).setCell ⟨w.heap.size + 1, 5, none⟩ x5) →
      TBlk 85 wz (w.heap.size + 1) #[x0, x1, x2, x3, x4, x5] ∧ Below w.heap.size w wz ∧ OwnSofU wz w.heap.size [.int .i64 s.con.kind, .slice A1 s.con.vars.length c1, .slice A2 s.con.args.length c2, .int .i64 s.con.bound, .slice A3 s.con.rows.length c3, .int .i64 s.weight] s := by
    intro x0 x1 x2 x3 x4 x5 wz hwz
    have hS := OwnSofU.shuns
    have o1 := ho3.store 0 x0
    have e1 := hS _ _ _ _ _ 0 _ _ x0 ho3 hown
    have o2 := o1.store 1 x1
    have e2 := hS _ _ _ _ _ 1 _ _ x1 o1 e1
    have o3 := o2.store 2 x2
    have e3 := hS _ _ _ _ _ 2 _ _ x2 o2 e2
    have o4 := o3.store 3 x3
    have e4 := hS _ _ _ _ _ 3 _ _ x3 o3 e3
    have o5 := o4.store 4 x4
    have e5 := hS _ _ _ _ _ 4 _ _ x4 o4 e4
    have e6 := hS _ _ _ _ _ 5 _ _ x5 o5 e5
    have t6 : TBlk 85 ((((((w3.setCell ⟨w.heap.size + 1 + 1, 0, none⟩ x0).setCell ⟨w.heap.size + 1 + 1, 1, none⟩ x1).setCell ⟨w.heap.size + 1 + 1, 2, none⟩ x2).setCell ⟨w.heap.size + 1 + 1, 3, none⟩ x3).setCell ⟨w.heap.size + 1 + 1, 4, none⟩ x4).setCell ⟨w.heap.size + 1 + 1, 5, none⟩ x5) (w.heap.size + 1) #[.int .i64 0, .slice none 0 0, .slice none 0 0, .int .i64 0, .slice none 0 0, .int .i64 0] :=
      (((((hr3.far (by omega)).far (by omega)).far (by omega)).far (by omega)).far (by omega)).far (by omega)
    have t7 := t6.store 0 x0
    have e7 := hS _ _ _ _ _ 0 _ _ x0 t6 e6
    have t8 := t7.store 1 x1
    have e8 := hS _ _ _ _ _ 1 _ _ x1 t7 e7
    have t9 := t8.store 2 x2
    have e9 := hS _ _ _ _ _ 2 _ _ x2 t8 e8
    have t10 := t9.store 3 x3
    have e10 := hS _ _ _ _ _ 3 _ _ x3 t9 e9
    have t11 := t10.store 4 x4
    have e11 := hS _ _ _ _ _ 4 _ _ x4 t10 e10
    have t12 := t11.store 5 x5
    have e12 := hS _ _ _ _ _ 5 _ _ x5 t11 e11
    subst hwz
    refine ⟨t12, ?_, e12⟩
    exact ((((((((((((bgo hb0 hb1).setCell (by simp; omega) _).setCell (by simp; omega) _).setCell (by simp; omega) _).setCell (by simp; omega) _).setCell (by simp; omega) _).setCell (by simp; omega) _).setCell (by simp) _).setCell (by simp) _).setCell (by simp) _).setCell (by simp) _).setCell (by simp) _).setCell (by simp) _
  have HP := Lib.hid (P (.int .i64 s.con.kind) (.slice A1 s.con.vars.length c1) (.slice A2 s.con.args.length c2) (.int .i64 s.con.bound) (.slice A3 s.con.rows.length c3) (.int .i64 s.weight) _ rfl)
  clear P hown p1 p2 p3 ha3 ho3 hr3 hk0
  go_wp2_with fail
  generalize ((((((((((((w3.setCell ⟨w.heap.size + 1 + 1, 0, none⟩ (.int .i64 s.con.kind)).setCell ⟨w.heap.size + 1 + 1, 1, none⟩ (.slice A1 s.con.vars.length c1)).setCell ⟨w.heap.size + 1 + 1, 2, none⟩ (.slice A2 s.con.args.length c2)).setCell ⟨w.heap.size + 1 + 1, 3, none⟩ (.int .i64 s.con.bound)).setCell ⟨w.heap.size + 1 + 1, 4, none⟩ (.slice A3 s.con.rows.length c3)).setCell ⟨w.heap.size + 1 + 1, 5, none⟩ (.int .i64 s.weight)).setCell ⟨w.heap.size + 1, 0, none⟩ (.int .i64 s.con.kind)).setCell ⟨w.heap.size + 1, 1, none⟩ (.slice A1 s.con.vars.length c1)).setCell ⟨w.heap.size + 1, 2, none⟩ (.slice A2 s.con.args.length c2)).setCell ⟨w.heap.size + 1, 3, none⟩ (.int .i64 s.con.bound)).setCell ⟨w.heap.size + 1, 4, none⟩ (.slice A3 s.con.rows.length c3)).setCell ⟨w.heap.size + 1, 5, none⟩ (.int .i64 s.weight)) = wf at HP ⊢
  obtain ⟨T, HE, HOWN⟩ := HP.out
  have t0 : wf.cell? ⟨w.heap.size + 1, 0, none⟩ = some (.int .i64 s.con.kind) := T.at_ 0 rfl
  have t1 : wf.cell? ⟨w.heap.size + 1, 1, none⟩ = some (.slice A1 s.con.vars.length c1) := T.at_ 1 rfl
  have t2 : wf.cell? ⟨w.heap.size + 1, 2, none⟩ = some (.slice A2 s.con.args.length c2) := T.at_ 2 rfl
  have t3 : wf.cell? ⟨w.heap.size + 1, 3, none⟩ = some (.int .i64 s.con.bound) := T.at_ 3 rfl
  have t4 : wf.cell? ⟨w.heap.size + 1, 4, none⟩ = some (.slice A3 s.con.rows.length c3) := T.at_ 4 rfl
  have t5 : wf.cell? ⟨w.heap.size + 1, 5, none⟩ = some (.int .i64 s.weight) := T.at_ 5 rfl
  exact bodyPost_ret (v := .agg #[.int .i64 s.con.kind, .slice A1 s.con.vars.length c1, .slice A2 s.con.args.length c2, .int .i64 s.con.bound, .slice A3 s.con.rows.length c3, .int .i64 s.weight]) (by simp [results, Try.results65, go_sem, t0, t1, t2, t3, t4, t5]) rfl ⟨_, rfl, HOWN, HE⟩
end Go.Proofs.Ytpgmjempdpelkaa
