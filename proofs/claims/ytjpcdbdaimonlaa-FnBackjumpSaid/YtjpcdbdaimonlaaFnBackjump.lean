/- FnBackjump: for every input the law returns true and its arguments read as before; no further condition. -/
import Derived.Test.YtjpcdbdaimonlaaRows
import Derived.WalkKit
import Derived.ProofKit
import Derived.OpenShut
import Derived.Carry
import Derived.StillTailTactics
import Derived.Test.YtjpcdbdaimonlaaHiFnBackjumpC
import Derived.Test.YtjpcdbdaimonlaaOpenC
namespace Go.Proofs.Ytjpcdbdaimonlaa.fnBackjump
open Go.ChangeShapes Go.WideShapes Go.ChangeAt Go.RowKit
open Go.Shelf
set_option linter.unusedVariables false
set_option maxRecDepth 100000

theorem own : ownKnob Try.prog.godebug = none := by kernel_rfl
theorem laid : laidOutB Try.prog = true := by kernel_rfl

theorem hT3 {w w' : World} {b : Nat} {x0 x1 x2 : Value} (h : TBlk 29 w b #[x0, x1, x2]) (hb : Below w.heap.size w w') :
    TBlk 29 w' b #[x0, x1, x2] ∧ w'.cell? ⟨b, 0, none⟩ = some x0 ∧ w'.cell? ⟨b, 1, none⟩ = some x1 ∧ w'.cell? ⟨b, 2, none⟩ = some x2 := by
  have t := h.below_ hb h.lt
  exact ⟨t, t.at_ 0 rfl, t.at_ 1 rfl, t.at_ 2 rfl⟩
theorem iValidStore_b (us : List Value) (s : Sto) (w : World) (b : Bool) (hb : vstoF s = b) (h : StoR w w.heap.size us s) :
    Calls Try.prog 8 #[.agg us.toArray] w fun e w' => e = .returned (.bool b) ∧ Below w.heap.size w w' := by
  subst hb; exact iValidStore us s w h
theorem lequalModels_b (us vs : List Value) (c d : Mod) (w : World) (b : Bool) (hb : decide (c = d) = b) (h : ModR w w.heap.size us c) (k : ModR w w.heap.size vs d) :
    Calls Try.prog 10 #[.agg us.toArray, .agg vs.toArray] w fun e w' => e = .returned (.bool b) ∧ Below w.heap.size w w' := by
  subst hb; exact lequalModels us vs c d w h k
theorem lequalLists_b (A B : Option Addr) (n m c d : Nat) (xs ys : List (List Int)) (w : World) (b : Bool) (h : decide (xs = ys) = b) (hx : SlR (RowC IntC) w w.heap.size A n xs) (hy : SlR (RowC IntC) w w.heap.size B m ys) :
    Calls Try.prog 9 #[.slice A n c, .slice B m d] w fun e w' => e = .returned (.bool b) ∧ Below w.heap.size w w' := by
  subst h; exact lequalLists A B n m c d xs ys w hx hy
/-- what stands in the three boxes. -/
theorem three {W : World} {x0 x1 x2 : Value} : Hid (∀ W' : World, W.alloc (.cells #[x0, x1, x2] 29) = W' → Below W.heap.size W W' ∧ TBlk 29 W' W.heap.size #[x0, x1, x2]) := by
  intro W' h
  subst h
  exact ⟨b_alloc _ _, TBlk.new _ _ _⟩
set_option maxHeartbeats 2500000 in
theorem walk {W : World} (A0 : Option Addr) (n0 c0 : Nat) (xs0 : List Int) (g0 : CodeA W W.heap.size A0 n0 c0 xs0) :
    Calls Try.prog 3 #[.slice A0 n0 c0] W fun e w' => e = .returned (.bool true) ∧ Below W.heap.size W w' := by
  by_cases hlen : (1048576 : Int) < (n0 : Int)
  · have hd : decide ((1048576 : Int) < (n0 : Int)) = true := decide_eq_true hlen
    clear hlen
    go_enter Try.func3, Try.ntmps3
    go_wp2_with fail
    go_ret
    exact ⟨rfl, Below.refl _ _⟩
  have hd : decide ((1048576 : Int) < (n0 : Int)) = false := decide_eq_false hlen
  go_enter Try.func3, Try.ntmps3
  go_wp2_with fail
  refine (drawBackjump _ _ _ _ _ g0).mono ?_
  rintro e W1 ⟨vs, s, l, rfl, hos, hsz, hl0, hl1, c1⟩
  have hsr := sto_readU hos
  obtain ⟨da, ca, la, cd, cc, lc, rfl, gm, gl⟩ := hsr.parts
  have hcap : s.levels.length ≤ lc := by
    obtain ⟨u, v, la', lc', e, -, -, h⟩ := hsr
    simp only [List.cons.injEq, Value.slice.injEq, and_true] at e
    omega
  have HSZ := Lib.hid hsz.sm
  have hnl12 : s.levels.length ≤ 12 := hsz.2.1
  obtain ⟨X, hX⟩ : ∃ X, jumpS s l = X := ⟨_, rfl⟩
  obtain ⟨ok, hok⟩ : ∃ ok, jumpOk s l = ok := ⟨_, rfl⟩
  have HX := Lib.hid hX
  have HOK := Lib.hid hok
  obtain ⟨nd, hnd⟩ : ∃ nd, s.model.doms.length = nd := ⟨_, rfl⟩
  obtain ⟨nc, hnc⟩ : ∃ nc, s.model.cons.length = nc := ⟨_, rfl⟩
  obtain ⟨nl, hnl⟩ : ∃ nl, s.levels.length = nl := ⟨_, rfl⟩
  have HN := Lib.hid (And.intro hnd (And.intro hnc hnl))
  rw [hnd, hnc, hnl] at hsr
  rw [hnd, hnc] at gm
  rw [hnl] at gl hcap hnl12
  rw [hnd, hnc, hnl]
  clear hos hsz hX hok hnd hnc hnl
  obtain ⟨W2, hW2⟩ : ∃ W2, W1.alloc (.cells #[.slice da nd cd, .slice ca nc cc, .slice la nl lc] 29) = W2 := ⟨_, rfl⟩
  obtain ⟨hB2, hm2⟩ := three.out W2 hW2
  have HM2 := Lib.hid hm2
  obtain ⟨-, x0, x1, x2⟩ := hT3 hm2 (Below.refl _ _)
  have HSR2 := Lib.hid (StoR.on hsr hB2)
  have HGM2 := Lib.hid (ModR.on gm hB2)
  have HGL2 := Lib.hid (SlR.on (RowC.keeps IntC.keeps) (RowC.widens IntC.widens) gl hB2)
  have HB2 := Lib.hid (bgo c1 hB2)
  clear hsr gm gl hB2 c1 hm2
  go_wp2_with fail
  clear hW2
  refine (iBackjump _ s l W2 HSR2.out HSZ.out).mono ?_
  rintro e W3 ⟨rs, D, ys, rows, rfl, hcs, -, hB⟩
  have hx3 := hcs.read
  rw [HX.out] at hx3
  rw [HOK.out]
  obtain ⟨dx, cx, lx, ddx, ccx, llx, rfl, gmx, glx⟩ := hx3.parts
  obtain ⟨md, hmd⟩ : ∃ md, X.model.doms.length = md := ⟨_, rfl⟩
  obtain ⟨mc, hmc⟩ : ∃ mc, X.model.cons.length = mc := ⟨_, rfl⟩
  obtain ⟨ml, hml⟩ : ∃ ml, X.levels.length = ml := ⟨_, rfl⟩
  have HNX := Lib.hid (And.intro hmd (And.intro hmc hml))
  rw [hmd, hmc, hml] at hx3
  rw [hmd, hmc] at gmx
  rw [hml] at glx
  rw [hmd, hmc, hml]
  clear hmd hmc hml hcs
  obtain ⟨W4, hW4⟩ : ∃ W4, W3.alloc (.cells #[.slice dx md ddx, .slice cx mc ccx, .slice lx ml llx] 29) = W4 := ⟨_, rfl⟩
  obtain ⟨hB4, hm4⟩ := three.out W4 hW4
  have hB24 := bgo hB hB4
  clear x0 x1 x2
  obtain ⟨hm4', x0, x1, x2⟩ := hT3 HM2.out hB24
  have HM4 := Lib.hid hm4'
  have HX4 := Lib.hid hm4
  have HSR4 := Lib.hid (StoR.on HSR2.out hB24)
  have HGM4 := Lib.hid (ModR.on HGM2.out hB24)
  have HGL4 := Lib.hid (SlR.on (RowC.keeps IntC.keeps) (RowC.widens IntC.widens) HGL2.out hB24)
  have HXR4 := Lib.hid (StoR.on hx3 hB4)
  have HXM4 := Lib.hid (ModR.on gmx hB4)
  have HXL4 := Lib.hid (SlR.on (RowC.keeps IntC.keeps) (RowC.widens IntC.widens) glx hB4)
  have HB4 := Lib.hid (bgo HB2.out hB24)
  clear hm4 hm4' hx3 gmx glx hB hB4 hB24 HM2 HSR2 HGM2 HGL2 HB2
  go_wp2_with fail
  clear hW4
  refine (sBackjump _ s l W4 HSR4.out HSZ.out).mono ?_
  rintro e W5 ⟨rs, rfl, hy5, hB⟩
  rw [HX.out] at hy5
  rw [HOK.out]
  obtain ⟨dy, cy, ly, ddy, ccy, lly, rfl, -, -⟩ := hy5.parts
  rw [HNX.out.1, HNX.out.2.1, HNX.out.2.2] at hy5
  rw [HNX.out.1, HNX.out.2.1, HNX.out.2.2]
  obtain ⟨W6, hW6⟩ : ∃ W6, W5.alloc (.cells #[.slice dy md ddy, .slice cy mc ccy, .slice ly ml lly] 29) = W6 := ⟨_, rfl⟩
  obtain ⟨hB6, hm6⟩ := three.out W6 hW6
  have hB46 := bgo hB hB6
  clear x0 x1 x2
  have HM6 := Lib.hid (hT3 HM4.out hB46).1
  have HX6 := Lib.hid (hT3 HX4.out hB46).1
  have HY6 := Lib.hid hm6
  have HSR6 := Lib.hid (StoR.on HSR4.out hB46)
  have HGM6 := Lib.hid (ModR.on HGM4.out hB46)
  have HGL6 := Lib.hid (SlR.on (RowC.keeps IntC.keeps) (RowC.widens IntC.widens) HGL4.out hB46)
  have HXR6 := Lib.hid (StoR.on HXR4.out hB46)
  have HXM6 := Lib.hid (ModR.on HXM4.out hB46)
  have HXL6 := Lib.hid (SlR.on (RowC.keeps IntC.keeps) (RowC.widens IntC.widens) HXL4.out hB46)
  have HYR6 := Lib.hid (StoR.on hy5 hB6)
  have HB6 := Lib.hid (bgo HB4.out hB46)
  obtain ⟨-, x0, x1, x2⟩ := hT3 HX6.out (Below.refl _ _)
  obtain ⟨-, y0, y1, y2⟩ := hT3 HY6.out (Below.refl _ _)
  clear hy5 hm6 hB hB6 hB46 HM4 HX4 HSR4 HGM4 HGL4 HXR4 HXM4 HXL4 HB4
  have hbb : (ok != ok) = false := by simp
  have hbe : (ok == ok) = true := by simp
  go_wp2_with fail
  clear hW6
  refine (lequalStores_b _ _ X X W6 true (decide_eq_true rfl) HXR6.out HYR6.out).mono ?_
  rintro e W7 ⟨rfl, hB⟩
  have HM7 := Lib.hid (hT3 HM6.out hB).1
  have HX7 := Lib.hid (hT3 HX6.out hB).1
  have HY7 := Lib.hid (hT3 HY6.out hB).1
  have HSR7 := Lib.hid (StoR.on HSR6.out hB)
  have HGM7 := Lib.hid (ModR.on HGM6.out hB)
  have HGL7 := Lib.hid (SlR.on (RowC.keeps IntC.keeps) (RowC.widens IntC.widens) HGL6.out hB)
  have HXR7 := Lib.hid (StoR.on HXR6.out hB)
  have HXM7 := Lib.hid (ModR.on HXM6.out hB)
  have HXL7 := Lib.hid (SlR.on (RowC.keeps IntC.keeps) (RowC.widens IntC.widens) HXL6.out hB)
  have HYR7 := Lib.hid (StoR.on HYR6.out hB)
  have HB7 := Lib.hid (bgo HB6.out hB)
  clear x0 x1 x2 y0 y1 y2 hB HM6 HX6 HY6 HSR6 HGM6 HGL6 HXR6 HXM6 HXL6 HYR6 HB6
  obtain ⟨-, x0, x1, x2⟩ := hT3 HM7.out (Below.refl _ _)
  go_wp2_with fail
  cases tv : vstoF s
  · refine (iValidStore_b _ s W7 false tv HSR7.out).mono ?_
    rintro e W8 ⟨rfl, hB⟩
    clear x0 x1 x2 tv
    obtain ⟨-, x0, x1, x2⟩ := hT3 HX7.out hB
    obtain ⟨-, y0, y1, y2⟩ := hT3 HY7.out hB
    go_wp2_with fail
    refine (lequalStores_b _ _ X X W8 true (decide_eq_true rfl) (StoR.on HXR7.out hB) (StoR.on HYR7.out hB)).mono ?_
    rintro e W9 ⟨rfl, hB9⟩
    go_wp2_with fail
    go_ret
    exact ⟨rfl, bgo (bgo HB7.out hB) hB9⟩
  refine (iValidStore_b _ s W7 true tv HSR7.out).mono ?_
  rintro e W8 ⟨rfl, hB⟩
  have HX8 := Lib.hid (hT3 HX7.out hB).1
  have HM8 := Lib.hid (hT3 HM7.out hB).1
  have HSR8 := Lib.hid (StoR.on HSR7.out hB)
  have HGM8 := Lib.hid (ModR.on HGM7.out hB)
  have HGL8 := Lib.hid (SlR.on (RowC.keeps IntC.keeps) (RowC.widens IntC.widens) HGL7.out hB)
  have HXR8 := Lib.hid (StoR.on HXR7.out hB)
  have HXM8 := Lib.hid (ModR.on HXM7.out hB)
  have HXL8 := Lib.hid (SlR.on (RowC.keeps IntC.keeps) (RowC.widens IntC.widens) HXL7.out hB)
  have HB8 := Lib.hid (bgo HB7.out hB)
  clear x0 x1 x2 hB HM7 HX7 HY7 HSR7 HGM7 HGL7 HXR7 HXM7 HXL7 HYR7 HB7
  obtain ⟨-, x0, x1, x2⟩ := hT3 HX8.out (Below.refl _ _)
  obtain ⟨-, y0, y1, y2⟩ := hT3 HM8.out (Below.refl _ _)
  cases ti : inB l 0 ((nl : Int) - 1)
  · obtain rfl : ok = false := by rw [← HOK.out]; unfold jumpOk; rw [tv, HN.out.2.2, ti]; rfl
    have hXs : decide (X = s) = true := decide_eq_true (by rw [← HX.out]; unfold jumpS; rw [tv, HN.out.2.2, ti]; rfl)
    have HXS := Lib.hid hXs
    have hll : l < 0 ∨ (0 ≤ l ∧ (nl : Int) ≤ l) := by unfold inB at ti; simp at ti; omega
    clear ti tv hXs
    go_wp2_with fail
    refine (lequalStores_b _ _ X s W8 true HXS.out HXR8.out HSR8.out).mono ?_
    rintro e W9 ⟨rfl, hB⟩
    clear x0 x1 x2 y0 y1 y2
    obtain ⟨-, y0, y1, y2⟩ := hT3 HM8.out hB
    rcases hll with hl | ⟨hl, hl2⟩
    · have t1 : decide (l < 0) = true := decide_eq_true hl
      clear hl
      go_wp2_with fail
      go_ret
      exact ⟨rfl, bgo HB8.out hB⟩
    · have t1 : decide (l < 0) = false := decide_eq_false (by omega)
      have t2 : decide ((nl : Int) ≤ l) = true := decide_eq_true hl2
      clear hl hl2
      go_wp2_with fail
      go_ret
      exact ⟨rfl, bgo HB8.out hB⟩
  · obtain rfl : ok = true := by rw [← HOK.out]; unfold jumpOk; rw [tv, HN.out.2.2, ti]; rfl
    have hl2 : ((l.toNat : Nat) : Int) = l ∧ l.toNat < nl := by unfold inB at ti; simp at ti; omega
    have hXe : X = ⟨s.model, s.levels.take (l.toNat + 1)⟩ := by rw [← HX.out]; unfold jumpS; rw [tv, HN.out.2.2, ti]; rfl
    obtain ⟨j, hj⟩ : ∃ j : Nat, l.toNat = j := ⟨_, rfl⟩
    rw [hj] at hl2 hXe
    obtain ⟨hl2, hjn⟩ := hl2
    subst hl2
    have HXL := Lib.hid (show decide (X.levels = s.levels.take (j + 1)) = true from decide_eq_true (by rw [hXe]))
    have HXM := Lib.hid (show decide (X.model = s.model) = true from decide_eq_true (by rw [hXe]))
    obtain rfl : ml = j + 1 := by rw [← HNX.out.2.2, hXe]; show (s.levels.take (j + 1)).length = j + 1; rw [List.length_take, HN.out.2.2]; omega
    have hwj : IntKind.i64.wrap ((j : Int) + 1) = (j : Int) + 1 := by rw [IntKind.wrap_i64]; omega
    have hee : ((((j + 1 : Nat) : Int)) == ((j : Int) + 1)) = true := by simp
    have hjl : j + 1 ≤ lc := by omega
    have hjI : (j : Int) + 1 ≤ (lc : Int) := by omega
    have hjT : ((j : Int) + 1).toNat = j + 1 := by omega
    have hj0 : (0 : Int) ≤ (j : Int) + 1 := by omega
    have HCUT := Lib.hid (SlR.cut (m := j + 1) HGL8.out (by omega))
    have s2 : ∀ p : Later W8, p.val.cell? ⟨W3.heap.size, 2, none⟩ = some (.slice lx (j + 1) llx) := fun p => (HX8.out.below_ p.below HX8.out.lt).at_ 2 rfl
    have s0 : ∀ p : Later W8, p.val.cell? ⟨W3.heap.size, 0, none⟩ = some (.slice dx md ddx) := fun p => (HX8.out.below_ p.below HX8.out.lt).at_ 0 rfl
    have s1 : ∀ p : Later W8, p.val.cell? ⟨W3.heap.size, 1, none⟩ = some (.slice cx mc ccx) := fun p => (HX8.out.below_ p.below HX8.out.lt).at_ 1 rfl
    have r0 : ∀ p : Later W8, p.val.cell? ⟨W1.heap.size, 0, none⟩ = some (.slice da nd cd) := fun p => (HM8.out.below_ p.below HM8.out.lt).at_ 0 rfl
    have r1 : ∀ p : Later W8, p.val.cell? ⟨W1.heap.size, 1, none⟩ = some (.slice ca nc cc) := fun p => (HM8.out.below_ p.below HM8.out.lt).at_ 1 rfl
    have r2 : ∀ p : Later W8, p.val.cell? ⟨W1.heap.size, 2, none⟩ = some (.slice la nl lc) := fun p => (HM8.out.below_ p.below HM8.out.lt).at_ 2 rfl
    clear ti tv hXe hj x0 x1 x2 y0 y1 y2
    go_wp2_with fail
    refine wp_region_later (by kernel_rfl) (by kernel_rfl) ?_
    repeat (go_big_quiet_step (first
      | (go_at_call 9; exact calls_later (lequalLists_b _ _ _ _ _ _ X.levels (s.levels.take (j + 1)) _ true HXL.out (SlR.on (RowC.keeps IntC.keeps) (RowC.widens IntC.widens) HXL8.out (Later.below _)) (SlR.on (RowC.keeps IntC.keeps) (RowC.widens IntC.widens) HCUT.out (Later.below _))))
      | (go_at_call 10; exact calls_later (lequalModels_b _ _ X.model s.model _ true HXM.out (ModR.on HXM8.out (Later.below _)) (ModR.on HGM8.out (Later.below _))))))
    refine wpQuiet_nil ?_
    intro w5 hw'
    obtain ⟨⟨w6, hb5⟩, hw''⟩ := hw'
    subst hw''
    go_wp2_with fail
    go_ret
    exact ⟨rfl, bgo HB8.out hb5⟩

set_option maxRecDepth 100000 in
theorem lifted (os : Os) (started : os.Started) (H : Type) (enc : TypeId × Value → H) :
    ReturnsInHanded {} Try.checked os 3 .any (Rows.fnBackjumpSpec.pre6 enc Try.prog Try.f3 Rows.fnBackjumpRow.domain false) (Rows.fnBackjumpSpec.post enc Try.prog Try.f3 false true false false) := by
  refine returnsInHanded_of_change (C := Try.checked) own started (by kernel_rfl) Try.func3
    (ChangeSpec.witness6 (enc := enc) (C := Try.checked) false ⟨#[], #[.slice none 0 0], []⟩ 8 (by kernel_rfl) (by kernel_rfl) (by kernel_rfl) (by kernel_rfl)) ?_
  intro W base args ds gs before hval0 hW hcnd _
  have hval : ∀ (j : Nat) t v, Try.f3.params[j]? = some t → args[j]? = some v → Value.okWide Try.prog W .any base t v := hval0
  have hW' := hW
  obtain ⟨p, q, hA0, hV, rfl, hfz, hnd⟩ := hW
  have hA : DataW.TrodAll enc Try.prog W 0 (fun _ => true) true Try.f3.params.toList args.toList ds p := hA0
  rw [Try.params3] at hA hval
  obtain ⟨v0, vs0, d0, ds0, p0, q0, hargs, rfl, rfl, h0, r0⟩ := trodAll_cons hA
  obtain ⟨rfl, rfl, rfl⟩ := trodAll_nil r0
  obtain rfl : args = #[v0] := by cases args; simp_all
  obtain ⟨rfl, rfl⟩ := trodVars_none hV
  have k0 := h0
  have l0 : ∀ x ∈ p0, x.block < W.heap.size := fun x hx => hW'.lt x (by simp [hx])
  obtain ⟨A0, n0, c0, xs0, rfl, g0⟩ := open_byteS Try.underlying22 Try.underlying5 (by kernel_rfl) (hval 0 22 v0 rfl rfl) k0
  clear hA0 hval0
  refine (walk A0 n0 c0 xs0 g0).mono fun e W' ⟨he, hb⟩ => ?_
  subst he
  exact ⟨_, rfl, _, _, _, [], _, [], hW', trodAll_cons_mk (p := []) (shut_bool Try.underlying4 _) trodAll_mk0, (trodAll_cons_mk (Below.trod laid (by kernel_rfl) (of_decide_eq_true (by kernel_rfl)) h0 hb l0) trodAll_mk0), rfl, hb.frame _, fun h => by cases h⟩

theorem over : Rows.fnBackjumpRow.holds Try.pinned (OpenSpec.ofChange Rows.fnBackjumpSpec) :=
  OpenClaim.holds_of_wide 3 Try.f3 rfl rfl rfl rfl rfl rfl rfl ⟨rfl, rfl, rfl, rfl, rfl⟩ rfl rfl rfl rfl rfl (by kernel_rfl) Try.func3 (by kernel_rfl)
    (of_decide_eq_true (by kernel_rfl)) (by unfold Func.isWrapper; first | (rw [if_pos (by decide +kernel)]; kernel_rfl) | (rw [if_neg (by decide +kernel)]; exact ⟨rfl, rfl⟩))
    (fun os started H enc _ => lifted os started H enc)

/-- The statement. -/
theorem proved : Rows.FnBackjumpSaid :=
  over
#print axioms proved
end Go.Proofs.Ytjpcdbdaimonlaa.fnBackjump
