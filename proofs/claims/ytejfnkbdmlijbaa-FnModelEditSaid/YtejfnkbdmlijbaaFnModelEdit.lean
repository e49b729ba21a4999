/- FnModelEdit: for every input the law returns true and its arguments read as before; no further condition. -/
import Derived.Test.YtejfnkbdmlijbaaRows
import Derived.WalkKit
import Derived.ProofKit
import Derived.OpenShut
import Derived.Carry
import Derived.StillTailTactics
import Derived.Test.YtejfnkbdmlijbaaDrawO
import Derived.Test.YtejfnkbdmlijbaaWithI
import Derived.Test.YtejfnkbdmlijbaaOpenC
namespace Go.Proofs.Ytejfnkbdmlijbaa.fnModelEdit
open Go.ChangeShapes Go.WideShapes Go.ChangeAt Go.RowKit
open Go.Shelf
set_option linter.unusedVariables false
set_option maxRecDepth 100000

theorem own : ownKnob Try.prog.godebug = none := by kernel_rfl
theorem laid : laidOutB Try.prog = true := by kernel_rfl

theorem lequalInts_b (A B : Option Addr) (n m c d : Nat) (xs ys : List Int) (w : World) (b : Bool) (h : decide (xs = ys) = b) (hx : SlR IntC w w.heap.size A n xs) (hy : SlR IntC w w.heap.size B m ys) :
    Calls Try.prog 23 #[.slice A n c, .slice B m d] w fun e w' => e = .returned (.bool b) ∧ Below w.heap.size w w' := by
  subst h; exact lequalInts A B n m c d xs ys w hx hy
theorem lequalLists (A B : Option Addr) (n m c d : Nat) (xs ys : List (List Int)) (w : World) (hx : SlR (RowC IntC) w w.heap.size A n xs) (hy : SlR (RowC IntC) w w.heap.size B m ys) :
    Calls Try.prog 30 #[.slice A n c, .slice B m d] w fun e w' => e = .returned (.bool (decide (xs = ys))) ∧ Below w.heap.size w w' := by
  have hn := hx.le
  have hm := hy.le
  have hlx := Lib.hid hx.len
  have hly := Lib.hid hy.len
  by_cases hnm : n = m
  · subst hnm
    have hne : ((n : Int) != (n : Int)) = false := by simp
    go_enter Try.func30, Try.ntmps30
    go_wp2_with fail
    go_loopw [5] (fun i wr => ∃ k : Nat, k ≤ n ∧ i = .int .i64 k ∧ Hid (EqB xs ys k) ∧ Below w.heap.size w wr) (fun i _ => n - (intOf i).toNat)
    case atStart => exact ⟨0, by omega, rfl, EqB.zero _ _, Below.refl _ _⟩
    case round =>
      obtain ⟨k, hk, rfl, hq, hb⟩ := hrel
      by_cases hlt : k < n
      · obtain ⟨ab, ao, x, u, rfl, hab, hxk, hcx, A1, c1, rfl, hx1⟩ := SlR.at_ (hx.below (RowC.keeps IntC.keeps) hb) hlt
        obtain ⟨bb, bo, y, u, rfl, hbb, hyk, hcy, B1, d1, rfl, hy1⟩ := SlR.at_ (hy.below (RowC.keeps IntC.keeps) hb) hlt
        have HX := Lib.hid hxk
        have HY := Lib.hid hyk
        clear hxk hyk
        have hw := hb.size
        have HX1 := Lib.hid (hx1.more IntC.widens hw)
        have HY1 := Lib.hid (hy1.more IntC.widens hw)
        have q0 : ∀ p : Later wr, p.val.cell? ⟨ab, ao + k, none⟩ = some (.slice A1 x.length c1) := fun p => p.cell (by omega) hcx
        have r0 : ∀ p : Later wr, p.val.cell? ⟨bb, bo + k, none⟩ = some (.slice B1 y.length d1) := fun p => p.cell (by omega) hcy
        clear hx1 hy1
        cases he : decide (x = y)
        · have HE := Lib.hid he
          clear he
          go_wp2_with fail
          refine wp_region_later (by kernel_rfl) (by kernel_rfl) ?_
          repeat (go_big_quiet_step (first | (go_at_call 23; exact calls_later (lequalInts_b _ _ _ _ _ _ x y _ _ HE.out (SlR.on IntC.keeps IntC.widens HX1.out (Later.below _)) (SlR.on IntC.keeps IntC.widens HY1.out (Later.below _))))))
          refine wpQuiet_nil ?_
          intro w5 hw'
          obtain ⟨⟨w6, hb5⟩, hw''⟩ := hw'
          subst hw''
          go_wp2_with fail
          go_ret
          exact ⟨ret_bool (decide_eq_false (ne_of_at HX.out HY.out (of_decide_eq_false HE.out))).symm, bgo hb hb5⟩
        · have HE := Lib.hid he
          clear he
          go_wp2_with fail
          refine wp_region_later (by kernel_rfl) (by kernel_rfl) ?_
          repeat (go_big_quiet_step (first | (go_at_call 23; exact calls_later (lequalInts_b _ _ _ _ _ _ x y _ _ HE.out (SlR.on IntC.keeps IntC.widens HX1.out (Later.below _)) (SlR.on IntC.keeps IntC.widens HY1.out (Later.below _))))))
          refine wpQuiet_nil ?_
          intro w5 hw'
          obtain ⟨⟨w6, hb5⟩, hw''⟩ := hw'
          subst hw''
          go_wp2_with fail
          go_roundw
          case rel => exact ⟨k + 1, by omega, by go_num, EqB.succ hq.out (by rw [HX.out, HY.out, of_decide_eq_true HE.out]), bgo hb hb5⟩
          case measure => simp [intOf]; omega
      · obtain rfl : k = n := by omega
        go_wp2_with fail
        go_ret
        exact ⟨ret_bool (decide_eq_true (EqB.done hq.out hlx.out hly.out)).symm, hb⟩
  · have hne : ((n : Int) != (m : Int)) = true := by simp; omega
    have HN := Lib.hid hnm
    clear hnm
    go_enter Try.func30, Try.ntmps30
    go_wp2_with fail
    go_ret
    exact ⟨ret_bool (decide_eq_false (fun h => HN.out (by rw [← hlx.out, ← hly.out, h]))).symm, Below.refl _ _⟩
set_option maxHeartbeats 4000000 in
theorem lequalConstraints (us vs : List Value) (c d : Con) (w : World) (h : ConR w w.heap.size us c) (k : ConR w w.heap.size vs d) :
    Calls Try.prog 20 #[.agg us.toArray, .agg vs.toArray] w fun e w' => e = .returned (.bool (decide (c = d))) ∧ Below w.heap.size w w' := by
  obtain ⟨va, aa, ra, cv, ca, cr, rfl, g1, g2, g3, -⟩ := h
  obtain ⟨vb, ab, rb, dv, da, dr, rfl, k1, k2, k3, -⟩ := k
  obtain ⟨wa, hwa⟩ : ∃ wa, wa = (w.alloc (.cells #[.int .i64 c.kind, .slice va c.vars.length cv, .slice aa c.args.length ca, .int .i64 c.bound, .slice ra c.rows.length cr] 35)).alloc (.cells #[.int .i64 d.kind, .slice vb d.vars.length dv, .slice ab d.args.length da, .int .i64 d.bound, .slice rb d.rows.length dr] 35) := ⟨_, rfl⟩
  have hb0 : Below w.heap.size w wa := by rw [hwa]; exact b_alloc2 _ _ _
  have hsz : wa.heap.size = w.heap.size + 1 + 1 := by rw [hwa, size_alloc_, size_alloc_]
  have ha : CBlk wa w.heap.size (.int .i64 c.kind) (.slice va c.vars.length cv) (.slice aa c.args.length ca) (.int .i64 c.bound) (.slice ra c.rows.length cr) := by
    rw [hwa]; exact (CBlk.new w _ _ _ _ _).below (b_alloc _ _) (by rw [size_alloc_]; omega)
  have hd : CBlk wa (w.heap.size + 1) (.int .i64 d.kind) (.slice vb d.vars.length dv) (.slice ab d.args.length da) (.int .i64 d.bound) (.slice rb d.rows.length dr) := by
    rw [hwa]
    have := CBlk.new (w.alloc (.cells #[.int .i64 c.kind, .slice va c.vars.length cv, .slice aa c.args.length ca, .int .i64 c.bound, .slice ra c.rows.length cr] 35)) (.int .i64 d.kind) (.slice vb d.vars.length dv) (.slice ab d.args.length da) (.int .i64 d.bound) (.slice rb d.rows.length dr)
    rw [size_alloc_] at this
    exact this
  have HA := Lib.hid ha
  have HD := Lib.hid hd
  have G1 := Lib.hid g1
  have G2 := Lib.hid g2
  have G3 := Lib.hid g3
  have K1 := Lib.hid k1
  have K2 := Lib.hid k2
  have K3 := Lib.hid k3
  clear ha hd g1 g2 g3 k1 k2 k3
  by_cases e0 : c.kind = d.kind
  case neg =>
    have hne : (c.kind == d.kind) = false := by simpa using e0
    have hE : decide (c = d) = false := decide_eq_false (fun h => e0 (by rw [h]))
    rw [hE]
    clear hE e0
    go_enter Try.func20, Try.ntmps20
    go_wp2_with fail
    go_ret
    exact ⟨rfl, by rw [← hwa]; exact hb0⟩
  have hne0 : (c.kind == d.kind) = true := by simpa using e0
  have E0 := Lib.hid e0
  clear e0
  go_enter Try.func20, Try.ntmps20
  go_wp2_with fail
  rw [← hwa]
  clear hwa
  refine (lequalInts _ _ _ _ _ _ c.vars d.vars _ (IntR.on G1.out hb0) (IntR.on K1.out hb0)).mono ?_
  rintro e w1 ⟨rfl, hb1⟩
  have z1 := hb1.size
  have ha1 := HA.out.below hb1 (by omega)
  have hd1 := HD.out.below hb1 (by omega)
  obtain ⟨-, -, a2, a3, a4⟩ := ha1.cells
  obtain ⟨-, -, b2, b3, b4⟩ := hd1.cells
  have HA1 := Lib.hid ha1
  have HD1 := Lib.hid hd1
  have hc1 := bgo hb0 hb1
  clear ha1 hd1
  cases e1 : decide (c.vars = d.vars)
  · have hE : decide (c = d) = false := decide_eq_false (fun h => of_decide_eq_false e1 (by rw [h]))
    have HE := Lib.hid hE
    have E1 := Lib.hid e1
    clear hE e1
    go_wp2_with fail
    go_ret
    exact ⟨ret_bool HE.out.symm, hc1⟩
  have E1 := Lib.hid e1
  clear e1
  go_wp2_with fail
  refine (lequalInts _ _ _ _ _ _ c.args d.args _ (IntR.on G2.out hc1) (IntR.on K2.out hc1)).mono ?_
  rintro e w2 ⟨rfl, hb2⟩
  have z2 := hb2.size
  have ha2 := HA1.out.below hb2 (by omega)
  have hd2 := HD1.out.below hb2 (by omega)
  clear a2 a3 a4 b2 b3 b4
  obtain ⟨-, -, -, a3, a4⟩ := ha2.cells
  obtain ⟨-, -, -, b3, b4⟩ := hd2.cells
  have hc2 := bgo hc1 hb2
  clear ha2 hd2
  cases e2 : decide (c.args = d.args)
  · have hE : decide (c = d) = false := decide_eq_false (fun h => of_decide_eq_false e2 (by rw [h]))
    have HE := Lib.hid hE
    have E2 := Lib.hid e2
    clear hE e2
    go_wp2_with fail
    go_ret
    exact ⟨ret_bool HE.out.symm, hc2⟩
  have E2 := Lib.hid e2
  clear e2
  by_cases e3 : c.bound = d.bound
  case neg =>
    have hne : (c.bound == d.bound) = false := by simpa using e3
    have hE : decide (c = d) = false := decide_eq_false (fun h => e3 (by rw [h]))
    have HE := Lib.hid hE
    clear hE e3
    go_wp2_with fail
    go_ret
    exact ⟨ret_bool HE.out.symm, hc2⟩
  have hne3 : (c.bound == d.bound) = true := by simpa using e3
  have E3 := Lib.hid e3
  clear e3
  go_wp2_with fail
  refine (lequalLists _ _ _ _ _ _ c.rows d.rows _ (SlR.on (RowC.keeps IntC.keeps) (RowC.widens IntC.widens) G3.out hc2) (SlR.on (RowC.keeps IntC.keeps) (RowC.widens IntC.widens) K3.out hc2)).mono ?_
  rintro e w3 ⟨rfl, hb3⟩
  have hc3 := bgo hc2 hb3
  cases e4 : decide (c.rows = d.rows)
  · have hE : decide (c = d) = false := decide_eq_false (fun h => of_decide_eq_false e4 (by rw [h]))
    have HE := Lib.hid hE
    have E4 := Lib.hid e4
    clear hE e4
    go_wp2_with fail
    go_ret
    exact ⟨ret_bool HE.out.symm, hc3⟩
  have hE : decide (c = d) = true := decide_eq_true (by
    rcases c with ⟨k, v, a, b, r⟩
    rcases d with ⟨k', v', a', b', r'⟩
    have h0 := E0.out
    have h1 := of_decide_eq_true E1.out
    have h2 := of_decide_eq_true E2.out
    have h3 := E3.out
    have h4 := of_decide_eq_true e4
    simp only at h0 h1 h2 h3 h4
    subst h0 h1 h2 h3 h4
    rfl)
  have HE := Lib.hid hE
  have E4 := Lib.hid e4
  clear hE e4
  go_wp2_with fail
  go_ret
  exact ⟨ret_bool HE.out.symm, hc3⟩
theorem lequalConstraints_b (us vs : List Value) (c d : Con) (w : World) (b : Bool) (hb : decide (c = d) = b) (h : ConR w w.heap.size us c) (k : ConR w w.heap.size vs d) :
    Calls Try.prog 20 #[.agg us.toArray, .agg vs.toArray] w fun e w' => e = .returned (.bool b) ∧ Below w.heap.size w w' := by
  subst hb; exact lequalConstraints us vs c d w h k
set_option maxHeartbeats 4000000 in
theorem lequalModels (us vs : List Value) (c d : Mod) (w : World) (h : ModR w w.heap.size us c) (k : ModR w w.heap.size vs d) :
    Calls Try.prog 17 #[.agg us.toArray, .agg vs.toArray] w fun e w' => e = .returned (.bool (decide (c = d))) ∧ Below w.heap.size w w' := by
  obtain ⟨A1, B1, ca, cb, rfl, g1, g2, -⟩ := h
  obtain ⟨A2, B2, da, db, rfl, k1, k2, -⟩ := k
  obtain ⟨wa, hwa⟩ : ∃ wa, wa = (w.alloc (.cells #[.slice A1 c.doms.length ca, .slice B1 c.cons.length cb] 26)).alloc (.cells #[.slice A2 d.doms.length da, .slice B2 d.cons.length db] 26) := ⟨_, rfl⟩
  have hb0 : Below w.heap.size w wa := by rw [hwa]; exact b_alloc2 _ _ _
  have hsz : wa.heap.size = w.heap.size + 1 + 1 := by rw [hwa, size_alloc_, size_alloc_]
  have ha : TBlk 26 wa w.heap.size #[.slice A1 c.doms.length ca, .slice B1 c.cons.length cb] := by rw [hwa]; exact (TBlk.new _ _ _).alloc_ _
  have hd : TBlk 26 wa (w.heap.size + 1) #[.slice A2 d.doms.length da, .slice B2 d.cons.length db] := by
    have := TBlk.new (w.alloc (.cells #[.slice A1 c.doms.length ca, .slice B1 c.cons.length cb] 26)) #[.slice A2 d.doms.length da, .slice B2 d.cons.length db] 26
    rw [size_alloc_] at this
    rw [hwa]; exact this
  have HA := Lib.hid ha
  have HD := Lib.hid hd
  have G1 := Lib.hid (IntR.on g1 hb0)
  have K1 := Lib.hid (IntR.on k1 hb0)
  have G2 := Lib.hid (SlK.on_ ConR.keeps ConR.widens g2 hb0)
  have K2 := Lib.hid (SlK.on_ ConR.keeps ConR.widens k2 hb0)
  clear ha hd g1 g2 k1 k2
  go_enter Try.func17, Try.ntmps17
  go_wp2_with fail
  rw [← hwa]
  clear hwa
  refine (lequalInts _ _ _ _ _ _ c.doms d.doms _ G1.out K1.out).mono ?_
  rintro e w1 ⟨rfl, hb1⟩
  have z1 := hb1.size
  have hA1 := Lib.hid (HA.out.below_ hb1 (by omega))
  have hD1 := Lib.hid (HD.out.below_ hb1 (by omega))
  have m0 := hA1.out.at_ 1 rfl
  have m1 := hD1.out.at_ 1 rfl
  have hb01 := Lib.hid (bgo hb0 hb1)
  have hz1 := Lib.hid (show w.heap.size + 1 + 1 ≤ w1.heap.size by omega)
  have GX2 := Lib.hid (SlK.on_ ConR.keeps ConR.widens G2.out hb1)
  have GY2 := Lib.hid (SlK.on_ ConR.keeps ConR.widens K2.out hb1)
  clear hb0 hb1 HA HD G1 K1 G2 K2 hsz
  cases e1 : decide (c.doms = d.doms)
  · have HE := Lib.hid (show decide (c = d) = false from decide_eq_false (fun h => of_decide_eq_false e1 (by rw [h])))
    clear e1
    go_wp2_with fail
    go_ret
    exact ⟨ret_bool HE.out.symm, hb01.out⟩
  have E1 := of_decide_eq_true e1
  have HNE := Lib.hid (show ¬ c.cons = d.cons → decide (c = d) = false from fun h => decide_eq_false (fun h2 => h (by rw [h2])))
  have HEQ := Lib.hid (show c.cons = d.cons → decide (c = d) = true from fun h => decide_eq_true (by
    rcases c with ⟨c1, c2⟩
    rcases d with ⟨d1, d2⟩
    simp only at E1 h
    rw [E1, h]))
  clear e1 E1
  have hlx := Lib.hid (show c.cons.length = c.cons.length from rfl)
  have hly := Lib.hid (show d.cons.length = d.cons.length from rfl)
  obtain ⟨xs, hxs⟩ : ∃ xs, c.cons = xs := ⟨_, rfl⟩
  obtain ⟨ys, hys⟩ : ∃ ys, d.cons = ys := ⟨_, rfl⟩
  rw [hxs] at GX2 hA1 m0 hlx HNE HEQ ⊢
  rw [hys] at GY2 hD1 m1 hly HNE HEQ ⊢
  clear hxs hys
  obtain ⟨n, hnx⟩ : ∃ n, xs.length = n := ⟨_, rfl⟩
  obtain ⟨m, hmx⟩ : ∃ m, ys.length = m := ⟨_, rfl⟩
  replace hlx := Lib.hid hnx
  replace hly := Lib.hid hmx
  rw [hnx] at GX2 hA1 m0
  rw [hmx] at GY2 hD1 m1
  clear hnx hmx
  have hn := GX2.out.le
  have hm := GY2.out.le
  by_cases hnm : n = m
  · subst hnm
    have hne : ((n : Int) != (n : Int)) = false := by simp
    go_wp2_with fail
    go_loopw [5] (fun i wr => ∃ k : Nat, k ≤ n ∧ i = .int .i64 k ∧ Hid (EqB xs ys k) ∧ Below w1.heap.size w1 wr) (fun i _ => n - (intOf i).toNat)
    case atStart => exact ⟨0, by omega, rfl, EqB.zero _ _, Below.refl _ _⟩
    case round =>
      obtain ⟨k, hk, rfl, hq, hb⟩ := hrel
      have hwz := hb.size
      have hwq := hz1.out
      by_cases hlt : k < n
      · obtain ⟨ab, ao, x, us, rfl, hab, hxk, hul, hcx, hx1⟩ := SlK.at_ (GX2.out.below ConR.keeps hb) hlt
        obtain ⟨bb, bo, y, vs, rfl, hbb, hyk, hvl, hcy, hy1⟩ := SlK.at_ (GY2.out.below ConR.keeps hb) hlt
        have HX := Lib.hid hxk
        have HY := Lib.hid hyk
        have hw := hb.size
        have HX1 := Lib.hid (ConR.widens _ _ _ _ _ hw hx1)
        have HY1 := Lib.hid (ConR.widens _ _ _ _ _ hw hy1)
        obtain ⟨va, aa, ra, cv, ca, cr, rfl, -⟩ := hx1
        obtain ⟨vb, ab2, rb, dv, da, dr, rfl, -⟩ := hy1
        have q0 : ∀ p : Later wr, p.val.cell? ⟨ab, ao + k * 5, none⟩ = some _ := fun p => p.cell (by omega) (hcx 0 _ rfl)
        have q1 : ∀ p : Later wr, p.val.cell? ⟨ab, ao + k * 5 + 1, none⟩ = some _ := fun p => p.cell (by omega) (hcx 1 _ rfl)
        have q2 : ∀ p : Later wr, p.val.cell? ⟨ab, ao + k * 5 + 2, none⟩ = some _ := fun p => p.cell (by omega) (hcx 2 _ rfl)
        have q3 : ∀ p : Later wr, p.val.cell? ⟨ab, ao + k * 5 + 3, none⟩ = some _ := fun p => p.cell (by omega) (hcx 3 _ rfl)
        have q4 : ∀ p : Later wr, p.val.cell? ⟨ab, ao + k * 5 + 4, none⟩ = some _ := fun p => p.cell (by omega) (hcx 4 _ rfl)
        have r0 : ∀ p : Later wr, p.val.cell? ⟨bb, bo + k * 5, none⟩ = some _ := fun p => p.cell (by omega) (hcy 0 _ rfl)
        have r1 : ∀ p : Later wr, p.val.cell? ⟨bb, bo + k * 5 + 1, none⟩ = some _ := fun p => p.cell (by omega) (hcy 1 _ rfl)
        have r2 : ∀ p : Later wr, p.val.cell? ⟨bb, bo + k * 5 + 2, none⟩ = some _ := fun p => p.cell (by omega) (hcy 2 _ rfl)
        have r3 : ∀ p : Later wr, p.val.cell? ⟨bb, bo + k * 5 + 3, none⟩ = some _ := fun p => p.cell (by omega) (hcy 3 _ rfl)
        have r4 : ∀ p : Later wr, p.val.cell? ⟨bb, bo + k * 5 + 4, none⟩ = some _ := fun p => p.cell (by omega) (hcy 4 _ rfl)
        have s0 : ∀ p : Later wr, p.val.cell? ⟨w.heap.size, 1, none⟩ = some _ := fun p => p.cell (by omega) ((hA1.out.below_ hb hA1.out.lt).at_ 1 rfl)
        have s1 : ∀ p : Later wr, p.val.cell? ⟨w.heap.size + 1, 1, none⟩ = some _ := fun p => p.cell (by omega) ((hD1.out.below_ hb hD1.out.lt).at_ 1 rfl)
        have s2 : wr.cell? ⟨w.heap.size, 1, none⟩ = some _ := (hA1.out.below_ hb hA1.out.lt).at_ 1 rfl
        clear hxk hyk hcx hcy hul hvl
        cases he : decide (x = y)
        · have HE := Lib.hid he
          clear he
          go_wp2_with fail
          refine wp_region_later (by kernel_rfl) (by kernel_rfl) ?_
          repeat (go_big_quiet_step (first | (go_at_call 20; exact calls_later (lequalConstraints_b _ _ x y _ _ HE.out (ConR.on HX1.out (Later.below _)) (ConR.on HY1.out (Later.below _))))))
          refine wpQuiet_nil ?_
          intro w5 hw'
          obtain ⟨⟨w6, hb5⟩, hw''⟩ := hw'
          subst hw''
          go_wp2_with fail
          go_ret
          exact ⟨ret_bool (HNE.out (fun h => ne_of_at HX.out HY.out (of_decide_eq_false HE.out) h)).symm, bgo hb01.out (bgo hb hb5)⟩
        · have HE := Lib.hid he
          clear he
          go_wp2_with fail
          refine wp_region_later (by kernel_rfl) (by kernel_rfl) ?_
          repeat (go_big_quiet_step (first | (go_at_call 20; exact calls_later (lequalConstraints_b _ _ x y _ _ HE.out (ConR.on HX1.out (Later.below _)) (ConR.on HY1.out (Later.below _))))))
          refine wpQuiet_nil ?_
          intro w5 hw'
          obtain ⟨⟨w6, hb5⟩, hw''⟩ := hw'
          subst hw''
          go_wp2_with fail
          go_roundw
          case rel => exact ⟨k + 1, by omega, by go_num, EqB.succ hq.out (by rw [HX.out, HY.out, of_decide_eq_true HE.out]), bgo hb hb5⟩
          case measure => simp [intOf]; omega
      · obtain rfl : k = n := by omega
        have s2 : wr.cell? ⟨w.heap.size, 1, none⟩ = some _ := (hA1.out.below_ hb hA1.out.lt).at_ 1 rfl
        go_wp2_with fail
        go_ret
        exact ⟨ret_bool (HEQ.out (EqB.done hq.out hlx.out hly.out)).symm, bgo hb01.out hb⟩
  · have hne : ((n : Int) != (m : Int)) = true := by simp; omega
    have HN := Lib.hid hnm
    clear hnm
    go_wp2_with fail
    go_ret
    exact ⟨ret_bool (HNE.out (fun h => HN.out (by rw [← hlx.out, ← hly.out, h]))).symm, hb01.out⟩
theorem hT5 {w w' : World} {b : Nat} {x0 x1 x2 x3 x4 : Value} (h : TBlk 35 w b #[x0, x1, x2, x3, x4]) (hb : Below w.heap.size w w') :
    TBlk 35 w' b #[x0, x1, x2, x3, x4] ∧ w'.cell? ⟨b, 0, none⟩ = some x0 ∧ w'.cell? ⟨b, 1, none⟩ = some x1 ∧ w'.cell? ⟨b, 2, none⟩ = some x2 ∧ w'.cell? ⟨b, 3, none⟩ = some x3 ∧ w'.cell? ⟨b, 4, none⟩ = some x4 := by
  have t := h.below_ hb h.lt
  exact ⟨t, t.at_ 0 rfl, t.at_ 1 rfl, t.at_ 2 rfl, t.at_ 3 rfl, t.at_ 4 rfl⟩
theorem hT2 {w w' : World} {b : Nat} {x0 x1 : Value} (h : TBlk 26 w b #[x0, x1]) (hb : Below w.heap.size w w') :
    TBlk 26 w' b #[x0, x1] ∧ w'.cell? ⟨b, 0, none⟩ = some x0 ∧ w'.cell? ⟨b, 1, none⟩ = some x1 := by
  have t := h.below_ hb h.lt
  exact ⟨t, t.at_ 0 rfl, t.at_ 1 rfl⟩
theorem iValidModel_b (us : List Value) (m : Mod) (w : World) (b : Bool) (hb : vmodF m = b) (h : ModR w w.heap.size us m) :
    Calls Try.prog 18 #[.agg us.toArray] w fun e w' => e = .returned (.bool b) ∧ Below w.heap.size w w' := by
  subst hb; exact iValidModel us m w h
theorem iValidConstraint_b (us : List Value) (c : Con) (m : Int) (w : World) (b : Bool) (hb : vconstF c m = b) (h : ConR w w.heap.size us c) :
    Calls Try.prog 19 #[.agg us.toArray, .int .i64 m] w fun e w' => e = .returned (.bool b) ∧ Below w.heap.size w w' := by
  subst hb; exact iValidConstraint us c m w h
theorem lequalModels_b (us vs : List Value) (c d : Mod) (w : World) (b : Bool) (hb : decide (c = d) = b) (h : ModR w w.heap.size us c) (k : ModR w w.heap.size vs d) :
    Calls Try.prog 17 #[.agg us.toArray, .agg vs.toArray] w fun e w' => e = .returned (.bool b) ∧ Below w.heap.size w w' := by
  subst hb; exact lequalModels us vs c d w h k
theorem addC_sm {m : Mod} {k : Con} (h : SzM m) (hk : SmD k) : SmMod (addC m k) := ⟨by have := h.2.1; show m.doms.length ≤ _; omega, by have := h.2.2.1; show (m.cons ++ [k]).length ≤ _; rw [List.length_append]; simp; omega, fun x hx => by
  rcases List.mem_append.1 hx with h1 | h1
  · exact (h.2.2.2 x h1).con
  · rw [List.mem_singleton.1 h1]; exact hk.con⟩
theorem addC_val {m : Mod} {k : Con} (h : vmodF (addC m k) = true) : vconstF k m.doms.length = true ∧ outOk (addC m k) m.cons.length = true ∧ outM (addC m k) m.cons.length = m := by
  have h' := h
  unfold vmodF at h
  simp only [Bool.and_eq_true] at h
  obtain ⟨-, h2, h3, -⟩ := h
  have hv := List.all_eq_true.1 h2 k (by simp [addC])
  have ho : outOk (addC m k) m.cons.length = true := by
    unfold outOk
    rw [h', Bool.true_and]
    exact inB_mk ⟨by omega, by simp [addC]⟩
  refine ⟨by unfold vconstF; rw [Bool.and_eq_true]; exact ⟨h3, hv⟩, ho, ?_⟩
  unfold outM
  rw [ho]
  simp only [if_true, Int.toNat_natCast]
  show Mod.mk m.doms ((m.cons ++ [k]).eraseIdx m.cons.length) = m
  rw [List.eraseIdx_append_of_length_le (Nat.le_refl _)]
  simp
set_option maxHeartbeats 1500000 in
theorem walk {W : World} (A0 : Option Addr) (n0 c0 : Nat) (xs0 : List Int) (g0 : CodeA W W.heap.size A0 n0 c0 xs0) :
    Calls Try.prog 4 #[.slice A0 n0 c0] W fun e w' => e = .returned (.bool true) ∧ Below W.heap.size W w' := by
  by_cases hlen : (1048576 : Int) < (n0 : Int)
  · have hd : decide ((1048576 : Int) < (n0 : Int)) = true := decide_eq_true hlen
    clear hlen
    go_enter Try.func4, Try.ntmps4
    go_wp2_with fail
    go_ret
    exact ⟨rfl, Below.refl _ _⟩
  have hd : decide ((1048576 : Int) < (n0 : Int)) = false := decide_eq_false hlen
  go_enter Try.func4, Try.ntmps4
  go_wp2_with fail
  refine (drawWithConstraint _ _ _ _ _ g0).mono ?_
  rintro e W1 ⟨vs, us, m, k, rfl, hom, hok, hsz, hsd, c0⟩
  obtain ⟨vs', e1, hmr⟩ := OwnMod.read hom
  obtain ⟨us', e2, hkr⟩ := OwnCon.read hok
  obtain rfl : vs = vs' := by injection e1 with e1; exact List.toArray_inj e1
  obtain rfl : us = us' := by injection e2 with e2; exact List.toArray_inj e2
  obtain ⟨Ad, Ac, cd, cc, rfl, -⟩ := id hmr
  obtain ⟨A1, A2, A3, c1, c2, c3, rfl, -⟩ := id hkr
  have HSZ := Lib.hid (And.intro hsz hsd)
  clear hom hok hsz hsd e1 e2
  obtain ⟨W2, hW2⟩ : ∃ W2, (W1.alloc (.cells #[.slice Ad m.doms.length cd, .slice Ac m.cons.length cc] 26)).alloc (.cells #[.int .i64 k.kind, .slice A1 k.vars.length c1, .slice A2 k.args.length c2, .int .i64 k.bound, .slice A3 k.rows.length c3] 35) = W2 := ⟨_, rfl⟩
  have hB2 : Below W1.heap.size W1 W2 := by rw [← hW2]; exact b_alloc2 _ _ _
  have HM2 : Hid (TBlk 26 W2 W1.heap.size #[.slice Ad m.doms.length cd, .slice Ac m.cons.length cc]) := by rw [← hW2]; exact Lib.hid ((TBlk.new _ _ _).alloc_ _)
  have HC2 : Hid (TBlk 35 W2 (W1.heap.size + 1) #[.int .i64 k.kind, .slice A1 k.vars.length c1, .slice A2 k.args.length c2, .int .i64 k.bound, .slice A3 k.rows.length c3]) := by rw [← hW2]; exact Lib.hid (TBlk.newAt (by simp))
  obtain ⟨-, x0, x1⟩ := hT2 HM2.out (Below.refl _ _)
  obtain ⟨-, y0, y1, y2, y3, y4⟩ := hT5 HC2.out (Below.refl _ _)
  have HMR2 := Lib.hid (ModR.on hmr hB2)
  have HKR2 := Lib.hid (ConR.on hkr hB2)
  have HB2 := Lib.hid (bgo c0 hB2)
  clear hmr hkr hB2 c0
  go_wp2_with fail
  clear hW2
  refine (iWith _ _ m k W2 HMR2.out HKR2.out HSZ.out.1.sm HSZ.out.2.con).mono ?_
  rintro e W3 ⟨rs, D, xs, rfl, hcm, -, hB⟩
  have hx3 := hcm.read
  obtain ⟨X, hX⟩ : ∃ X, withM m k = X := ⟨_, rfl⟩
  have HX := Lib.hid hX
  rw [hX] at hx3
  clear hX
  obtain ⟨Bd, Bc, bd, bc, rfl, -, hxc, -⟩ := id hx3
  have HXC3 := Lib.hid hxc
  clear hxc
  obtain ⟨W4, hW4⟩ : ∃ W4, W3.alloc (.cells #[.slice Bd X.doms.length bd, .slice Bc X.cons.length bc] 26) = W4 := ⟨_, rfl⟩
  have hB4 : Below W3.heap.size W3 W4 := by rw [← hW4]; exact b_alloc _ _
  have HX4 : Hid (TBlk 26 W4 W3.heap.size #[.slice Bd X.doms.length bd, .slice Bc X.cons.length bc]) := by rw [← hW4]; exact Lib.hid (TBlk.new _ _ _)
  have hB24 := bgo hB hB4
  clear x0 x1 y0 y1 y2 y3 y4
  obtain ⟨hm4, x0, x1⟩ := hT2 HM2.out hB24
  obtain ⟨hc4, y0, y1, y2, y3, y4⟩ := hT5 HC2.out hB24
  have HM4 := Lib.hid hm4
  have HC4 := Lib.hid hc4
  have HMR4 := Lib.hid (ModR.on HMR2.out hB24)
  have HKR4 := Lib.hid (ConR.on HKR2.out hB24)
  have HXR4 := Lib.hid (ModR.on hx3 hB4)
  have HB4 := Lib.hid (bgo HB2.out hB24)
  clear hm4 hc4 hcm hB hB4 hB24 hx3 HM2 HC2 HMR2 HKR2 HB2
  go_wp2_with fail
  clear hW4
  refine (sWith _ _ m k W4 HMR4.out HKR4.out HSZ.out.1.sm HSZ.out.2.con).mono ?_
  rintro e W5 ⟨rs, rfl, how, hB⟩
  obtain ⟨rs', e3, hy5⟩ := OwnMod.read how
  obtain rfl : rs = rs' := by injection e3 with e3; exact List.toArray_inj e3
  rw [HX.out] at hy5
  obtain ⟨Cd, Cc, dd, dc, rfl, -⟩ := id hy5
  obtain ⟨W6, hW6⟩ : ∃ W6, W5.alloc (.cells #[.slice Cd X.doms.length dd, .slice Cc X.cons.length dc] 26) = W6 := ⟨_, rfl⟩
  have hB6 : Below W5.heap.size W5 W6 := by rw [← hW6]; exact b_alloc _ _
  have HY6 : Hid (TBlk 26 W6 W5.heap.size #[.slice Cd X.doms.length dd, .slice Cc X.cons.length dc]) := by rw [← hW6]; exact Lib.hid (TBlk.new _ _ _)
  have hB46 := bgo hB hB6
  clear x0 x1 y0 y1 y2 y3 y4
  have HM6 := Lib.hid (hT2 HM4.out hB46).1
  have HC6 := Lib.hid (hT5 HC4.out hB46).1
  have HX6 := Lib.hid (hT2 HX4.out hB46).1
  have HMR6 := Lib.hid (ModR.on HMR4.out hB46)
  have HKR6 := Lib.hid (ConR.on HKR4.out hB46)
  have HXR6 := Lib.hid (ModR.on HXR4.out hB46)
  have HYR6 := Lib.hid (ModR.on hy5 hB6)
  have HB6 := Lib.hid (bgo HB4.out hB46)
  obtain ⟨-, x0, x1⟩ := hT2 HX6.out (Below.refl _ _)
  obtain ⟨-, y0, y1⟩ := hT2 HY6.out (Below.refl _ _)
  clear how e3 hB hB6 hB46 hy5 HM4 HC4 HX4 HMR4 HKR4 HXR4 HB4
  cases tv : vmodF (addC m k)
  · clear tv
    go_wp2_with fail
    clear hW6
    refine (lequalModels _ _ X X W6 HXR6.out HYR6.out).mono ?_
    rintro e W7 ⟨rfl, hB⟩
    have HXR7 := Lib.hid (ModR.on HXR6.out hB)
    have HYR7 := Lib.hid (ModR.on HYR6.out hB)
    have HB7 := Lib.hid (bgo HB6.out hB)
    clear x0 x1 y0 y1
    obtain ⟨-, x0, x1⟩ := hT2 HX6.out hB
    obtain ⟨-, y0, y1⟩ := hT2 HY6.out hB
    clear hB
    go_wp2_with fail
    refine (lequalModels _ _ X X W7 HXR7.out HYR7.out).mono ?_
    rintro e W8 ⟨rfl, hB⟩
    go_wp2_with fail
    go_ret
    exact ⟨by simp, bgo HB7.out hB⟩
  · have HXE := Lib.hid (show X = addC m k by rw [← HX.out]; unfold withM; rw [tv]; rfl)
    have HTV := Lib.hid tv
    clear tv
    go_wp2_with fail
    clear hW6
    refine (lequalModels _ _ X X W6 HXR6.out HYR6.out).mono ?_
    rintro e W7 ⟨rfl, hB⟩
    have HMR7 := Lib.hid (ModR.on HMR6.out hB)
    have HKR7 := Lib.hid (ConR.on HKR6.out hB)
    have HXR7 := Lib.hid (ModR.on HXR6.out hB)
    have HB7 := Lib.hid (bgo HB6.out hB)
    have HM7 := Lib.hid (hT2 HM6.out hB).1
    have HC7 := Lib.hid (hT5 HC6.out hB).1
    have HX7 := Lib.hid (hT2 HX6.out hB).1
    clear x0 x1 y0 y1 hB
    obtain ⟨-, x0, x1⟩ := hT2 HX7.out (Below.refl _ _)
    obtain ⟨nc, hnc⟩ : ∃ nc, m.cons.length = nc := ⟨_, rfl⟩
    have HNC := Lib.hid hnc
    have hxl : X.cons.length = nc + 1 := by rw [HXE.out, ← hnc]; simp [addC]
    have HXL := Lib.hid hxl
    rw [hxl] at x1
    have hsx := Lib.hid (show SmMod X by rw [HXE.out]; exact addC_sm HSZ.out.1 HSZ.out.2)
    have hnl : nc ≤ 4 := by rw [← hnc]; exact HSZ.out.1.2.2.1
    obtain ⟨v1, v2, v3⟩ := addC_val HTV.out
    rw [hnc] at v2 v3
    have hoo : outOk X nc = true := by rw [HXE.out]; exact v2
    have hom : outM X nc = m := by rw [HXE.out]; exact v3
    have V1 := Lib.hid v1
    have V2 := Lib.hid hoo
    have V3 := Lib.hid hom
    have hwr : IntKind.i64.wrap (((nc + 1 : Nat) : Int) - 1) = (nc : Int) := by rw [IntKind.wrap_i64]; omega
    clear v1 v2 v3 hoo hom hnc hxl
    rw [HXL.out] at HXR7 HX7 ⊢
    go_wp2_with fail
    refine (iWithout _ X (nc : Int) W7 HXR7.out hsx.out).mono ?_
    rintro e W8 ⟨rs, D, xs, rfl, hcm, -, hB⟩
    have hz8 := hcm.read
    rw [V3.out] at hz8
    rw [V2.out]
    obtain ⟨Ed, Ec, ed, ec, rfl, -⟩ := id hz8
    obtain ⟨W9, hW9⟩ : ∃ W9, W8.alloc (.cells #[.slice Ed m.doms.length ed, .slice Ec m.cons.length ec] 26) = W9 := ⟨_, rfl⟩
    have hB9 : Below W8.heap.size W8 W9 := by rw [← hW9]; exact b_alloc _ _
    have hB79 := bgo hB hB9
    have hY9 : TBlk 26 W9 W8.heap.size #[.slice Ed m.doms.length ed, .slice Ec m.cons.length ec] := by rw [← hW9]; exact TBlk.new _ _ _
    have HZR9 := Lib.hid (ModR.on hz8 hB9)
    have HMR9 := Lib.hid (ModR.on HMR7.out hB79)
    have HKR9 := Lib.hid (ConR.on HKR7.out hB79)
    have HXR9 := Lib.hid (ModR.on HXR7.out hB79)
    have HB9 := Lib.hid (bgo HB7.out hB79)
    have hM9 := (hT2 HM7.out hB79).1
    have hC9 := (hT5 HC7.out hB79).1
    have hX9 := (hT2 HX7.out hB79).1
    obtain ⟨Bd', Bc', bd', bc', eX, -, hxc, -⟩ := id HXR9.out
    injection eX with eX1 eX2
    injection eX2 with eX2
    injection eX2 with eX3 eX4 eX5
    subst eX3
    rw [HXL.out] at hxc
    obtain ⟨eb, eo, kx, va, aa, ra, cv, ca', cr, eBc, heb, hxk, p0, p1, p2, p3, p4, hcr⟩ := ConR.at_ hxc (show nc < nc + 1 by omega)
    subst eBc
    have hkx : kx = k := by
      have h1 : X.cons[nc]? = some k := by
        rw [HXE.out]
        show (m.cons ++ [k])[nc]? = some k
        rw [List.getElem?_append_right (by rw [HNC.out]; exact Nat.le_refl _), HNC.out, Nat.sub_self]
        rfl
      rw [h1] at hxk
      injection hxk with hxk
      exact hxk.symm
    have HKX := Lib.hid (show decide (kx = k) = true from decide_eq_true hkx)
    have HVX := Lib.hid (show vmodF X = true by rw [HXE.out]; exact HTV.out)
    have HCX := Lib.hid (show ConR W9 W9.heap.size [.int .i64 kx.kind, .slice va kx.vars.length cv, .slice aa kx.args.length ca', .int .i64 kx.bound, .slice ra kx.rows.length cr] kx from hcr)
    have HMM := Lib.hid (show decide (m = m) = true by simp)
    have s0 : ∀ p : Later W9, p.val.cell? ⟨W3.heap.size, 0, none⟩ = some (.slice Bd X.doms.length bd) := fun p => (hX9.below_ p.below hX9.lt).at_ 0 rfl
    have s1 : ∀ p : Later W9, p.val.cell? ⟨W3.heap.size, 1, none⟩ = some (.slice (some ⟨eb, eo, none⟩) (nc + 1) bc) := fun p => (hX9.below_ p.below hX9.lt).at_ 1 rfl
    have s2 : ∀ p : Later W9, p.val.cell? ⟨W1.heap.size, 0, none⟩ = some (.slice Ad m.doms.length cd) := fun p => (hM9.below_ p.below hM9.lt).at_ 0 rfl
    have s3 : ∀ p : Later W9, p.val.cell? ⟨W1.heap.size, 1, none⟩ = some (.slice Ac m.cons.length cc) := fun p => (hM9.below_ p.below hM9.lt).at_ 1 rfl
    have s4 : ∀ p : Later W9, p.val.cell? ⟨W8.heap.size, 0, none⟩ = some (.slice Ed m.doms.length ed) := fun p => (hY9.below_ p.below hY9.lt).at_ 0 rfl
    have s5 : ∀ p : Later W9, p.val.cell? ⟨W8.heap.size, 1, none⟩ = some (.slice Ec m.cons.length ec) := fun p => (hY9.below_ p.below hY9.lt).at_ 1 rfl
    have r0 : ∀ p : Later W9, p.val.cell? ⟨W1.heap.size + 1, 0, none⟩ = some (.int .i64 k.kind) := fun p => (hC9.below_ p.below hC9.lt).at_ 0 rfl
    have r1 : ∀ p : Later W9, p.val.cell? ⟨W1.heap.size + 1, 1, none⟩ = some (.slice A1 k.vars.length c1) := fun p => (hC9.below_ p.below hC9.lt).at_ 1 rfl
    have r2 : ∀ p : Later W9, p.val.cell? ⟨W1.heap.size + 1, 2, none⟩ = some (.slice A2 k.args.length c2) := fun p => (hC9.below_ p.below hC9.lt).at_ 2 rfl
    have r3 : ∀ p : Later W9, p.val.cell? ⟨W1.heap.size + 1, 3, none⟩ = some (.int .i64 k.bound) := fun p => (hC9.below_ p.below hC9.lt).at_ 3 rfl
    have r4 : ∀ p : Later W9, p.val.cell? ⟨W1.heap.size + 1, 4, none⟩ = some (.slice A3 k.rows.length c3) := fun p => (hC9.below_ p.below hC9.lt).at_ 4 rfl
    have q0 : ∀ p : Later W9, p.val.cell? ⟨eb, eo + nc * 5, none⟩ = some (.int .i64 kx.kind) := fun p => p.cell heb p0
    have q1 : ∀ p : Later W9, p.val.cell? ⟨eb, eo + nc * 5 + 1, none⟩ = some (.slice va kx.vars.length cv) := fun p => p.cell heb p1
    have q2 : ∀ p : Later W9, p.val.cell? ⟨eb, eo + nc * 5 + 2, none⟩ = some (.slice aa kx.args.length ca') := fun p => p.cell heb p2
    have q3 : ∀ p : Later W9, p.val.cell? ⟨eb, eo + nc * 5 + 3, none⟩ = some (.int .i64 kx.bound) := fun p => p.cell heb p3
    have q4 : ∀ p : Later W9, p.val.cell? ⟨eb, eo + nc * 5 + 4, none⟩ = some (.slice ra kx.rows.length cr) := fun p => p.cell heb p4
    clear hcm hz8 hB hB9 hB79 hY9 hM9 hC9 hX9 hxc hxk hkx p0 p1 p2 p3 p4 hcr x0 x1
    try clear eX1
    try clear eX2
    try clear eX4
    try clear eX5
    go_wp2_with fail
    clear hW9
    refine wp_region_later (by kernel_rfl) (by kernel_rfl) ?_
    repeat (go_big_quiet_step (first
      | (go_at_call 18; exact calls_later (iValidModel_b _ X _ _ HVX.out (ModR.on HXR9.out (Later.below _))))
      | (go_at_call 19; exact calls_later (iValidConstraint_b _ k _ _ _ V1.out (ConR.on HKR9.out (Later.below _))))
      | (go_at_call 20; exact calls_later (lequalConstraints_b _ _ kx k _ _ HKX.out (ConR.on HCX.out (Later.below _)) (ConR.on HKR9.out (Later.below _))))
      | (go_at_call 17; exact calls_later (lequalModels_b _ _ m m _ true (decide_eq_true rfl) (ModR.on HZR9.out (Later.below _)) (ModR.on HMR9.out (Later.below _))))))
    refine wpQuiet_nil ?_
    intro w5 hw'
    obtain ⟨⟨w6, hb5⟩, hw''⟩ := hw'
    subst hw''
    go_wp2_with fail
    go_ret
    exact ⟨rfl, bgo HB9.out hb5⟩

set_option maxRecDepth 100000 in
theorem lifted (os : Os) (started : os.Started) (H : Type) (enc : TypeId × Value → H) :
    ReturnsInHanded {} Try.checked os 4 .any (Rows.fnModelEditSpec.pre6 enc Try.prog Try.f4 Rows.fnModelEditRow.domain false) (Rows.fnModelEditSpec.post enc Try.prog Try.f4 false true false false) := by
  refine returnsInHanded_of_change (C := Try.checked) own started (by kernel_rfl) Try.func4
    (ChangeSpec.witness6 (enc := enc) (C := Try.checked) false ⟨#[], #[.slice none 0 0], []⟩ 8 (by kernel_rfl) (by kernel_rfl) (by kernel_rfl) (by kernel_rfl)) ?_
  intro W base args ds gs before hval0 hW hcnd _
  have hval : ∀ (j : Nat) t v, Try.f4.params[j]? = some t → args[j]? = some v → Value.okWide Try.prog W .any base t v := hval0
  have hW' := hW
  obtain ⟨p, q, hA0, hV, rfl, hfz, hnd⟩ := hW
  have hA : DataW.TrodAll enc Try.prog W 0 (fun _ => true) true Try.f4.params.toList args.toList ds p := hA0
  rw [Try.params4] at hA hval
  obtain ⟨v0, vs0, d0, ds0, p0, q0, hargs, rfl, rfl, h0, r0⟩ := trodAll_cons hA
  obtain ⟨rfl, rfl, rfl⟩ := trodAll_nil r0
  obtain rfl : args = #[v0] := by cases args; simp_all
  obtain ⟨rfl, rfl⟩ := trodVars_none hV
  have k0 := h0
  have l0 : ∀ x ∈ p0, x.block < W.heap.size := fun x hx => hW'.lt x (by simp [hx])
  obtain ⟨A0, n0, c0, xs0, rfl, g0⟩ := open_byteS Try.underlying22 Try.underlying5 (by kernel_rfl) (hval 0 22 v0 rfl rfl) k0
  clear hA0 hval0
  refine (walk A0 n0 c0 xs0 g0).mono fun e W' ⟨he, hb⟩ => ?_
  subst he
  exact ⟨_, rfl, _, _, _, [], _, [], hW', trodAll_cons_mk (p := []) (shut_bool Try.underlying4 _) trodAll_mk0, (trodAll_cons_mk (Below.trod laid (by kernel_rfl) (of_decide_eq_true (by kernel_rfl)) h0 hb l0) trodAll_mk0), rfl, hb.frame _, fun h => by cases h⟩

theorem over : Rows.fnModelEditRow.holds Try.pinned (OpenSpec.ofChange Rows.fnModelEditSpec) :=
  OpenClaim.holds_of_wide 4 Try.f4 rfl rfl rfl rfl rfl rfl rfl ⟨rfl, rfl, rfl, rfl, rfl⟩ rfl rfl rfl rfl rfl (by kernel_rfl) Try.func4 (by kernel_rfl)
    (of_decide_eq_true (by kernel_rfl)) (by unfold Func.isWrapper; first | (rw [if_pos (by decide +kernel)]; kernel_rfl) | (rw [if_neg (by decide +kernel)]; exact ⟨rfl, rfl⟩))
    (fun os started H enc _ => lifted os started H enc)

/-- The statement. -/
theorem proved : Rows.FnModelEditSaid :=
  over
#print axioms proved
end Go.Proofs.Ytejfnkbdmlijbaa.fnModelEdit
