/- Slices of constraints, and models: the laws' copies, sizes and comparisons (printed by gmod.py) -/
import Derived.Test.YtfoodlhfmcfjeaaDoorConI
import Derived.Test.YtfoodlhfmcfjeaaDoorOwnK
import Derived.Test.YtfoodlhfmcfjeaaDoorOpenC
namespace Go.Proofs.YtfoodlhfmcfjeaaDoor
open Go.ChangeShapes Go.WideShapes Go.ChangeAt Go.RowKit
open Go.Shelf
set_option linter.unusedVariables false
set_option maxRecDepth 100000

theorem cellj {w : World} {p : Addr} {j : Nat} {u : Value} (hj : 0 < j) (h : w.cell? (p.add j) = some u) : w.cell? ⟨p.block, p.off + j, none⟩ = some u := by
  have h2 : j ≠ 0 := by omega
  simpa [Addr.add, h2] using h
theorem add0_ (p : Addr) : p.add 0 = p := by simp [Addr.add]
def OwnConU : World → Nat → List Value → Con → Prop := fun w b us c => OwnCon w b (.agg us.toArray) c
theorem OwnConU.stays : StaysK OwnConU := ⟨fun _ _ _ _ _ hb h => OwnCon.below h hb, fun _ _ _ _ _ hb h => OwnCon.base_ h hb⟩
theorem OwnConU.shuns : ShunsK 50 OwnConU := by
  intro w base us c g j cs fr u hg h
  obtain ⟨vv, av, rv, e, h1, h2, h3⟩ := h
  exact ⟨vv, av, rv, e, OwnI.shuns (t := 50) (by decide) _ _ _ _ _ j _ _ _ hg h1, OwnI.shuns (t := 50) (by decide) _ _ _ _ _ j _ _ _ hg h2, OwnOf.shuns (t := 50) (by decide) (OwnI.shuns (by decide)) _ _ _ _ _ j _ _ _ hg h3⟩
theorem OwnConU.read {w : World} {base : Nat} {us : List Value} {c : Con} (h : OwnConU w base us c) : ConR w w.heap.size us c := by
  obtain ⟨vs, e, hr⟩ := OwnCon.read h
  injection e with e
  have e2 : us = vs := by simpa using congrArg Array.toList e
  rw [e2]; exact hr
abbrev OwnCons (w : World) (base : Nat) (v : Value) (xs : List Con) : Prop := OwnK 50 5 OwnConU w base v xs
theorem OwnCons.read {w : World} {base : Nat} {v : Value} {xs : List Con} (h : OwnCons w base v xs) : ∃ A c, v = .slice A xs.length c ∧ ConsR w w.heap.size A xs.length xs ∧ xs.length ≤ c := OwnK.read (fun _ _ _ _ h => OwnConU.read h) h
set_option maxHeartbeats 4000000 in
theorem szConstraintS (A : Option Addr) (n c : Nat) (xs : List Con) (left : Int) (w : World) (h : ConsA w w.heap.size A n xs) (h0 : 0 ≤ left) (h1 : left ≤ 1048576) :
    Calls Tryd.prog 10 #[.slice A n c, .int .i64 left] w fun e w' => ∃ r : Int, e = .returned (.int .i64 r) ∧ (r = -1 ∨ 0 ≤ r ∧ r ≤ left ∧ SmS SmCon xs) ∧ Below w.heap.size w w' := by
  have hn := h.le
  have hl := Lib.hid h.len
  by_cases hlt0 : left - (n : Int) < 0
  · go_enter Tryd.func10, Tryd.ntmps10
    go_wp2_with fail
    go_ret
    exact ⟨-1, rfl, .inl rfl, Below.refl _ _⟩
  · go_enter Tryd.func10, Tryd.ntmps10
    go_wp2_with fail
    go_loopw [1, 5] (fun t i wr => ∃ (k : Nat) (r : Int), k ≤ n ∧ i = .int .i64 k ∧ t = .int .i64 r ∧ 0 ≤ r ∧ r ≤ left ∧ Hid (AllP SmCon xs k) ∧ Below w.heap.size w wr) (fun _ i _ => n - (intOf i).toNat)
    case atStart => exact ⟨0, left - n, by omega, rfl, rfl, by omega, by omega, AllP.zero _ _, Below.refl _ _⟩
    case round =>
      obtain ⟨k, r, hk, rfl, rfl, hr0, hr1, hq, hb⟩ := hrel
      by_cases hlt : k < n
      · obtain ⟨ad, x, us, rfl, hab, hxk, hul, hcx, hx1⟩ := SlKA.at_ (h.below ConA.keeps hb) hlt
        have HX := Lib.hid hxk
        have HX1 := Lib.hid (ConA.widens _ _ _ _ _ hb.size hx1)
        obtain ⟨va, aa, ra, cv, ca, cr, rfl, -⟩ := hx1
        have hc0 := hcx 0 _ rfl
        have hc1 := cellj (by omega) (hcx 1 _ rfl)
        have hc2 := cellj (by omega) (hcx 2 _ rfl)
        have hc3 := cellj (by omega) (hcx 3 _ rfl)
        have hc4 := cellj (by omega) (hcx 4 _ rfl)
        simp only [add0_] at hc0
        clear hxk hcx hul
        go_wp2_with fail
        refine (szConstraint _ x r _ HX1.out hr0 (by omega)).mono ?_
        rintro e w2 ⟨r2, rfl, hr, hb2⟩
        rcases hr with rfl | ⟨hr2, hr3, hs⟩
        · go_wp2_with fail
          go_ret
          exact ⟨-1, rfl, .inl rfl, bgo hb hb2⟩
        · have HS := Lib.hid hs
          clear hs
          go_wp2_with fail
          go_roundw
          case rel => exact ⟨k + 1, r2, by omega, by go_num, rfl, hr2, by omega, AllP.succ hq.out HX.out HS.out, bgo hb hb2⟩
          case measure => simp [intOf]; omega
      · obtain rfl : k = n := by omega
        go_wp2_with fail
        go_ret
        exact ⟨r, rfl, .inr ⟨hr0, hr1, by rw [SmS, hl.out]; exact ⟨by omega, AllP.done hq.out (Nat.le_of_eq hl.out)⟩⟩, hb⟩
set_option maxHeartbeats 4000000 in
theorem toConstraintS (A : Option Addr) (n c : Nat) (xs : List Con) (w : World) (h : ConsA w w.heap.size A n xs) (hs0 : SmS SmCon xs) :
    Calls Tryd.prog 14 #[.slice A n c] w fun e w' => ∃ v, e = .returned v ∧ OwnK 50 5 OwnConU w' w.heap.size v xs ∧ Below w.heap.size w w' := by
  have hn : n ≤ 1048576 := by have := hs0.1; rw [h.len] at this; omega
  have HS := Lib.hid hs0.2
  clear hs0
  obtain ⟨i0, hi0, hz0, hz1, hz2⟩ := info_parts (P := Tryd.prog) (e := 50) (z := .agg #[.int .i64 0, .slice none 0 0, .slice none 0 0, .int .i64 0, .slice none 0 0]) (size := 5) (bytes := 88) (by kernel_rfl)
  go_enter Tryd.func14, Tryd.ntmps14
  go_wp2_with (refine wpList_make_full _ rfl (.tmp 6) (.tmp 6) _ rfl w.heap.size 50 i0 _ 5 Tryd.underlying28 hi0 hz0 hz1 .i64 .i64 n n n rfl rfl rfl rfl (by rw [hz2]; omega) (by unfold maxLen; omega) (Nat.le_refl _) ?_; intro w1 hown hgr)
  have hb1 : Below w.heap.size w w1 := (Below.refl _ _).grown hgr (Nat.le_refl _) (by simp)
  have hsz : w.heap.size < w1.heap.size := (hown.lt _ rfl).2
  have hlen := Lib.hid h.len
  have hown' : FillK 50 5 OwnConU w1 w.heap.size w.heap.size n n [.int .i64 0, .slice none 0 0, .slice none 0 0, .int .i64 0, .slice none 0 0] xs 0 := FillK.start (by
    have e : (madeCells (Value.agg #[.int .i64 0, .slice none 0 0, .slice none 0 0, .int .i64 0, .slice none 0 0]).cells (n * 5)).toList = (List.replicate n [.int .i64 0, .slice none 0 0, .slice none 0 0, .int .i64 0, .slice none 0 0]).flatten := madeCells_rep _ _ _ rfl (by omega)
    rw [← e]; exact hown)
  clear hown hgr
  go_loopw [4] (fun i wr => ∃ k : Nat, k ≤ n ∧ i = .int .i64 k ∧ Hid (FillK 50 5 OwnConU wr w.heap.size w.heap.size n n [.int .i64 0, .slice none 0 0, .slice none 0 0, .int .i64 0, .slice none 0 0] xs k) ∧ Below w.heap.size w wr) (fun i _ => n - (intOf i).toNat)
  case atStart => exact ⟨0, by omega, rfl, hown', hb1⟩
  case round =>
    obtain ⟨k, hk, rfl, hq, hb⟩ := hrel
    clear hown' hb1
    by_cases hlt : k < n
    · obtain ⟨ad, x, us, rfl, hab, hxk, hul, hcx, hx1⟩ := SlKA.at_ (h.below ConA.keeps hb) hlt
      have HX := Lib.hid hxk
      have HX1 := Lib.hid (ConA.widens _ _ _ _ _ hb.size hx1)
      have HSX := Lib.hid (HS.out x (List.mem_of_getElem? hxk))
      obtain ⟨va, aa, ra, cv, ca, cr, rfl, -⟩ := hx1
      have hc0 := hcx 0 _ rfl
      have hc1 := cellj (by omega) (hcx 1 _ rfl)
      have hc2 := cellj (by omega) (hcx 2 _ rfl)
      have hc3 := cellj (by omega) (hcx 3 _ rfl)
      have hc4 := cellj (by omega) (hcx 4 _ rfl)
      simp only [add0_] at hc0
      clear hxk hcx hul
      go_wp2_with fail
      refine (toConstraint _ x _ HX1.out HSX.out).mono ?_
      rintro e w2 ⟨v, rfl, hv, hb2⟩
      obtain ⟨vv, av, rv, rfl, p1, p2, p3⟩ := hv
      obtain ⟨A1, c1, rfl, -⟩ := p1.read
      obtain ⟨A2, c2, rfl, -⟩ := p2.read
      obtain ⟨A3, c3, rfl, -⟩ := read2 p3
      have hv : OwnConU w2 wr.heap.size [.int .i64 x.kind, .slice A1 x.vars.length c1, .slice A2 x.args.length c2, .int .i64 x.bound, .slice A3 x.rows.length c3] x := ⟨_, _, _, rfl, p1, p2, p3⟩
      clear p1 p2 p3
      have hin : OwnConU w2 w.heap.size _ x := OwnConU.stays.base _ _ _ _ _ hb.size hv
      obtain ⟨⟨d0, d1, d2, d3, d4⟩, hf, ho⟩ := FillK.five OwnConU.shuns hlt HX.out (FillK.below OwnConU.stays hq.out hb2) hin
      have f0 := hf (k * 5)
      have f1 := hf (k * 5 + 1)
      have f2 := hf (k * 5 + 2)
      have f3 := hf (k * 5 + 3)
      have f4 := hf (k * 5 + 4)
      have HO := Lib.hid ho
      clear ho hv hin hf
      go_wp2_with fail
      go_roundw
      case rel => exact ⟨k + 1, by omega, by go_num, HO.out, (((((bgo hb hb2).setCell (by simp) _).setCell (by simp) _).setCell (by simp) _).setCell (by simp) _).setCell (by simp) _⟩
      case measure => simp [intOf]; omega
    · obtain rfl : k = n := by omega
      go_wp2_with fail
      go_ret
      exact ⟨_, rfl, FillK.done hq.out hlen.out (by omega), hb⟩
theorem eqConstraint_b (us vs : List Value) (c d : Con) (w : World) (b : Bool) (hb : decide (c = d) = b) (h : ConR w w.heap.size us c) (k : ConR w w.heap.size vs d) :
    Calls Tryd.prog 39 #[.agg us.toArray, .agg vs.toArray] w fun e w' => e = .returned (.bool b) ∧ Below w.heap.size w w' := by
  subst hb; exact eqConstraint us vs c d w h k
set_option maxHeartbeats 4000000 in
theorem eqConstraintS (A B : Option Addr) (n m c d : Nat) (xs ys : List Con) (w : World) (hx : ConsR w w.heap.size A n xs) (hy : ConsR w w.heap.size B m ys) :
    Calls Tryd.prog 21 #[.slice A n c, .slice B m d] w fun e w' => e = .returned (.bool (decide (xs = ys))) ∧ Below w.heap.size w w' := by
  have hn := hx.le
  have hm := hy.le
  have hlx := Lib.hid hx.len
  have hly := Lib.hid hy.len
  by_cases hnm : n = m
  · subst hnm
    have hne : ((n : Int) != (n : Int)) = false := by simp
    go_enter Tryd.func21, Tryd.ntmps21
    go_wp2_with fail
    go_loopw [5] (fun i wr => ∃ k : Nat, k ≤ n ∧ i = .int .i64 k ∧ Hid (EqB xs ys k) ∧ Below w.heap.size w wr) (fun i _ => n - (intOf i).toNat)
    case atStart => exact ⟨0, by omega, rfl, EqB.zero _ _, Below.refl _ _⟩
    case round =>
      obtain ⟨k, hk, rfl, hq, hb⟩ := hrel
      by_cases hlt : k < n
      · obtain ⟨ab, ao, x, us, rfl, hab, hxk, hul, hcx, hx1⟩ := SlK.at_ (hx.below ConR.keeps hb) hlt
        obtain ⟨bb, bo, y, vs, rfl, hbb, hyk, hvl, hcy, hy1⟩ := SlK.at_ (hy.below ConR.keeps hb) hlt
        have HX := Lib.hid hxk
        have HY := Lib.hid hyk
        have hw := hb.size
        have HX1 := Lib.hid (ConR.widens _ _ _ _ _ hw hx1)
        have HY1 := Lib.hid (ConR.widens _ _ _ _ _ hw hy1)
        obtain ⟨va, aa, ra, cv, ca, cr, rfl, -⟩ := hx1
        obtain ⟨vb, ab2, rb, dv, da, dr, rfl, -⟩ := hy1
        have q0 : ∀ p : Later wr, p.val.cell? ⟨ab, ao + k * 5, none⟩ = some _ := fun p => p.cell (by omega) (hcx 0 _ rfl)
        have q1 : ∀ p : Later wr, p.val.cell? ⟨ab, ao + k * 5 + 1, none⟩ = some _ := fun p => p.cell (by omega) (hcx 1 _ rfl)
        have q2 : ∀ p : Later wr, p.val.cell? ⟨ab, ao + k * 5 + 2, none⟩ = some _ := fun p => p.cell (by omega) (hcx 2 _ rfl)
        have q3 : ∀ p : Later wr, p.val.cell? ⟨ab, ao + k * 5 + 3, none⟩ = some _ := fun p => p.cell (by omega) (hcx 3 _ rfl)
        have q4 : ∀ p : Later wr, p.val.cell? ⟨ab, ao + k * 5 + 4, none⟩ = some _ := fun p => p.cell (by omega) (hcx 4 _ rfl)
        have r0 : ∀ p : Later wr, p.val.cell? ⟨bb, bo + k * 5, none⟩ = some _ := fun p => p.cell (by omega) (hcy 0 _ rfl)
        have r1 : ∀ p : Later wr, p.val.cell? ⟨bb, bo + k * 5 + 1, none⟩ = some _ := fun p => p.cell (by omega) (hcy 1 _ rfl)
        have r2 : ∀ p : Later wr, p.val.cell? ⟨bb, bo + k * 5 + 2, none⟩ = some _ := fun p => p.cell (by omega) (hcy 2 _ rfl)
        have r3 : ∀ p : Later wr, p.val.cell? ⟨bb, bo + k * 5 + 3, none⟩ = some _ := fun p => p.cell (by omega) (hcy 3 _ rfl)
        have r4 : ∀ p : Later wr, p.val.cell? ⟨bb, bo + k * 5 + 4, none⟩ = some _ := fun p => p.cell (by omega) (hcy 4 _ rfl)
        clear hxk hyk hcx hcy hul hvl
        cases he : decide (x = y)
        · have HE := Lib.hid he
          clear he
          go_wp2_with fail
          refine wp_region_later (by kernel_rfl) (by kernel_rfl) ?_
          repeat (go_big_quiet_step (first | (go_at_call 39; exact calls_later (eqConstraint_b _ _ x y _ _ HE.out (ConR.on HX1.out (Later.below _)) (ConR.on HY1.out (Later.below _))))))
          refine wpQuiet_nil ?_
          intro w5 hw'
          obtain ⟨⟨w6, hb5⟩, hw''⟩ := hw'
          subst hw''
          go_wp2_with fail
          go_ret
          exact ⟨ret_bool (decide_eq_false (ne_of_at HX.out HY.out (of_decide_eq_false HE.out))).symm, bgo hb hb5⟩
        · have HE := Lib.hid he
          clear he
          go_wp2_with fail
          refine wp_region_later (by kernel_rfl) (by kernel_rfl) ?_
          repeat (go_big_quiet_step (first | (go_at_call 39; exact calls_later (eqConstraint_b _ _ x y _ _ HE.out (ConR.on HX1.out (Later.below _)) (ConR.on HY1.out (Later.below _))))))
          refine wpQuiet_nil ?_
          intro w5 hw'
          obtain ⟨⟨w6, hb5⟩, hw''⟩ := hw'
          subst hw''
          go_wp2_with fail
          go_roundw
          case rel => exact ⟨k + 1, by omega, by go_num, EqB.succ hq.out (by rw [HX.out, HY.out, of_decide_eq_true HE.out]), bgo hb hb5⟩
          case measure => simp [intOf]; omega
      · obtain rfl : k = n := by omega
        go_wp2_with fail
        go_ret
        exact ⟨ret_bool (decide_eq_true (EqB.done hq.out hlx.out hly.out)).symm, hb⟩
  · have hne : ((n : Int) != (m : Int)) = true := by simp; omega
    have HN := Lib.hid hnm
    clear hnm
    go_enter Tryd.func21, Tryd.ntmps21
    go_wp2_with fail
    go_ret
    exact ⟨ret_bool (decide_eq_false (fun h => HN.out (by rw [← hlx.out, ← hly.out, h]))).symm, Below.refl _ _⟩
end Go.Proofs.YtfoodlhfmcfjeaaDoor
