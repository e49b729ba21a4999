/- When values satisfy a constraint, by the program. -/
import Derived.Test.YtfmdgdamelkelaaSatP
import Derived.Test.YtfmdgdamelkelaaVmod
namespace Go.Proofs.Ytfmdgdamelkelaa
open Go.ChangeShapes Go.WideShapes Go.ChangeAt Go.RowKit
open Go.Shelf
set_option linter.unusedVariables false
set_option maxRecDepth 100000

theorem wordF_len (vars xs : List Int) : (wordF vars xs).length = vars.length := List.length_map _
theorem wordF_at {vars xs : List Int} {k : Nat} {v : Int} (h : vars[k]? = some v) : (wordF vars xs)[k]? = some (gat xs v.toNat) := by unfold wordF; rw [List.getElem?_map, h]; rfl
theorem wordF_succ {vars xs : List Int} {k : Nat} {v y : Int} (h : vars[k]? = some v) (hy : xs[v.toNat]? = some y) : (wordF vars xs).take (k + 1) = (wordF vars xs).take k ++ [y] := by
  rw [List.take_add_one, wordF_at h, gat_eq hy]; rfl
set_option maxHeartbeats 4000000 in
theorem iword (us : List Value) (c : Con) (A : Option Addr) (n d : Nat) (xs : List Int) (w : World) (h : ConR w w.heap.size us c) (hx : IntR w w.heap.size A n xs) (hv : ∀ v ∈ c.vars, 0 ≤ v ∧ v < (n : Int)) (h4 : c.vars.length ≤ 4) :
    Calls Try.prog 52 #[.agg us.toArray, .slice A n d] w fun e w' => ∃ v, e = .returned v ∧ OwnI 3 w' w.heap.size v (wordF c.vars xs) ∧ Below w.heap.size w w' := by
  obtain ⟨i0, hi0, hz0, hz1, hz2⟩ := info_parts info_int
  obtain ⟨va, aa, ra, cv, ca, cr, rfl, g1, g2, g3, cap1, cap2⟩ := h
  obtain ⟨wa, hwa⟩ : ∃ wa, wa = w.alloc (.cells #[.int .i64 c.kind, .slice va c.vars.length cv, .slice aa c.args.length ca, .int .i64 c.bound, .slice ra c.rows.length cr] 29) := ⟨_, rfl⟩
  have hb0 : Below w.heap.size w wa := by rw [hwa]; exact b_alloc _ _
  have hsz : wa.heap.size = w.heap.size + 1 := by rw [hwa, size_alloc_]
  have ha : TBlk 29 wa w.heap.size #[.int .i64 c.kind, .slice va c.vars.length cv, .slice aa c.args.length ca, .int .i64 c.bound, .slice ra c.rows.length cr] := by rw [hwa]; exact TBlk.new _ _ _
  have HA := Lib.hid ha
  have G1 := Lib.hid (IntR.on g1 hb0)
  have GX := Lib.hid (IntR.on hx hb0)
  have HV := Lib.hid hv
  have hlx := Lib.hid hx.len
  clear ha g1 g2 g3 cap1 cap2 hx hv
  go_enter Try.func52, Try.ntmps52
  go_wp2_with (at_make; go_loud (refine wpList_make_own _ rfl (.const (.int .i64 0)) (.tmp 10) _ rfl (w.alloc (.cells #[.int .i64 c.kind, .slice va c.vars.length cv, .slice aa c.args.length ca, .int .i64 c.bound, .slice ra c.rows.length cr] 29)).heap.size 3 i0 _ 1 Try.underlying22 hi0 hz0 hz1 .i64 .i64 _ c.vars.length rfl rfl rfl (by rw [hz2]; omega) (by unfold maxLen; omega) (Nat.le_refl _) ?_); go_loud (intro w1 ho hgr; rw [← hwa] at ho hgr; have a1 : w1.cell? ⟨w.heap.size, 1, none⟩ = some (.slice va c.vars.length cv) := (HA.out.below_ ((Below.refl wa.heap.size wa).grown hgr (Nat.le_refl _) (by simp)) (by omega)).at_ 1 rfl))
  have hb1 : Below wa.heap.size wa w1 := (Below.refl _ _).grown hgr (Nat.le_refl _) (by simp)
  clear hgr hwa a1
  go_loopw [5, 15] (fun v i wr => ∃ (k : Nat) (v' : Value), k ≤ c.vars.length ∧ i = .int .i64 k ∧ v' = v ∧ Hid (wr.ownsRow wa.heap.size 3 1 v' ((wordF c.vars xs).take k).length (((wordF c.vars xs).take k).map (.int .i64))) ∧ Below wa.heap.size wa wr) (fun _ i _ => c.vars.length - (intOf i).toNat)
  case atStart => exact ⟨0, _, by omega, rfl, rfl, by rw [← hsz]; exact ho, hb1⟩
  case round =>
    obtain ⟨k, v, hk, rfl, rfl, hq, hb⟩ := hrel
    clear ho hb1
    have hlen : ((wordF c.vars xs).take k).length = k := by rw [List.length_take, wordF_len]; omega
    by_cases hlt : k < c.vars.length
    · obtain ⟨ab, ao, x, rfl, hab, hxk, hcx⟩ := IntR.at_ (G1.out.below IntC.keeps hb) hlt
      have hx0 := (HV.out x (List.mem_of_getElem? hxk)).1
      have hx1 := (HV.out x (List.mem_of_getElem? hxk)).2
      obtain ⟨bb, bo, y, rfl, hbb, hyk, hcy⟩ := IntR.at_ (k := x.toNat) (GX.out.below IntC.keeps hb) (by omega)
      have HS := Lib.hid (wordF_succ hxk hyk)
      clear hxk hyk
      go_wp2_with (at_builtin; refine wpList_append_own _ rfl _ _ 22 rfl wa.heap.size 3 i0 _ 1 8 Try.underlying22 hi0 hz0 hz1 hz2 rfl (by decide) v _ _ rfl (hq.out.alloc _) ⟨wr.heap.size, 0, none⟩ 1 1 [.int .i64 y] rfl rfl (cell_one_new _ _ _) (by simp [Value.oneCell']) (by unfold maxLen; omega) (by omega) (by rw [size_alloc_]; have := hb.size; omega) ?_; intro v1 w1 hown hgr _)
      have hr1 := hq.out.lt
      have hb1 : Below wa.heap.size wa w1 := (hb.alloc hb.size _).grown hgr (by rw [size_alloc_]; have := hb.size; omega) (fun g hg => (hr1 g hg).1)
      have hown2 : w1.ownsRow wa.heap.size 3 1 v1 ((wordF c.vars xs).take (k + 1)).length (((wordF c.vars xs).take (k + 1)).map (.int .i64)) := by rw [HS.out]; simpa using hown
      clear hown hgr
      go_roundw
      case rel => exact ⟨k + 1, v1, by omega, by go_num, rfl, hown2, hb1⟩
      case measure => simp [intOf]; omega
    · obtain rfl : k = c.vars.length := by omega
      have he : (wordF c.vars xs).take c.vars.length = wordF c.vars xs := List.take_of_length_le (by rw [wordF_len]; omega)
      rw [he] at hq
      have HQ : OwnI 3 wr wa.heap.size v (wordF c.vars xs) := ⟨hq.out, by rw [wordF_len]; omega⟩
      have HQ2 := Lib.hid ((OwnI.stays 3).base _ _ w.heap.size _ _ (by omega) HQ)
      clear HQ hq
      go_wp2_with fail
      go_ret
      exact ⟨_, rfl, HQ2.out, bgo hb0 hb⟩
set_option maxHeartbeats 4000000 in
theorem iEqual (A B : Option Addr) (n m c d : Nat) (xs ys : List Int) (w : World) (hx : IntR w w.heap.size A n xs) (hy : IntR w w.heap.size B m ys) :
    Calls Try.prog 103 #[.slice A n c, .slice B m d] w fun e w' => e = .returned (.bool (decide (xs = ys))) ∧ Below w.heap.size w w' := by
  have hn := hx.le
  have hm := hy.le
  have hlx := Lib.hid hx.len
  have hly := Lib.hid hy.len
  by_cases hnm : n = m
  · subst hnm
    have hne : ((n : Int) != (n : Int)) = false := by simp
    go_enter Try.func103, Try.ntmps103
    go_wp2_with fail
    go_loopw [13] (fun i wr => ∃ k : Nat, k ≤ n ∧ i = .int .i64 k ∧ Hid (EqB xs ys k) ∧ Below w.heap.size w wr) (fun i _ => n - (intOf i).toNat)
    case atStart => exact ⟨0, by omega, rfl, EqB.zero _ _, Below.refl _ _⟩
    case round =>
      obtain ⟨k, hk, rfl, hq, hb⟩ := hrel
      by_cases hlt : k < n
      · obtain ⟨ab, ao, x, rfl, hab, hxk, hcx⟩ := IntR.at_ (hx.below IntC.keeps hb) hlt
        obtain ⟨bb, bo, y, rfl, hbb, hyk, hcy⟩ := IntR.at_ (hy.below IntC.keeps hb) hlt
        have HX := Lib.hid hxk
        have HY := Lib.hid hyk
        clear hxk hyk
        by_cases hxy : x = y
        · subst hxy
          have hne2 : (x != x) = false := by simp
          go_wp2_with fail
          go_quiet (fail)
          go_wp2_with fail
          go_roundw
          case rel => exact ⟨k + 1, by omega, by go_num, EqB.succ hq.out (by rw [HX.out, HY.out]), below_drewN hb _⟩
          case measure => simp [intOf]; omega
        · have hne2 : (x != y) = true := by simpa using hxy
          have HN := Lib.hid hxy
          clear hxy
          go_wp2_with fail
          go_quiet (fail)
          go_wp2_with fail
          go_ret
          exact ⟨ret_bool (decide_eq_false (ne_of_at HX.out HY.out HN.out)).symm, below_drewN hb _⟩
      · obtain rfl : k = n := by omega
        go_wp2_with fail
        go_ret
        exact ⟨ret_bool (decide_eq_true (EqB.done hq.out hlx.out hly.out)).symm, hb⟩
  · have hne : ((n : Int) != (m : Int)) = true := by simp; omega
    have HN := Lib.hid hnm
    clear hnm
    go_enter Try.func103, Try.ntmps103
    go_wp2_with fail
    go_ret
    exact ⟨ret_bool (decide_eq_false (fun h => HN.out (by rw [← hlx.out, ← hly.out, h]))).symm, Below.refl _ _⟩
set_option maxHeartbeats 4000000 in
theorem satC (A B : Option Addr) (c n d b : Nat) (r xs : List Int) (w : World) (hr : IntR w w.heap.size A r.length r) (hx : IntR w w.heap.size B n xs) (h0 : w.cell? ⟨b, 0, none⟩ = some (.slice B n d)) :
    Calls Try.prog 102 (#[.slice A r.length c] ++ #[.pointer (some ⟨b, 0, none⟩)]) w fun e w' => e = .returned (.bool (decide (r = xs))) ∧ Below w.heap.size w w' := by
  have HR := Lib.hid hr
  have HX := Lib.hid hx
  clear hr hx
  go_enter Try.func102, Try.ntmps102
  go_wp2_with fail
  refine (iEqual _ _ _ _ _ _ r xs _ HR.out HX.out).mono ?_
  rintro e w1 ⟨rfl, hb1⟩
  go_wp2_with fail
  go_ret
  exact ⟨rfl, hb1⟩
set_option maxHeartbeats 4000000 in
theorem cycleC (v : Int) (b n d : Nat) (A : Option Addr) (w : World) (h0 : w.cell? ⟨b, 0, none⟩ = some (.slice A n d)) :
    Calls Try.prog 123 (#[.int .i64 v] ++ #[.pointer (some ⟨b, 0, none⟩)]) w fun e w' => e = .returned (.bool (decide ((n : Int) ≤ v))) ∧ Below w.heap.size w w' := by
  go_enter Try.func123, Try.ntmps123
  go_wp2_with fail
  go_ret
  exact ⟨by simp, Below.refl _ _⟩
set_option maxHeartbeats 4000000 in
theorem icycle (A : Option Addr) (n d : Nat) (xs : List Int) (w : World) (hx : IntR w w.heap.size A n xs) (hv : ∀ v ∈ xs, 0 ≤ v ∧ v ≤ 5) (h1 : 1 ≤ n) (h4 : n ≤ 4) :
    Calls Try.prog 106 #[.slice A n d] w fun e w' => e = .returned (.bool (cycF xs)) ∧ Below w.heap.size w w' := by
  have hn := hx.le
  have hl := Lib.hid hx.len
  have HV := Lib.hid hv
  obtain ⟨wa, hwa⟩ : ∃ wa, wa = w.alloc (.cells #[.slice A n d] 22) := ⟨_, rfl⟩
  have hb0 : Below w.heap.size w wa := by rw [hwa]; exact b_alloc _ _
  have hsz : wa.heap.size = w.heap.size + 1 := by rw [hwa, size_alloc_]
  have ha : TBlk 22 wa w.heap.size #[.slice A n d] := by rw [hwa]; exact TBlk.new _ _ _
  have HA := Lib.hid ha
  have GX := Lib.hid (IntR.on hx hb0)
  have a0 : wa.cell? ⟨w.heap.size, 0, none⟩ = some (.slice A n d) := ha.at_ 0 rfl
  clear ha hx hv
  go_enter Try.func106, Try.ntmps106
  go_wp2_with fail
  rw [← hwa]
  clear hwa
  refine (containsFuncInt A n d xs 123 _ (fun v => decide ((n : Int) ≤ v)) _ (enters_of Try.func123 (by kernel_rfl) rfl) GX.out (fun k x W _ hW => cycleC x _ n d A W ((hW.cell (p := ⟨w.heap.size, 0, none⟩) (by show w.heap.size < _; omega)).trans a0))).mono ?_
  rintro e wo ⟨rfl, hb1⟩
  have hz := hb1.size
  have a0 : wo.cell? ⟨w.heap.size, 0, none⟩ = some (.slice A n d) := (HA.out.below_ hb1 (by omega)).at_ 0 rfl
  have GO := Lib.hid (IntR.on GX.out hb1)
  cases h2 : xs.any fun v => decide ((n : Int) ≤ v)
  · have hall : ∀ v ∈ xs, v < (n : Int) := by
      intro v hv
      have := List.any_eq_false.1 h2 v hv
      simpa using this
    have HALL := Lib.hid hall
    have hcy : cycF xs = zeroAt xs := by
      unfold cycF
      rw [show (xs.all fun v => decide (v < (xs.length : Int))) = true by rw [List.all_eq_true]; intro v hv; rw [hl.out]; exact decide_eq_true (hall v hv), Bool.true_and]
    have HCY := Lib.hid hcy
    clear h2 hall hcy
    obtain ⟨ab, ao, x, hA, hab, hxk, hcx⟩ := IntR.at_ (k := 0) GO.out h1
    subst hA
    have hx0 := (HV.out x (List.mem_of_getElem? hxk)).1
    have hi1 : itF xs 1 = x.toNat := itF_eq hxk
    have HI1 := Lib.hid hi1
    have HXN := Lib.hid (HALL.out x (List.mem_of_getElem? hxk))
    have hcx0 : wo.cell? ⟨ab, ao, none⟩ = some (.int .i64 x) := hcx
    clear hxk hi1 hcx
    go_wp2_with fail
    go_loopw [3, 4] (fun a s wr => ∃ k : Nat, 1 ≤ k ∧ k ≤ n + 1 ∧ s = .int .i64 k ∧ a = .int .i64 (itF xs k) ∧ itF xs k < n ∧ Hid (∀ j, 1 ≤ j → j < k → itF xs j ≠ 0) ∧ wo = wr) (fun _ s _ => n + 1 - (intOf s).toNat)
    case atStart => exact ⟨1, by omega, by omega, rfl, by rw [HI1.out]; congr 1; omega, by rw [HI1.out]; have := HXN.out; omega, Lib.hid (fun j h1 h2 => by omega), rfl⟩
    case round =>
      obtain ⟨k, hk1, hk, rfl, rfl, hin, hq, rfl⟩ := hrel
      by_cases hz0 : itF xs k = 0
      · have t1 : ((itF xs k : Int) != 0) = false := by rw [hz0]; rfl
        have t2 : ((itF xs k : Int) == 0) = true := by rw [hz0]; rfl
        have HE := Lib.hid (show ((k : Int) == (n : Int)) = zeroAt xs by
          rcases Nat.lt_trichotomy k n with h | h | h
          · rw [zero_early hk1 (by rw [hl.out]; exact h) hz0]; exact beq_eq_false_iff_ne.2 (by omega)
          · subst h; rw [zero_now (by rw [hl.out]; exact hz0) (by rw [hl.out]; exact hq.out)]; simp
          · obtain rfl : k = n + 1 := by omega
            rw [zero_late (by rw [hl.out]; exact hq.out n h1 (by omega))]; exact beq_eq_false_iff_ne.2 (by omega))
        clear hz0
        go_wp2_with fail
        go_ret
        exact ⟨ret_bool (HE.out.trans HCY.out.symm), bgo hb0 hb1⟩
      · have t1 : ((itF xs k : Int) != 0) = true := by simpa using hz0
        have t2 : ((itF xs k : Int) == 0) = false := by simpa using hz0
        have HZ := Lib.hid hz0
        clear hz0
        by_cases hkn : k ≤ n
        · obtain ⟨bb, bo, y, e2, hbb, hyk, hcy⟩ := IntR.at_ (k := itF xs k) GO.out hin
          injection e2 with e2
          injection e2 with e3 e4
          subst e3 e4
          have hy0 := (HV.out y (List.mem_of_getElem? hyk)).1
          have HY := Lib.hid (itF_eq hyk)
          have HYN := Lib.hid (HALL.out y (List.mem_of_getElem? hyk))
          clear hyk
          go_wp2_with fail
          go_roundw
          case rel =>
            refine ⟨k + 1, by omega, by omega, by go_num, by rw [HY.out]; congr 1; omega, by rw [HY.out]; have := HYN.out; omega, Lib.hid (fun j h1 h2 => ?_), trivial⟩
            rcases Nat.lt_or_ge j k with h | h
            · exact hq.out j h1 h
            · obtain rfl : j = k := by omega
              exact HZ.out
          case measure => simp [intOf]; omega
        · obtain rfl : k = n + 1 := by omega
          have HE := Lib.hid (show zeroAt xs = false from zero_late (by rw [hl.out]; exact hq.out n h1 (by omega)))
          go_wp2_with fail
          go_ret
          exact ⟨ret_bool (HE.out.symm.trans HCY.out.symm), bgo hb0 hb1⟩
  · have HE := Lib.hid (show cycF xs = false by
      obtain ⟨v, hv, h3⟩ := List.any_eq_true.1 h2
      unfold cycF
      rw [show (xs.all fun v => decide (v < (xs.length : Int))) = false by
        rw [List.all_eq_false]; refine ⟨v, hv, ?_⟩; rw [hl.out]; simpa using h3]
      rfl)
    clear h2
    go_wp2_with fail
    go_ret
    exact ⟨ret_bool HE.out.symm, bgo hb0 hb1⟩
set_option maxHeartbeats 4000000 in
theorem iaccepts (us : List Value) (c : Con) (A : Option Addr) (n d : Nat) (xs : List Int) (w : World) (h : ConR w w.heap.size us c) (hx : IntR w w.heap.size A n xs) (hk : c.kind = 8) (ho : SatOk c xs) :
    Calls Try.prog 105 #[.agg us.toArray, .slice A n d] w fun e w' => e = .returned (.bool (autF c xs)) ∧ Below w.heap.size w w' := by
  obtain ⟨va, aa, ra, cv, ca, cr, rfl, g1, g2, g3, cap1, cap2⟩ := h
  obtain ⟨wa, hwa⟩ : ∃ wa, wa = w.alloc (.cells #[.int .i64 c.kind, .slice va c.vars.length cv, .slice aa c.args.length ca, .int .i64 c.bound, .slice ra c.rows.length cr] 29) := ⟨_, rfl⟩
  have hb0 : Below w.heap.size w wa := by rw [hwa]; exact b_alloc _ _
  have hsz : wa.heap.size = w.heap.size + 1 := by rw [hwa, size_alloc_]
  have ha : TBlk 29 wa w.heap.size #[.int .i64 c.kind, .slice va c.vars.length cv, .slice aa c.args.length ca, .int .i64 c.bound, .slice ra c.rows.length cr] := by rw [hwa]; exact TBlk.new _ _ _
  have G2 := Lib.hid (IntR.on g2 hb0)
  have G3 := Lib.hid (SlR.on (RowC.keeps IntC.keeps) (RowC.widens IntC.widens) g3 hb0)
  have GX := Lib.hid (IntR.on hx hb0)
  have hn := hx.le
  have hl := Lib.hid hx.len
  have h8 := Lib.hid (ho.a8 hk)
  have HO := Lib.hid ho
  have hr1 := h8.out.1
  have hr8 := h8.out.2.1
  have a2 : wa.cell? ⟨w.heap.size, 2, none⟩ = some (.slice aa c.args.length ca) := ha.at_ 2 rfl
  have a4 : wa.cell? ⟨w.heap.size, 4, none⟩ = some (.slice ra c.rows.length cr) := ha.at_ 4 rfl
  clear g1 g2 g3 cap1 cap2 hx ha hk ho
  go_enter Try.func105, Try.ntmps105
  go_wp2_with fail
  rw [← hwa]
  clear hwa
  go_loop [5, 10] (fun t i => ∃ k : Nat, k ≤ n ∧ i = .int .i64 k ∧ t = .int .i64 (autTo c.rows xs k) ∧ 0 ≤ autTo c.rows xs k ∧ autTo c.rows xs k < c.rows.length ∧ Hid (UpTo (autAt c.rows xs) k)) (fun _ i => n - (intOf i).toNat)
  case atStart => exact ⟨0, by omega, rfl, rfl, Int.le_refl 0, by show (0 : Int) < _; omega, UpTo.zero _⟩
  case round =>
    obtain ⟨k, hk, rfl, rfl, hs0, hs1, hq⟩ := hrel
    by_cases hlt : k < n
    · obtain ⟨ab, ao, x, rfl, hab, hxk, hcx⟩ := IntR.at_ GX.out hlt
      have hx0 := (HO.out.val x (List.mem_of_getElem? hxk)).1
      have hx5 := (HO.out.val x (List.mem_of_getElem? hxk)).2
      obtain ⟨rb, ro, r, u, rfl, hrb, hrk, hcr, A1, c1, rfl, hr6⟩ := SlR.at_ (k := (autTo c.rows xs k).toNat) G3.out (by omega)
      have h6 := (h8.out.2.2 r (List.mem_of_getElem? hrk))
      have hlr := h6.1
      rw [hlr] at hcr hr6
      obtain ⟨yb, yo, y, rfl, hyb, hyk, hcy⟩ := IntR.at_ (k := x.toNat) hr6 (by omega)
      have hy := h6.2 y (List.mem_of_getElem? hyk)
      have HS := Lib.hid (autTo_eq hrk hxk hyk)
      have HY := Lib.hid hy
      clear hxk hrk hyk h6 hy
      cases ht : decide (y < 0)
      · have HT := Lib.hid ht
        go_wp2_with fail
        go_round
        case rel => exact ⟨k + 1, by omega, by go_num, by rw [HS.out], by rw [HS.out]; have := of_decide_eq_false HT.out; omega, by rw [HS.out]; exact HY.out.2, UpTo.succ hq.out (by unfold autAt; rw [HS.out, HT.out]; rfl)⟩
        case measure => simp [intOf]; omega
      · have HT := Lib.hid ht
        go_wp2_with fail
        go_ret
        refine ⟨ret_bool ?_, hb0⟩
        unfold autF
        rw [all_range_no (i := k) (by rw [hl.out]; exact hlt) (by unfold autAt; rw [HS.out, HT.out]; rfl)]; rfl
    · obtain rfl : k = n := by omega
      go_wp2_with fail
      refine (containsInt _ _ _ c.args _ _ G2.out).mono ?_
      rintro e w1 ⟨rfl, hb1⟩
      have HE := Lib.hid (show autF c xs = decide (autTo c.rows xs k ∈ c.args) by unfold autF; rw [hl.out, UpTo.done hq.out, Bool.true_and])
      go_wp2_with fail
      go_ret
      exact ⟨ret_bool HE.out.symm, bgo hb0 hb1⟩
set_option maxHeartbeats 4000000 in
theorem iroomy (us : List Value) (c : Con) (A : Option Addr) (n d : Nat) (xs : List Int) (w : World) (h : ConR w w.heap.size us c) (hx : IntR w w.heap.size A n xs) (hk : c.kind = 7) (ho : SatOk c xs) :
    Calls Try.prog 104 #[.agg us.toArray, .slice A n d] w fun e w' => e = .returned (.bool (roomF c xs)) ∧ Below w.heap.size w w' := by
  obtain ⟨va, aa, ra, cv, ca, cr, rfl, g1, g2, g3, cap1, cap2⟩ := h
  obtain ⟨wa, hwa⟩ : ∃ wa, wa = w.alloc (.cells #[.int .i64 c.kind, .slice va c.vars.length cv, .slice aa c.args.length ca, .int .i64 c.bound, .slice ra c.rows.length cr] 29) := ⟨_, rfl⟩
  have hb0 : Below w.heap.size w wa := by rw [hwa]; exact b_alloc _ _
  have hsz : wa.heap.size = w.heap.size + 1 := by rw [hwa, size_alloc_]
  have ha : TBlk 29 wa w.heap.size #[.int .i64 c.kind, .slice va c.vars.length cv, .slice aa c.args.length ca, .int .i64 c.bound, .slice ra c.rows.length cr] := by rw [hwa]; exact TBlk.new _ _ _
  have G2 := Lib.hid (IntR.on g2 hb0)
  have GX := Lib.hid (IntR.on hx hb0)
  have hl := Lib.hid hx.len
  have h7 := ho.a7 hk
  have h4 := ho.four
  rw [hx.len] at h7 h4
  have H7 := Lib.hid h7
  obtain ⟨na, hna⟩ : ∃ na, na = c.args.length := ⟨_, rfl⟩
  have HNA := Lib.hid hna
  have a2 : wa.cell? ⟨w.heap.size, 2, none⟩ = some (.slice aa na ca) := by rw [hna]; exact ha.at_ 2 rfl
  have a3 : wa.cell? ⟨w.heap.size, 3, none⟩ = some (.int .i64 c.bound) := ha.at_ 3 rfl
  rw [← hna] at G2 h7
  clear g1 g2 g3 cap1 cap2 hx ha hk ho hna
  go_enter Try.func104, Try.ntmps104
  go_wp2_with fail
  rw [← hwa]
  clear hwa
  go_loop [12] (fun t => ∃ j : Nat, j ≤ 15 ∧ t = .int .i64 j ∧ Hid (UpTo (roomAt c xs) j)) (fun t => 15 - (intOf t).toNat)
  case atStart => exact ⟨0, by omega, rfl, UpTo.zero _⟩
  case round =>
    obtain ⟨j, hj, rfl, hq⟩ := hrel
    by_cases hlt : j < 15
    · go_wp2_with fail
      go_loop [7, 17] (fun t i => ∃ k : Nat, k ≤ n ∧ i = .int .i64 k ∧ t = .int .i64 (loadTo c.args xs n j k)) (fun _ i => n - (intOf i).toNat)
      case atStart => exact ⟨0, by omega, rfl, rfl⟩
      case round =>
        obtain ⟨k, hk, rfl, rfl⟩ := hrel
        by_cases hlt2 : k < n
        · obtain ⟨xb, xo, x, rfl, hxb, hxk, hcx⟩ := IntR.at_ GX.out hlt2
          obtain ⟨ab, ao, a, rfl, hab, hak, hca⟩ := IntR.at_ (k := k) G2.out (by omega)
          obtain ⟨bb, bo, b, e2, hbb, hbk, hcb⟩ := IntR.at_ (k := n + k) G2.out (by omega)
          injection e2 with e2
          injection e2 with e3 e4
          subst e3 e4
          have HR := Lib.hid (runs_eq (t := j) hak hxk)
          have HBK := Lib.hid hbk
          have hkn : (k : Int) < (na : Int) := by omega
          have hadd : wrap64 ((n : Int) + (k : Int)) = ((n + k : Nat) : Int) := by rw [IntWalk.wrap64_in _ ⟨by omega, by omega⟩]; omega
          have hnk : ((n + k : Nat) : Int) < (na : Int) := by omega
          have hnk0 : (0 : Int) ≤ ((n + k : Nat) : Int) := by omega
          clear hxk hak hbk
          cases t1 : decide (x ≤ (j : Int))
          · have HS := Lib.hid (loadTo_no (m := n) (i := k) (HR.out.trans (by rw [t1]; rfl)))
            go_wp2_with fail
            go_round
            case rel => exact ⟨k + 1, by omega, by go_num, by rw [HS.out]⟩
            case measure => simp [intOf]; omega
          · cases t2 : decide ((j : Int) < wrap64 (x + a))
            · have HS := Lib.hid (loadTo_no (m := n) (i := k) (HR.out.trans (by rw [t1, t2]; rfl)))
              go_wp2_with fail
              go_round
              case rel => exact ⟨k + 1, by omega, by go_num, by rw [HS.out]⟩
              case measure => simp [intOf]; omega
            · have HS := Lib.hid (loadTo_yes (m := n) (i := k) (HR.out.trans (by rw [t1, t2]; rfl)) HBK.out)
              go_wp2_with fail
              go_round
              case rel => exact ⟨k + 1, by omega, by go_num, by rw [HS.out]⟩
              case measure => simp [intOf]; omega
        · obtain rfl : k = n := by omega
          cases t3 : decide (c.bound < loadTo c.args xs k j k)
          · have T3 := Lib.hid t3
            go_wp2_with fail
            go_round
            case rel => exact ⟨j + 1, by omega, by go_num, UpTo.succ hq.out (by unfold roomAt; rw [hl.out, T3.out]; rfl)⟩
            case measure => simp [intOf]; omega
          · have T3 := Lib.hid t3
            go_wp2_with fail
            go_ret
            refine ⟨ret_bool ?_, hb0⟩
            unfold roomF
            rw [all_range_no (i := j) hlt (by unfold roomAt; rw [hl.out, T3.out]; rfl)]
    · obtain rfl : j = 15 := by omega
      have HE := Lib.hid (show roomF c xs = true from UpTo.done hq.out)
      go_wp2_with fail
      go_ret
      exact ⟨ret_bool HE.out.symm, hb0⟩
theorem weighted_n (A B : Option Addr) (na n c d : Nat) (xs ys : List Int) (w : World) (e : na = n) (hx : IntR w w.heap.size A na xs) (hy : IntR w w.heap.size B n ys) :
    Calls Try.prog 101 #[.slice A na c, .slice B n d] w fun e w' => e = .returned (.int .i64 (valTo xs ys n)) ∧ Below w.heap.size w w' := by
  subst e; exact weighted A B na c d xs ys w hx hy
set_option maxHeartbeats 8000000 in
theorem isatisfied (us : List Value) (c : Con) (A : Option Addr) (n d : Nat) (xs : List Int) (w : World) (h : ConR w w.heap.size us c) (hx : IntR w w.heap.size A n xs) (hcap : n ≤ d) (ho : SatOk c xs) :
    Calls Try.prog 63 #[.agg us.toArray, .slice A n d] w fun e w' => e = .returned (.bool (satF c xs)) ∧ Below w.heap.size w w' := by
  have HC := Lib.hid h
  obtain ⟨va, aa, ra, cv, ca, cr, rfl, g1, g2, g3, cap1, cap2⟩ := h
  obtain ⟨na, hna⟩ : ∃ na, na = c.args.length := ⟨_, rfl⟩
  rw [← hna] at g2 HC
  rw [← hna]
  obtain ⟨w1, hw1⟩ : ∃ w1, w1 = w.alloc (.cells #[.int .i64 c.kind, .slice va c.vars.length cv, .slice aa na ca, .int .i64 c.bound, .slice ra c.rows.length cr] 29) := ⟨_, rfl⟩
  have hsz1 : w1.heap.size = w.heap.size + 1 := by rw [hw1, size_alloc_]
  have ha1 : TBlk 29 w1 w.heap.size #[.int .i64 c.kind, .slice va c.vars.length cv, .slice aa na ca, .int .i64 c.bound, .slice ra c.rows.length cr] := by rw [hw1]; exact TBlk.new _ _ _
  obtain ⟨wa, hwa⟩ : ∃ wa, wa = w1.alloc (.cells #[.slice A n d] 22) := ⟨_, rfl⟩
  have hb0 : Below w.heap.size w wa := by rw [hwa, hw1]; exact b_alloc2 _ _ _
  have hsz : wa.heap.size = w.heap.size + 1 + 1 := by rw [hwa, size_alloc_, hsz1]
  have ha : TBlk 29 wa w.heap.size #[.int .i64 c.kind, .slice va c.vars.length cv, .slice aa na ca, .int .i64 c.bound, .slice ra c.rows.length cr] := by rw [hwa]; exact ha1.below_ (b_alloc _ _) (by omega)
  have hx1 : TBlk 22 wa (w.heap.size + 1) #[.slice A n d] := by
    have := TBlk.new w1 #[.slice A n d] 22
    rw [hsz1, ← hwa] at this; exact this
  rw [hw1] at hwa
  clear hw1 ha1 hsz1
  have HA := Lib.hid ha
  have HX := Lib.hid hx1
  have G2 := Lib.hid (IntR.on g2 hb0)
  have G3 := Lib.hid (SlR.on (RowC.keeps IntC.keeps) (RowC.widens IntC.widens) g3 hb0)
  have GX := Lib.hid (IntR.on hx hb0)
  have HCA := Lib.hid (ConR.on HC.out hb0)
  have HNA := Lib.hid hna
  have HO := Lib.hid ho
  have hl := Lib.hid hx.len
  have hn := hx.le
  have a0 : wa.cell? ⟨w.heap.size, 0, none⟩ = some (.int .i64 c.kind) := ha.at_ 0 rfl
  have a1 : wa.cell? ⟨w.heap.size, 1, none⟩ = some (.slice va c.vars.length cv) := ha.at_ 1 rfl
  have a2 : wa.cell? ⟨w.heap.size, 2, none⟩ = some (.slice aa na ca) := ha.at_ 2 rfl
  have a3 : wa.cell? ⟨w.heap.size, 3, none⟩ = some (.int .i64 c.bound) := ha.at_ 3 rfl
  have a4 : wa.cell? ⟨w.heap.size, 4, none⟩ = some (.slice ra c.rows.length cr) := ha.at_ 4 rfl
  have b0 : wa.cell? ⟨w.heap.size + 1, 0, none⟩ = some (.slice A n d) := hx1.at_ 0 rfl
  clear ha hx1 g1 g2 g3 cap1 cap2 hx ho hna
  go_enter Try.func63, Try.ntmps63
  rcases HO.out.kinds with k | k | k | k | k | k | k | k | k
  · rw [k] at a0 hwa ⊢
    have HK := Lib.hid k
    have hnn : na = n := by rw [HNA.out, HO.out.a1 k, hl.out]
    subst hnn
    have HE := Lib.hid (show satF c xs = decide (valTo c.args xs na ≤ c.bound) by rw [sat1 k, hl.out])
    clear k
    go_wp2_with fail
    rw [← hwa]
    clear hwa
    have p2 : ∀ p : Later wa, p.val.cell? ⟨w.heap.size, 2, none⟩ = some (.slice aa na ca) := fun p => p.cell (by omega) a2
    have p3 : ∀ p : Later wa, p.val.cell? ⟨w.heap.size, 3, none⟩ = some (.int .i64 c.bound) := fun p => p.cell (by omega) a3
    have q0 : ∀ p : Later wa, p.val.cell? ⟨w.heap.size + 1, 0, none⟩ = some (.slice A na d) := fun p => p.cell (by omega) b0
    refine wp_region_later (by kernel_rfl) (by kernel_rfl) ?_
    repeat (go_big_quiet_step (first | (go_at_call 101; exact calls_later (weighted_n _ _ _ _ _ _ c.args xs _ rfl (IntR.on G2.out (Later.below _)) (IntR.on GX.out (Later.below _))))))
    refine wpQuiet_nil ?_
    intro w5 hw'
    obtain ⟨⟨w6, hb5⟩, hw''⟩ := hw'
    subst hw''
    go_wp2_with fail
    go_ret
    exact ⟨ret_bool HE.out.symm, bgo hb0 hb5⟩
  · rw [k] at a0 hwa ⊢
    have HK := Lib.hid k
    obtain ⟨h21, h22⟩ := HO.out.a2 k
    obtain rfl : na = 1 := by rw [HNA.out, h21]
    obtain rfl : n = 2 := by rw [← hl.out, h22]
    obtain ⟨xb, xo, x0, rfl, hxb, hxk0, hcx0⟩ := IntR.at_ (k := 0) GX.out (by omega)
    obtain ⟨xb', xo', x1, e2, hxb', hxk1, hcx1⟩ := IntR.at_ (k := 1) GX.out (by omega)
    injection e2 with e2
    injection e2 with e3 e4
    subst e3 e4
    obtain ⟨ab, ao, y0, rfl, hab, hak0, hcy0⟩ := IntR.at_ (k := 0) G2.out (by omega)
    have HE := Lib.hid (show satF c xs = (x0 != wrap64 (x1 + y0)) by rw [sat2 k, gat_eq hxk0, gat_eq hxk1, gat_eq hak0])
    have f0 : wa.cell? ⟨xb, xo, none⟩ = some (.int .i64 x0) := hcx0
    have f1 : wa.cell? ⟨xb, xo + 1, none⟩ = some (.int .i64 x1) := hcx1
    have f2 : wa.cell? ⟨ab, ao, none⟩ = some (.int .i64 y0) := hcy0
    clear k h21 h22 hxk0 hxk1 hak0 hcx0 hcx1 hcy0
    go_wp2_with fail
    rw [← hwa]
    clear hwa
    go_quiet (fail)
    go_wp2_with fail
    go_ret
    exact ⟨ret_bool HE.out.symm, below_drewN hb0 _⟩
  · rw [k] at a0 hwa ⊢
    have HE := Lib.hid (show satF c xs = disF xs from sat3 k)
    clear k
    go_wp2_with fail
    rw [← hwa]
    clear hwa
    refine (idistinct _ _ _ _ _ hcap GX.out).mono ?_
    rintro e w2 ⟨rfl, hb2⟩
    go_wp2_with fail
    go_ret
    exact ⟨ret_bool HE.out.symm, bgo hb0 hb2⟩
  · rw [k] at a0 hwa ⊢
    obtain rfl : n = 2 := by rw [← hl.out, HO.out.a4 k]
    obtain ⟨xb, xo, x0, rfl, hxb, hxk0, hcx0⟩ := IntR.at_ (k := 0) GX.out (by omega)
    obtain ⟨xb', xo', x1, e2, hxb', hxk1, hcx1⟩ := IntR.at_ (k := 1) GX.out (by omega)
    injection e2 with e2
    injection e2 with e3 e4
    subst e3 e4
    have hx0 := (HO.out.val x0 (List.mem_of_getElem? hxk0)).1
    have f0 : wa.cell? ⟨xb, xo, none⟩ = some (.int .i64 x0) := hcx0
    have f1 : wa.cell? ⟨xb, xo + 1, none⟩ = some (.int .i64 x1) := hcx1
    have hE : satF c xs = (decide (x0 < (na : Int)) && (gat c.args x0.toNat == x1)) := by rw [sat4 k, gat_eq hxk0, gat_eq hxk1, HNA.out]
    have HE := Lib.hid hE
    clear k hxk0 hxk1 hcx0 hcx1 hE
    cases t1 : decide (x0 < (na : Int))
    · have HF := Lib.hid (HE.out.trans (by rw [t1, Bool.false_and]))
      go_wp2_with fail
      rw [← hwa]
      clear hwa
      go_quiet (fail)
      go_wp2_with fail
      go_ret
      exact ⟨ret_bool HF.out.symm, below_drewN hb0 _⟩
    · have hlt := of_decide_eq_true t1
      obtain ⟨ab, ao, y0, rfl, hab, hak0, hcy0⟩ := IntR.at_ (k := x0.toNat) G2.out (by omega)
      have HF := Lib.hid (HE.out.trans (by rw [t1, gat_eq hak0, Bool.true_and]))
      clear hak0
      go_wp2_with fail
      rw [← hwa]
      clear hwa
      go_quiet (fail)
      go_wp2_with fail
      go_ret
      exact ⟨ret_bool HF.out.symm, below_drewN hb0 _⟩
  · rw [k] at a0 hwa ⊢
    have HE := Lib.hid (show satF c xs = hasF c.rows xs from sat5 k)
    clear k
    go_wp2_with fail
    rw [← hwa]
    clear hwa
    refine (containsFuncRow ra c.rows.length cr c.rows 102 _ (fun r => decide (r = xs)) _ (enters_of Try.func102 (by kernel_rfl) rfl) G3.out (fun j r W A1 d1 _ hW hr => satC A1 A d1 n d _ r xs W hr (IntR.on GX.out hW) ((hW.cell (p := ⟨w.heap.size + 1, 0, none⟩) (by show w.heap.size + 1 < _; omega)).trans b0))).mono ?_
    rintro e w2 ⟨rfl, hb2⟩
    clear a0 a1 a2 a3 a4 b0
    go_wp2_with fail
    go_ret
    exact ⟨ret_bool HE.out.symm, bgo hb0 hb2⟩
  · rw [k] at a0 hwa ⊢
    obtain rfl : na = 1 := by rw [HNA.out, HO.out.a6 k]
    obtain ⟨ab, ao, y0, rfl, hab, hak0, hcy0⟩ := IntR.at_ (k := 0) G2.out (by omega)
    have HE := Lib.hid (show satF c xs = (cntTo xs y0 n == c.bound) by rw [sat6 k, gat_eq hak0, hl.out])
    have f2 : wa.cell? ⟨ab, ao, none⟩ = some (.int .i64 y0) := hcy0
    clear k hak0 hcy0
    go_wp2_with fail
    rw [← hwa]
    clear hwa
    go_loop [5, 69] (fun t i => ∃ k : Nat, k ≤ n ∧ i = .int .i64 k ∧ t = .int .i64 (cntTo xs y0 k)) (fun _ i => n - (intOf i).toNat)
    case atStart => exact ⟨0, by omega, rfl, rfl⟩
    case round =>
      obtain ⟨k, hk, rfl, rfl⟩ := hrel
      by_cases hlt : k < n
      · obtain ⟨xb, xo, x, rfl, hxb, hxk, hcx⟩ := IntR.at_ GX.out hlt
        cases t1 : (x == y0)
        · have HS := Lib.hid (cntTo_no hxk t1)
          clear hxk
          go_wp2_with fail
          go_round
          case rel => exact ⟨k + 1, by omega, by go_num, by rw [HS.out]⟩
          case measure => simp [intOf]; omega
        · have HS := Lib.hid (cntTo_yes hxk t1)
          clear hxk
          go_wp2_with fail
          go_round
          case rel => exact ⟨k + 1, by omega, by go_num, by rw [HS.out]⟩
          case measure => simp [intOf]; omega
      · obtain rfl : k = n := by omega
        go_wp2_with fail
        go_ret
        exact ⟨ret_bool HE.out.symm, hb0⟩
  · have HK := Lib.hid k
    have HE := Lib.hid (show satF c xs = roomF c xs from sat7 k)
    rw [k] at a0 hwa ⊢
    clear k
    go_wp2_with fail
    rw [← hwa]
    clear hwa
    refine (iroomy _ c _ _ _ xs _ (by have := HCA.out; rw [HK.out] at this; exact this) GX.out HK.out HO.out).mono ?_
    rintro e w2 ⟨rfl, hb2⟩
    go_wp2_with fail
    go_ret
    exact ⟨ret_bool HE.out.symm, bgo hb0 hb2⟩
  · have HK := Lib.hid k
    have HE := Lib.hid (show satF c xs = autF c xs from sat8 k)
    rw [k] at a0 hwa ⊢
    clear k
    go_wp2_with fail
    rw [← hwa]
    clear hwa
    refine (iaccepts _ c _ _ _ xs _ (by have := HCA.out; rw [HK.out] at this; exact this) GX.out HK.out HO.out).mono ?_
    rintro e w2 ⟨rfl, hb2⟩
    go_wp2_with fail
    go_ret
    exact ⟨ret_bool HE.out.symm, bgo hb0 hb2⟩
  · rw [k] at a0 hwa ⊢
    have HE := Lib.hid (show satF c xs = cycF xs from sat9 k)
    clear k
    go_wp2_with fail
    rw [← hwa]
    clear hwa
    refine (icycle _ _ _ xs _ GX.out HO.out.val (by have := HO.out.one; rw [hl.out] at this; exact this) (by have := HO.out.four; rw [hl.out] at this; exact this)).mono ?_
    rintro e w2 ⟨rfl, hb2⟩
    go_wp2_with fail
    go_ret
    exact ⟨ret_bool HE.out.symm, bgo hb0 hb2⟩
end Go.Proofs.Ytfmdgdamelkelaa
