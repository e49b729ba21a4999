/- The fixpoint of filtering: both sides. -/
import Derived.Test.YtejfnkbdmlijbaaFixP
import Derived.Test.YtejfnkbdmlijbaaCsi
import Derived.Deep.LoopGhost
namespace Go.Proofs.Ytejfnkbdmlijbaa
open Go.ChangeShapes Go.WideShapes Go.ChangeAt Go.RowKit
open Go.Shelf
set_option linter.unusedVariables false
set_option linter.unusedSimpArgs false
set_option maxRecDepth 100000

theorem still_iff {cs : List Con} {ds : List Int} (hv : DiffC cs ds.length) (hd : Doms ds) : stillF ⟨ds, cs⟩ = decide (foldF cs ds = ds) := by
  rw [Bool.eq_iff_iff, decide_eq_true_eq, ← conF_iff hv hd]
  unfold stillF conF
  simp
theorem zmem_iff (ds : List Int) : decide ((0 : Int) ∈ ds) = hasZ ds := by
  rw [Bool.eq_iff_iff]; unfold hasZ; simp
theorem foldF_snoc {cs : List Con} {k : Nat} {c : Con} (h : cs[k]? = some c) (ds : List Int) : foldF (cs.take (k + 1)) ds = filF c (foldF (cs.take k) ds) := by
  rw [List.take_add_one, h]
  unfold foldF
  rw [List.foldl_append]
  rfl
set_option maxHeartbeats 8000000 in
theorem sisConsistentD (us : List Value) (m : Mod) (ds : List Int) (A : Option Addr) (n d : Nat) (w : World) (h : ModR w w.heap.size us m) (hx : IntR w w.heap.size A n ds) (hn1 : 1 ≤ n) (hn4 : n ≤ 4) (h6 : m.cons.length ≤ 6) (hcs : ∀ c ∈ m.cons, vconF c (n : Int) = true) (hdd : Doms ds) :
    Calls Try.prog 115 #[.agg us.toArray, .slice A n d] w fun e w' => e = .returned (.bool (stillF ⟨ds, m.cons⟩)) ∧ Below w.heap.size w w' := by
  have hl := Lib.hid hx.len
  have HCS := Lib.hid hcs
  have HDD := Lib.hid hdd
  obtain ⟨da, ca, cd, cc, rfl, g1, g2, -⟩ := h
  obtain ⟨wa, hwa⟩ : ∃ wa, wa = w.alloc (.cells #[.slice da m.doms.length cd, .slice ca m.cons.length cc] 26) := ⟨_, rfl⟩
  have hb0 : Below w.heap.size w wa := by rw [hwa]; exact b_alloc _ _
  have ha : TBlk 26 wa w.heap.size #[.slice da m.doms.length cd, .slice ca m.cons.length cc] := by rw [hwa]; exact TBlk.new _ _ _
  have hsw : w.heap.size < wa.heap.size := ha.lt
  have HA := Lib.hid ha
  have HX0 := Lib.hid hx
  have HG2 := Lib.hid g2
  have H2 := Lib.hid (ConsR.on g2 hb0)
  obtain ⟨nc, hnc⟩ : ∃ nc, m.cons.length = nc := ⟨_, rfl⟩
  have hnc6 : nc ≤ 6 := by omega
  have HNC := Lib.hid hnc
  rw [hnc] at ha H2 HA ⊢
  rw [hnc] at HG2
  clear hx g1 g2 hcs hdd ha hnc h6
  go_enter Try.func115, Try.ntmps115
  rw [HNC.out] at hwa
  go_wp2_with fail
  rw [← hwa]
  clear hwa
  go_loopw [5] (fun t5 wr => ∃ k : Nat, k ≤ nc ∧ t5 = .int .i64 k ∧ Hid (AllB (fun c => decide (filF c ds = ds)) m.cons k) ∧ Hid (Below wa.heap.size wa wr)) (fun t5 _ => nc - (intOf t5).toNat)
  case atStart => exact ⟨0, by omega, rfl, AllB.zero _ _, Below.refl _ _⟩
  case round =>
    obtain ⟨k, hk, rfl, hq, hbk⟩ := hrel
    have e1 := (HA.out.below_ hbk.out HA.out.lt).at_ 1 rfl
    by_cases hlt : k < nc
    · obtain ⟨ab, ao, c, va, aa, ra, cv, ca', cr, rfl, hab, hxk, c0, c1, c2, c3, c4, hc⟩ := ConR.at_ (SlK.below ConR.keeps H2.out hbk.out) hlt
      have HC := Lib.hid (ConR.widens _ _ _ _ _ hbk.out.size hc)
      have HVC := Lib.hid (HCS.out c (List.mem_of_getElem? hxk))
      have HXK := Lib.hid hxk
      have HBW := Lib.hid (bgo hb0 hbk.out)
      clear hc hxk
      go_wp2_with fail
      refine (ssupported _ c _ _ _ ds _ HC.out (IntR.on HX0.out HBW.out) HVC.out hn1 hn4 HDD.out).mono ?_
      rintro e w3 ⟨v3, rfl, hh3, hb3⟩
      obtain ⟨A3, c3', rfl, r3⟩ := IntR.of_hold hh3 (by omega)
      have HBW3 := Lib.hid (bgo HBW.out hb3)
      have HBK3 := Lib.hid (hbk.out.trans (hb3.mono hbk.out.size))
      clear hh3 hb3 c0 c1 c2 c3 c4 e1
      go_wp2_with fail
      refine (sequalInts _ _ _ _ _ _ _ _ _ r3 (IntR.on HX0.out HBW3.out)).mono ?_
      rintro e w4 ⟨rfl, hb4⟩
      have HBK4 := Lib.hid (HBK3.out.trans (hb4.mono HBK3.out.size))
      clear hb4 r3
      by_cases hs : filF c ds = ds
      · have HT := Lib.hid (decide_eq_true hs)
        rw [HT.out]
        clear hs
        go_wp2_with fail
        go_roundw
        case rel => exact ⟨k + 1, by omega, by go_num, AllB.succ hq.out HXK.out HT.out, HBK4.out⟩
        case measure => simp [intOf]; omega
      · have HT := Lib.hid (decide_eq_false hs)
        have HE := Lib.hid (show stillF ⟨ds, m.cons⟩ = false from all_no (f := fun c => decide (filF c ds = ds)) HXK.out HT.out)
        rw [HT.out]
        clear hs
        go_wp2_with fail
        go_ret
        exact ⟨ret_bool HE.out.symm, bgo hb0 HBK4.out⟩
    · obtain rfl : k = nc := by omega
      have HE := Lib.hid (show stillF ⟨ds, m.cons⟩ = true from AllB.done hq.out (Nat.le_of_eq HNC.out))
      go_wp2_with fail
      go_ret
      exact ⟨ret_bool HE.out.symm, bgo hb0 hbk.out⟩
set_option maxHeartbeats 1500000 in
theorem sfixpoint (us : List Value) (m : Mod) (ds : List Int) (A : Option Addr) (n d : Nat) (w : World) (h : ModR w w.heap.size us m) (hx : IntR w w.heap.size A n ds) (hn1 : 1 ≤ n) (hn4 : n ≤ 4) (h6 : m.cons.length ≤ 6) (hcs : ∀ c ∈ m.cons, vconF c (n : Int) = true) (hdd : Doms ds) :
    Calls Try.prog 76 #[.agg us.toArray, .slice A n d] w fun e w' => ∃ v', e = .returned v' ∧ HoldR w' w.heap.size 3 1 v' n ((fixF m.cons ds).map (.int .i64)) ∧ Below w.heap.size w w' := by
  obtain ⟨i0, hi0, hz0, hz1, hz2⟩ := info_parts info_int
  have hl := Lib.hid hx.len
  have HDC := Lib.hid (show DiffC m.cons n from fun c hc => vcon_diff (hcs c hc) hn4)
  have HCS := Lib.hid hcs
  have HMR := Lib.hid h
  obtain ⟨da, ca, cd, cc, rfl, g1, g2, -⟩ := id h
  obtain ⟨wa, hwa⟩ : ∃ wa, wa = w.alloc (.cells #[.slice da m.doms.length cd, .slice ca m.cons.length cc] 26) := ⟨_, rfl⟩
  have hb0 : Below w.heap.size w wa := by rw [hwa]; exact b_alloc _ _
  have ha : TBlk 26 wa w.heap.size #[.slice da m.doms.length cd, .slice ca m.cons.length cc] := by rw [hwa]; exact TBlk.new _ _ _
  have HA := Lib.hid ha
  have HX0 := Lib.hid hx
  have HG2 := Lib.hid g2
  have HDD := Lib.hid hdd
  have hsw : w.heap.size < wa.heap.size := ha.lt
  obtain ⟨nc, hnc⟩ : ∃ nc, m.cons.length = nc := ⟨_, rfl⟩
  have HNC := Lib.hid hnc
  have hnc6 : nc ≤ 6 := by omega
  rw [hnc] at HA HG2 hwa HMR ⊢
  clear hx g1 g2 hcs hdd ha h hnc
  go_enter Try.func76, Try.ntmps76
  go_wp2_with fail
  rw [← hwa]
  clear hwa
  refine (scopyRF _ _ _ ds _ (IntR.on HX0.out hb0) (by omega) (by omega)).mono ?_
  rintro e w1 ⟨v1, rfl, o1, hb1⟩
  have h1 := HoldR.of_own o1.1
  rw [hl.out] at h1
  obtain ⟨B1, c1, rfl⟩ := h1.form
  have HH1 := Lib.hid h1
  have HB1 := Lib.hid (show Below wa.heap.size wa w1 from hb1)
  clear o1 h1 hb1
  go_wp2_with fail
  go_loopg [5] (card ds) (fun gk v wr => ∃ (xs : List Int) (B : Option Addr) (c : Nat), v = .slice B n c ∧ Hid (HoldR wr wa.heap.size 3 1 (.slice B n c) n (xs.map (.int .i64))) ∧ Hid (fixF m.cons xs = fixF m.cons ds) ∧ Hid (Doms xs) ∧ Hid (xs.length = n) ∧ card xs ≤ gk ∧ Hid (Below wa.heap.size wa wr))
  case atStart => exact ⟨ds, B1, c1, rfl, HH1, Lib.hid rfl, HDD, hl, Nat.le_refl _, HB1⟩
  case round =>
    obtain ⟨xs, B, c, rfl, hh, hfx, hdx, hlx, hcard, hbk⟩ := hrel
    clear HH1 HB1
    have a0 := (HA.out.below_ hbk.out HA.out.lt).at_ 0 rfl
    have a1 := (HA.out.below_ hbk.out HA.out.lt).at_ 1 rfl
    obtain ⟨B', c', e', rX⟩ := IntR.of_hold hh.out (by omega)
    injection e' with e1 _ e3
    subst e1 e3
    have RX := Lib.hid rX
    have HBW := Lib.hid (bgo hb0 hbk.out)
    clear rX
    go_wp2_with fail
    refine (sisConsistentD _ m xs _ n _ _ (ModR.on HMR.out HBW.out) RX.out hn1 hn4 h6 HCS.out hdx.out).mono ?_
    rintro e w2 ⟨rfl, hb2⟩
    have HBK2 := Lib.hid (hbk.out.trans (hb2.mono hbk.out.size))
    have RX2 := Lib.hid (IntR.on RX.out hb2)
    have HH2 := Lib.hid (hh.out.below hb2)
    have HB2 := Lib.hid (bgo HBW.out hb2)
    have HDX := Lib.hid (show DiffC m.cons xs.length by rw [hlx.out]; exact HDC.out)
    clear hh hbk RX HBW a0 a1 hb2
    have hst := Lib.hid (still_iff HDX.out hdx.out)
    cases ts : stillF ⟨xs, m.cons⟩
    · have hne := Lib.hid (show foldF m.cons xs ≠ xs from of_decide_eq_false (hst.out.symm.trans ts))
      clear ts
      go_wp2_with fail
      refine (shasEmpty _ _ _ xs _ RX2.out).mono ?_
      rintro e w3 ⟨rfl, rfl⟩
      cases te : decide ((0 : Int) ∈ xs)
      · have hz := Lib.hid (show hasZ xs = false by rw [← zmem_iff]; exact te)
        clear te
        go_wp2_with fail
        go_loopw [5, 6] (fun v i wy => ∃ (j : Nat) (ys : List Int) (B2 : Option Addr) (c2 : Nat), j ≤ nc ∧ i = .int .i64 j ∧ v = .slice B2 n c2 ∧ Hid (HoldR wy wa.heap.size 3 1 (.slice B2 n c2) n (ys.map (.int .i64))) ∧ Hid (ys = foldF (m.cons.take j) xs) ∧ Hid (Below wa.heap.size wa wy)) (fun _ i _ => nc - (intOf i).toNat)
        case atStart => exact ⟨0, xs, _, _, by omega, rfl, rfl, HH2, Lib.hid (by simp [foldF]), HBK2⟩
        case round =>
          obtain ⟨j, ys, B2, c2, hj, rfl, rfl, hh3, hys, hbk3⟩ := hrel
          clear HH2 HBK2 RX2 HB2
          rename World => wy
          have a1 := (HA.out.below_ hbk3.out HA.out.lt).at_ 1 rfl
          have HBW := Lib.hid (bgo hb0 hbk3.out)
          have hfd := foldF_ok (m.cons.take j) xs (fun c hc => HDX.out c (List.mem_of_mem_take hc)) hdx.out
          have hfl := foldF_len (m.cons.take j) xs
          have HYD := Lib.hid (show Doms ys by rw [hys.out]; exact hfd.1)
          have HYL := Lib.hid (show ys.length = n by rw [hys.out, hfl, hlx.out])
          obtain ⟨B', c', e', rY⟩ := IntR.of_hold hh3.out (by omega)
          injection e' with e1 _ e3
          subst e1 e3
          have RY := Lib.hid rY
          clear rY hfd hfl
          by_cases hlt : j < nc
          · obtain ⟨ab, ao, k, va, aa, ra, cv, ca', cr, rfl, hab, hxk, q0, q1, q2, q3, q4, hc⟩ := ConR.at_ (SlK.below ConR.keeps HG2.out HBW.out) hlt
            have HC := Lib.hid (ConR.widens _ _ _ _ _ HBW.out.size hc)
            have HVC := Lib.hid (HCS.out k (List.mem_of_getElem? hxk))
            have HXK := Lib.hid hxk
            clear hc hxk
            go_wp2_with fail
            refine (ssupported _ k _ _ _ ys _ HC.out RY.out HVC.out hn1 hn4 HYD.out).mono ?_
            rintro e w5 ⟨v5, rfl, hh5, hb5⟩
            obtain ⟨B5, c5, rfl⟩ := hh5.form
            have HH5 := Lib.hid (hh5.base_ (base' := wa.heap.size) hbk3.out.size)
            have HBK5 := Lib.hid (hbk3.out.trans (hb5.mono hbk3.out.size))
            clear hh5 hb5 q0 q1 q2 q3 q4 a1
            go_wp2_with fail
            go_roundw
            case rel => exact ⟨j + 1, filF k ys, B5, c5, by omega, by go_num, rfl, HH5, Lib.hid (by rw [foldF_snoc HXK.out, hys.out]), HBK5⟩
            case measure => simp [intOf]; omega
          · obtain rfl : j = nc := by omega
            have hya : ys = foldF m.cons xs := by rw [hys.out, List.take_of_length_le (by rw [HNC.out]; exact Nat.le_refl _)]
            have HYA := Lib.hid hya
            have HMS := Lib.hid (card_step HDX.out hdx.out hne.out)
            have HFS := Lib.hid (fix_step HDX.out hdx.out hz.out hne.out)
            clear hya
            go_wp2_with fail
            go_roundg (card ys)
            case measure => have := HMS.out; rw [← HYA.out] at this; omega
            case rel => exact ⟨ys, _, _, rfl, hh3, Lib.hid (by rw [HYA.out, ← HFS.out]; exact hfx.out), HYD, HYL, Nat.le_refl _, hbk3⟩
      · have HFX := Lib.hid (show fixF m.cons ds = zerosF n by rw [← hfx.out, fix_z (by rw [← zmem_iff]; exact te), hlx.out])
        have TE := Lib.hid te
        clear te
        go_wp2_with fail
        refine (shasEmpty _ _ _ xs _ RX2.out).mono ?_
        rintro e w3 ⟨rfl, rfl⟩
        rw [TE.out]
        go_wp2_with (refine wpList_make_full _ rfl (.tmp 35) (.tmp 35) _ rfl w2.heap.size 3 i0 _ 1 Try.underlying23 hi0 hz0 hz1 .i64 .i64 n n n rfl rfl rfl rfl (by rw [hz2]; omega) (by unfold maxLen; omega) (Nat.le_refl _) ?_; intro w7 hown hgr)
        have hb7 : Below w2.heap.size w2 w7 := (Below.refl _ _).grown hgr (Nat.le_refl _) (by simp)
        have he : (zerosF n).map (Value.int .i64) = (madeCells (Value.int .i64 0).cells (n * 1)).toList := by
          rw [Nat.mul_one]
          show _ = (madeCells #[Value.int .i64 0] n).toList
          rw [toList_madeCells_one]
          simp [zerosF]
        go_ret
        refine ⟨_, rfl, ?_, bgo HB2.out hb7⟩
        rw [HFX.out, he]
        exact (HoldR.of_own (own_base hown (HB2.out).size))
    · have hne := Lib.hid (show foldF m.cons xs = xs from of_decide_eq_true (hst.out.symm.trans ts))
      clear ts
      go_wp2_with fail
      refine (shasEmpty _ _ _ xs _ RX2.out).mono ?_
      rintro e w3 ⟨rfl, rfl⟩
      cases te : decide ((0 : Int) ∈ xs)
      · have HFX := Lib.hid (show fixF m.cons ds = xs by rw [← hfx.out, fix_end (by rw [← zmem_iff]; exact te) hne.out])
        clear te
        go_wp2_with fail
        go_ret
        refine ⟨_, rfl, ?_, HB2.out⟩
        rw [HFX.out]
        exact HH2.out.base_ (by omega)
      · have HFX := Lib.hid (show fixF m.cons ds = zerosF n by rw [← hfx.out, fix_z (by rw [← zmem_iff]; exact te), hlx.out])
        clear te
        go_wp2_with (refine wpList_make_full _ rfl (.tmp 35) (.tmp 35) _ rfl w2.heap.size 3 i0 _ 1 Try.underlying23 hi0 hz0 hz1 .i64 .i64 n n n rfl rfl rfl rfl (by rw [hz2]; omega) (by unfold maxLen; omega) (Nat.le_refl _) ?_; intro w7 hown hgr)
        have hb7 : Below w2.heap.size w2 w7 := (Below.refl _ _).grown hgr (Nat.le_refl _) (by simp)
        have he : (zerosF n).map (Value.int .i64) = (madeCells (Value.int .i64 0).cells (n * 1)).toList := by
          rw [Nat.mul_one]
          show _ = (madeCells #[Value.int .i64 0] n).toList
          rw [toList_madeCells_one]
          simp [zerosF]
        go_ret
        refine ⟨_, rfl, ?_, bgo HB2.out hb7⟩
        rw [HFX.out, he]
        exact (HoldR.of_own (own_base hown (HB2.out).size))
set_option maxHeartbeats 2000000 in
theorem ifiltered (us : List Value) (m : Mod) (ds : List Int) (A : Option Addr) (n d : Nat) (w : World) (h : ModR w w.heap.size us m) (hx : IntR w w.heap.size A n ds) (hn1 : 1 ≤ n) (hn4 : n ≤ 4) (h6 : m.cons.length ≤ 6) (hcs : ∀ c ∈ m.cons, vconF c (n : Int) = true) (hdd : Doms ds) :
    Calls Try.prog 114 #[.agg us.toArray, .slice A n d] w fun e w' => ∃ (B : Option Addr) (c : Nat), e = .returned (.slice B n c) ∧ IntR w' w'.heap.size B n (foldF m.cons ds) ∧ Below w.heap.size w w' := by
  have hl := Lib.hid hx.len
  have HDC := Lib.hid (show DiffC m.cons ds.length by rw [hx.len]; exact fun c hc => vcon_diff (hcs c hc) hn4)
  have HCS := Lib.hid hcs
  obtain ⟨da, ca, cd, cc, rfl, g1, g2, -⟩ := id h
  obtain ⟨wa, hwa⟩ : ∃ wa, wa = w.alloc (.cells #[.slice da m.doms.length cd, .slice ca m.cons.length cc] 26) := ⟨_, rfl⟩
  have hb0 : Below w.heap.size w wa := by rw [hwa]; exact b_alloc _ _
  have ha : TBlk 26 wa w.heap.size #[.slice da m.doms.length cd, .slice ca m.cons.length cc] := by rw [hwa]; exact TBlk.new _ _ _
  have HX0 := Lib.hid (IntR.on hx hb0)
  have HG2 := Lib.hid g2
  have HDD := Lib.hid hdd
  obtain ⟨nc, hnc⟩ : ∃ nc, m.cons.length = nc := ⟨_, rfl⟩
  have HNC := Lib.hid hnc
  have hnc6 : nc ≤ 6 := by omega
  rw [hnc] at ha HG2 hwa ⊢
  have a1 := ha.at_ 1 rfl
  clear hx g1 g2 hcs hdd ha h hnc
  go_enter Try.func114, Try.ntmps114
  go_wp2_with fail
  rw [← hwa]
  clear hwa a1
  go_loopw [1, 10] (fun v i wy => ∃ (j : Nat) (ys : List Int) (B2 : Option Addr) (c2 : Nat), j ≤ nc ∧ i = .int .i64 j ∧ v = .slice B2 n c2 ∧ Hid (IntR wy wy.heap.size B2 n ys) ∧ Hid (ys = foldF (m.cons.take j) ds) ∧ Hid (Below wa.heap.size wa wy)) (fun _ i _ => nc - (intOf i).toNat)
  case atStart => exact ⟨0, ds, _, _, by omega, rfl, rfl, HX0, Lib.hid (by simp [foldF]), Lib.hid (Below.refl _ _)⟩
  case round =>
    obtain ⟨j, ys, B2, c2, hj, rfl, rfl, hR, hys, hbk⟩ := hrel
    clear HX0
    rename World => wy
    have HBW := Lib.hid (bgo hb0 hbk.out)
    have hfd := foldF_ok (m.cons.take j) ds (fun c hc => HDC.out c (List.mem_of_mem_take hc)) HDD.out
    have hfl := foldF_len (m.cons.take j) ds
    have HYD := Lib.hid (show Doms ys by rw [hys.out]; exact hfd.1)
    clear hfd hfl
    by_cases hlt : j < nc
    · obtain ⟨ab, ao, k, va, aa, ra, cv, ca', cr, rfl, hab, hxk, q0, q1, q2, q3, q4, hc⟩ := ConR.at_ (SlK.below ConR.keeps HG2.out HBW.out) hlt
      have HC := Lib.hid (ConR.widens _ _ _ _ _ HBW.out.size hc)
      have HVC := Lib.hid (HCS.out k (List.mem_of_getElem? hxk))
      have HXK := Lib.hid hxk
      obtain ⟨wz, hwz⟩ : ∃ wz, wy.alloc (.cells #[.int .i64 k.kind, .slice va k.vars.length cv, .slice aa k.args.length ca', .int .i64 k.bound, .slice ra k.rows.length cr] 35) = wz := ⟨_, rfl⟩
      have hbz : Below wy.heap.size wy wz := by rw [← hwz]; exact b_alloc _ _
      have tz : TBlk 35 wz wy.heap.size #[.int .i64 k.kind, .slice va k.vars.length cv, .slice aa k.args.length ca', .int .i64 k.bound, .slice ra k.rows.length cr] := by rw [← hwz]; exact TBlk.new _ _ _
      have z0 := tz.at_ 0 rfl
      have z1 := tz.at_ 1 rfl
      have z2 := tz.at_ 2 rfl
      have z3 := tz.at_ 3 rfl
      have z4 := tz.at_ 4 rfl
      have HCZ := Lib.hid (ConR.on HC.out hbz)
      have HRZ := Lib.hid (IntR.on hR.out hbz)
      have HBZ := Lib.hid (hbk.out.trans (hbz.mono hbk.out.size))
      clear hc hxk tz hbz hR HC
      go_wp2_with fail
      refine (ifilter _ k _ _ _ ys _ HCZ.out HRZ.out HVC.out hn1 hn4 HYD.out).mono ?_
      rintro e w5 ⟨v5, rfl, hh5, hb5⟩
      obtain ⟨B5, c5, rfl, r5⟩ := IntR.of_hold hh5 (by omega)
      have HR5 := Lib.hid r5
      have HBK5 := Lib.hid (HBZ.out.trans (hb5.mono HBZ.out.size))
      clear hh5 hb5 q0 q1 q2 q3 q4 z0 z1 z2 z3 z4 r5 hwz
      go_wp2_with fail
      go_roundw
      case rel => exact ⟨j + 1, filF k ys, B5, c5, by omega, by go_num, rfl, HR5, Lib.hid (by rw [foldF_snoc HXK.out, hys.out]), HBK5⟩
      case measure => simp [intOf]; omega
    · obtain rfl : j = nc := by omega
      have HYA := Lib.hid (show ys = foldF m.cons ds by rw [hys.out, List.take_of_length_le (by rw [HNC.out]; exact Nat.le_refl _)])
      go_wp2_with fail
      go_ret
      exact ⟨_, _, rfl, by rw [← HYA.out]; exact hR.out, bgo hb0 hbk.out⟩
set_option maxHeartbeats 2000000 in
theorem ifixpoint (us : List Value) (m : Mod) (ds : List Int) (A : Option Addr) (n d : Nat) (w : World) (h : ModR w w.heap.size us m) (hx : IntR w w.heap.size A n ds) (hn1 : 1 ≤ n) (hn4 : n ≤ 4) (h6 : m.cons.length ≤ 6) (hcs : ∀ c ∈ m.cons, vconF c (n : Int) = true) (hdd : Doms ds) :
    Calls Try.prog 113 #[.slice A n d, .func (.func 114) #[.agg us.toArray] #[]] w fun e w' => ∃ (B : Option Addr) (c : Nat), e = .returned (.slice B n c) ∧ IntR w' w'.heap.size B n (fixF m.cons ds) ∧ Below w.heap.size w w' := by
  obtain ⟨i0, hi0, hz0, hz1, hz2⟩ := info_parts info_int
  have eg := enters_of Try.func114 (by kernel_rfl) rfl
  have hl := Lib.hid hx.len
  have HDC := Lib.hid (show DiffC m.cons n from fun c hc => vcon_diff (hcs c hc) hn4)
  have HCS := Lib.hid hcs
  have HMR := Lib.hid h
  have HX0 := Lib.hid hx
  have HDD := Lib.hid hdd
  clear hx hcs hdd h
  go_enter Try.func113, Try.ntmps113
  go_wp2_with fail
  refine (icopiedRF _ _ _ ds _ HX0.out (by omega) (by omega)).mono ?_
  rintro e w1 ⟨v1, rfl, h1, hb1⟩
  obtain ⟨B1, c1, rfl, r1⟩ := IntR.of_hold h1 (by omega)
  have HR1 := Lib.hid r1
  have HB1 := Lib.hid (show Below w.heap.size w w1 from hb1)
  clear r1 h1 hb1
  go_wp2_with fail
  go_loopg [5] (card ds) (fun gk v wr => ∃ (xs : List Int) (B : Option Addr) (c : Nat), v = .slice B n c ∧ Hid (IntR wr wr.heap.size B n xs) ∧ Hid (fixF m.cons xs = fixF m.cons ds) ∧ Hid (Doms xs) ∧ Hid (xs.length = n) ∧ card xs ≤ gk ∧ Hid (Below w.heap.size w wr))
  case atStart => exact ⟨ds, B1, c1, rfl, HR1, Lib.hid rfl, HDD, hl, Nat.le_refl _, HB1⟩
  case round =>
    obtain ⟨xs, B, c, rfl, hR, hfx, hdx, hlx, hcard, hbk⟩ := hrel
    clear HR1 HB1
    have HDX := Lib.hid (show DiffC m.cons xs.length by rw [hlx.out]; exact HDC.out)
    go_wp2_with fail
    refine (containsInt _ _ _ xs _ _ hR.out).mono ?_
    rintro e w2 ⟨rfl, hb2⟩
    have HR2 := Lib.hid (IntR.on hR.out hb2)
    have HB2 := Lib.hid (bgo hbk.out hb2)
    clear hR hb2 hbk
    cases te : decide ((0 : Int) ∈ xs)
    · have hz := Lib.hid (show hasZ xs = false by rw [← zmem_iff]; exact te)
      clear te
      go_wp2_with fail
      refine (ifiltered us m xs _ n _ _ (ModR.on HMR.out HB2.out) HR2.out hn1 hn4 h6 HCS.out hdx.out).mono ?_
      rintro e w3 ⟨B3, c3, rfl, r3, hb3⟩
      have HR3 := Lib.hid r3
      have HR32 := Lib.hid (IntR.on HR2.out hb3)
      have HB3 := Lib.hid (bgo HB2.out hb3)
      clear r3 hb3
      go_wp2_with fail
      refine (iEqual _ _ _ _ _ _ (foldF m.cons xs) xs _ HR3.out HR32.out).mono ?_
      rintro e w4 ⟨rfl, hb4⟩
      have HR4 := Lib.hid (IntR.on HR3.out hb4)
      have HR42 := Lib.hid (IntR.on HR32.out hb4)
      have HB4 := Lib.hid (bgo HB3.out hb4)
      clear hb4
      cases tq : decide (foldF m.cons xs = xs)
      · have hne := Lib.hid (of_decide_eq_false tq)
        have HMS := Lib.hid (card_step HDX.out hdx.out hne.out)
        have HFS := Lib.hid (fix_step HDX.out hdx.out hz.out hne.out)
        have HFD := Lib.hid (foldF_ok m.cons xs HDX.out hdx.out).1
        have HFL := Lib.hid (show (foldF m.cons xs).length = n by rw [foldF_len, hlx.out])
        clear tq
        go_wp2_with fail
        go_roundg (card (foldF m.cons xs))
        case measure => have := HMS.out; omega
        case rel => exact ⟨_, _, _, rfl, HR4, Lib.hid (by rw [← HFS.out]; exact hfx.out), HFD, HFL, Nat.le_refl _, HB4⟩
      · have HFX := Lib.hid (show fixF m.cons ds = xs by rw [← hfx.out, fix_end hz.out (of_decide_eq_true tq)])
        clear tq
        go_wp2_with fail
        go_ret
        exact ⟨_, _, rfl, by rw [HFX.out]; exact HR42.out, HB4.out⟩
    · have HFX := Lib.hid (show fixF m.cons ds = zerosF n by rw [← hfx.out, fix_z (by rw [← zmem_iff]; exact te), hlx.out])
      clear te
      go_wp2_with (refine wpList_make_full _ rfl (.tmp 12) (.tmp 12) _ rfl w2.heap.size 3 i0 _ 1 Try.underlying23 hi0 hz0 hz1 .i64 .i64 n n n rfl rfl rfl rfl (by rw [hz2]; omega) (by unfold maxLen; omega) (Nat.le_refl _) ?_; intro w7 hown hgr)
      have hb7 : Below w2.heap.size w2 w7 := (Below.refl _ _).grown hgr (Nat.le_refl _) (by simp)
      have he : (madeCells (Value.int .i64 0).cells (n * 1)).toList = (zerosF n).map (Value.int .i64) := by
        rw [Nat.mul_one]
        show (madeCells #[Value.int .i64 0] n).toList = _
        rw [toList_madeCells_one]
        simp [zerosF]
      rw [he] at hown
      obtain ⟨B7, c7, e7, r7, -⟩ := IntR.of_own hown (by omega)
      injection e7 with e7 _ e8
      subst e7 e8
      go_ret
      exact ⟨_, _, rfl, by rw [HFX.out]; exact r7, bgo HB2.out hb7⟩
/-- what propagation leaves. -/
def propF (m : Mod) : List Int := if vmodF m then fixF m.cons m.doms else []
theorem prop_yes {m : Mod} (h : vmodF m = true) : propF m = fixF m.cons m.doms := by unfold propF; rw [h]; rfl
theorem prop_no {m : Mod} (h : vmodF m = false) : propF m = [] := by unfold propF; rw [h]; rfl
set_option maxHeartbeats 2000000 in
theorem ipropagate (us : List Value) (m : Mod) (ds : List Int) (A : Option Addr) (n d : Nat) (w : World) (h : ModR w w.heap.size us m) (hx : IntR w w.heap.size A n ds) (hn1 : 1 ≤ n) (hn4 : n ≤ 4) (h6 : m.cons.length ≤ 6) (hcs : ∀ c ∈ m.cons, vconF c (n : Int) = true) (hdd : Doms ds) :
    Calls Try.prog 75 #[.agg us.toArray, .slice A n d] w fun e w' => ∃ (B : Option Addr) (c : Nat), e = .returned (.slice B n c) ∧ IntR w' w'.heap.size B n (fixF m.cons ds) ∧ Below w.heap.size w w' := by
  have HMR := Lib.hid h
  have HX0 := Lib.hid hx
  obtain ⟨da, ca, cd, cc, rfl, -⟩ := id h
  obtain ⟨wa, hwa⟩ : ∃ wa, wa = w.alloc (.cells #[.slice da m.doms.length cd, .slice ca m.cons.length cc] 26) := ⟨_, rfl⟩
  have hb0 : Below w.heap.size w wa := by rw [hwa]; exact b_alloc _ _
  clear h hx
  go_enter Try.func75, Try.ntmps75
  go_wp2_with fail
  rw [← hwa]
  clear hwa
  refine (ifixpoint [.slice da m.doms.length cd, .slice ca m.cons.length cc] m ds _ n _ wa (ModR.on HMR.out hb0) (IntR.on HX0.out hb0) hn1 hn4 h6 hcs hdd).mono ?_
  rintro e w1 ⟨B, c, rfl, r1, hb1⟩
  have HF := Lib.hid (And.intro r1 (bgo hb0 hb1))
  clear r1 hb1
  go_wp2_with fail
  go_ret
  exact ⟨_, _, rfl, HF.out.1, HF.out.2⟩
set_option maxHeartbeats 2000000 in
theorem iPropagate (us : List Value) (m : Mod) (w : World) (h : ModR w w.heap.size us m) :
    Calls Try.prog 35 #[.agg us.toArray] w fun e w' => ∃ (B : Option Addr) (c n : Nat), e = .returned (.slice B n c) ∧ n ≤ 4 ∧ IntR w' w'.heap.size B n (propF m) ∧ Below w.heap.size w w' := by
  have HMR := Lib.hid h
  obtain ⟨da, ca, cd, cc, rfl, g1, -⟩ := id h
  obtain ⟨wa, hwa⟩ : ∃ wa, wa = w.alloc (.cells #[.slice da m.doms.length cd, .slice ca m.cons.length cc] 26) := ⟨_, rfl⟩
  have hb0 : Below w.heap.size w wa := by rw [hwa]; exact b_alloc _ _
  have ha : TBlk 26 wa w.heap.size #[.slice da m.doms.length cd, .slice ca m.cons.length cc] := by rw [hwa]; exact TBlk.new _ _ _
  have HA := Lib.hid ha
  have G1 := Lib.hid g1
  clear h g1 ha
  go_enter Try.func35, Try.ntmps35
  go_wp2_with fail
  rw [← hwa]
  clear hwa
  refine (iValidModel _ m _ (ModR.on HMR.out hb0)).mono ?_
  rintro e w1 ⟨rfl, hb1⟩
  have HB1 := Lib.hid (bgo hb0 hb1)
  have ha1 := HA.out.below_ hb1 HA.out.lt
  have b0 := ha1.at_ 0 rfl
  have b1 := ha1.at_ 1 rfl
  clear hb1 ha1
  cases t0 : vmodF m
  · have HP := Lib.hid (prop_no t0)
    clear t0
    go_wp2_with fail
    go_ret
    exact ⟨_, _, _, rfl, by omega, by rw [HP.out]; exact SlR.nil_ _ _ _, HB1.out⟩
  have HM := Lib.hid (ModOk.of t0)
  have HP := Lib.hid (prop_yes t0)
  have hfour := HM.out.four
  clear t0
  go_wp2_with fail
  refine (ipropagate [.slice da m.doms.length cd, .slice ca m.cons.length cc] m m.doms _ m.doms.length _ w1 (ModR.on HMR.out HB1.out) (IntR.on G1.out HB1.out) HM.out.one HM.out.four HM.out.six HM.out.cons HM.out.doms).mono ?_
  rintro e w2 ⟨B, c, rfl, r2, hb2⟩
  have HF := Lib.hid (And.intro r2 (bgo HB1.out hb2))
  clear r2 hb2 b0 b1
  go_wp2_with fail
  go_ret
  exact ⟨_, _, _, rfl, hfour, by rw [HP.out]; exact HF.out.1, HF.out.2⟩
set_option maxHeartbeats 2000000 in
theorem sPropagate (us : List Value) (m : Mod) (w : World) (h : ModR w w.heap.size us m) :
    Calls Try.prog 36 #[.agg us.toArray] w fun e w' => ∃ (B : Option Addr) (c n : Nat), e = .returned (.slice B n c) ∧ n ≤ 4 ∧ IntR w' w'.heap.size B n (propF m) ∧ Below w.heap.size w w' := by
  have HMR := Lib.hid h
  obtain ⟨da, ca, cd, cc, rfl, g1, -⟩ := id h
  obtain ⟨wa, hwa⟩ : ∃ wa, wa = w.alloc (.cells #[.slice da m.doms.length cd, .slice ca m.cons.length cc] 26) := ⟨_, rfl⟩
  have hb0 : Below w.heap.size w wa := by rw [hwa]; exact b_alloc _ _
  have ha : TBlk 26 wa w.heap.size #[.slice da m.doms.length cd, .slice ca m.cons.length cc] := by rw [hwa]; exact TBlk.new _ _ _
  have HA := Lib.hid ha
  have G1 := Lib.hid g1
  clear h g1 ha
  go_enter Try.func36, Try.ntmps36
  go_wp2_with fail
  rw [← hwa]
  clear hwa
  refine (svalidModel _ m _ (ModR.on HMR.out hb0)).mono ?_
  rintro e w1 ⟨rfl, hb1⟩
  have HB1 := Lib.hid (bgo hb0 hb1)
  have ha1 := HA.out.below_ hb1 HA.out.lt
  have b0 := ha1.at_ 0 rfl
  have b1 := ha1.at_ 1 rfl
  clear hb1 ha1
  cases t0 : vmodF m
  · have HP := Lib.hid (prop_no t0)
    clear t0
    go_wp2_with fail
    go_ret
    exact ⟨_, _, _, rfl, by omega, by rw [HP.out]; exact SlR.nil_ _ _ _, HB1.out⟩
  have HM := Lib.hid (ModOk.of t0)
  have HP := Lib.hid (prop_yes t0)
  have hfour := HM.out.four
  clear t0
  go_wp2_with fail
  refine (sfixpoint [.slice da m.doms.length cd, .slice ca m.cons.length cc] m m.doms _ m.doms.length _ w1 (ModR.on HMR.out HB1.out) (IntR.on G1.out HB1.out) HM.out.one HM.out.four HM.out.six HM.out.cons HM.out.doms).mono ?_
  rintro e w2 ⟨v2, rfl, hh, hb2⟩
  obtain ⟨B, c, rfl, r2⟩ := IntR.of_hold hh (by omega)
  have HF := Lib.hid (And.intro r2 (bgo HB1.out hb2))
  clear r2 hb2 b0 b1 hh
  go_wp2_with fail
  go_ret
  exact ⟨_, _, _, rfl, hfour, by rw [HP.out]; exact HF.out.1, HF.out.2⟩
end Go.Proofs.Ytejfnkbdmlijbaa
