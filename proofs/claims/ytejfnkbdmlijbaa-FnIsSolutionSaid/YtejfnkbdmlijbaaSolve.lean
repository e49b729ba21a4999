/- spec's solve; what is drawn for IsSolution. -/
import Derived.Test.YtejfnkbdmlijbaaBran
import Derived.Test.YtejfnkbdmlijbaaDrawO
namespace Go.Proofs.Ytejfnkbdmlijbaa
open Go.ChangeShapes Go.WideShapes Go.ChangeAt Go.RowKit
open Go.Shelf
set_option linter.unusedVariables false
set_option linter.unusedSimpArgs false
set_option maxRecDepth 100000

set_option maxHeartbeats 2000000 in
theorem ssolve (us : List Value) (m : Mod) (lim : Nat) (w : World) (h : ModR w w.heap.size us m) (hm : ModOk m) (hl0 : 0 < lim) (hl1 : lim ≤ 1000) :
    Calls Try.prog 85 #[.agg us.toArray, .int .i64 lim] w fun e w' => ∃ (fv : Value) (rows : List (List Int)) (no : Int), e = .returned (.tuple #[fv, .int .i64 no]) ∧ OwnOf 23 (OwnI 3) w' w.heap.size fv rows ∧ RowsN m.doms.length rows ∧ rows.length ≤ lim ∧ Below w.heap.size w w' := by
  obtain ⟨da, ca, cd, cc, rfl, g1, g2, -⟩ := id h
  obtain ⟨wa, hwa⟩ : ∃ wa, wa = w.alloc (.cells #[.slice da m.doms.length cd, .slice ca m.cons.length cc] 26) := ⟨_, rfl⟩
  have hb0 : Below w.heap.size w wa := by rw [hwa]; exact b_alloc _ _
  have ha : TBlk 26 wa w.heap.size #[.slice da m.doms.length cd, .slice ca m.cons.length cc] := by rw [hwa]; exact TBlk.new _ _ _
  obtain ⟨wf, hwf⟩ : ∃ wf, wf = wa.alloc (.cells #[.slice da m.doms.length cd, .slice ca m.cons.length cc, .int .i64 lim, .int .i64 0, .slice none 0 0] 116) := ⟨_, rfl⟩
  have hb1 : Below wa.heap.size wa wf := by rw [hwf]; exact b_alloc _ _
  have hbf : TBlk 116 wf wa.heap.size #[.slice da m.doms.length cd, .slice ca m.cons.length cc, .int .i64 lim, .int .i64 0, .slice none 0 0] := by rw [hwf]; exact TBlk.new _ _ _
  have hza : wa.heap.size = w.heap.size + 1 := by rw [hwa, size_alloc_]
  have hFd : Fd wa wf (w.heap.size + 1) m.cons.length m.doms.length lim m da ca cd cc 0 none 0 [] := ⟨hb1, by rw [← hza]; exact hbf, OwnRows.nil0 _ _, fun x hx => by simp at hx⟩
  have HI := Lib.hid (sbranch (w.heap.size + 1) m.cons.length m.doms.length lim m da ca cd cc wa (ModR.on h hb0) hm.one hm.four hm.six hm.cons (by omega) hl1 (card m.doms + 1) m.doms da cd wf 0 none 0 [] (by omega) (.inl (IntR.on g1 hb0)) hm.doms hFd hl0)
  have a0 := (ha.below_ hb1 ha.lt).at_ 0 rfl
  have HB0 := Lib.hid hb0
  clear h hm g1 g2 hb1 hbf hFd ha hb0 hza
  generalize m.doms.length = nd at HI a0 hwa hwf ⊢
  generalize m.cons.length = nc at HI a0 hwa hwf
  go_enter Try.func85, Try.ntmps85
  go_wp2_with fail
  rw [← hwa, ← hwf]
  clear hwa hwf
  refine HI.out.mono ?_
  rintro e w3 ⟨⟨v, rfl⟩, no, fa, fc, rows, hF, hr, -, -⟩
  have y3 := hF.blk.at_ 3 rfl
  have y4 := hF.blk.at_ 4 rfl
  have HF := Lib.hid hF
  clear hF a0 HI
  go_wp2_with fail
  go_quiet (fail)
  go_wp2_with fail
  have hbq : Below w3.heap.size w3 (w3.drewN nq) := below_drewN (Below.refl _ _) nq
  refine bodyPost_ret (v := .tuple #[.slice fa rows.length fc, .int .i64 no]) ?_ rfl ?_
  · simp [results, Try.results85, go_sem]
  · exact ⟨_, rows, no, rfl, (OwnOf.stays (OwnI.stays 3)).base _ _ _ _ _ HB0.out.size ((OwnOf.stays (OwnI.stays 3)).below _ _ _ _ _ hbq HF.out.own), HF.out.rowsn, hr, bgo HB0.out (HF.out.below.trans (hbq.mono HF.out.below.size))⟩
set_option maxHeartbeats 4000000 in
theorem assignment (base g nb cb p B : Nat) (A : Option Addr) (bs : List Int) (us : List Value) (m : Mod) (w : World) (h : Rd w base g A nb cb bs p) (hp : p ≤ 800000) (ho : OwnMod w B (.agg us.toArray) m) (hB : B ≤ w.heap.size) (hgB : g < B) (hsz : SzM m) :
    Calls Try.prog 42 #[.pointer (some ⟨g, 0, none⟩), .agg us.toArray] w fun e w' => ∃ (v : Value) (xs : List Int) (q : Nat), e = .returned v ∧ OwnI 3 w' w.heap.size v xs ∧ xs.length ≤ 5 ∧ q ≤ p + 20 ∧ Rd w' base g A nb cb bs q ∧ ButG g w.heap.size w w' := by
  obtain ⟨i0, hi0, hz0, hz1, hz2'⟩ := info_parts info_int
  obtain ⟨us', e1, hmr⟩ := OwnMod.read ho
  obtain rfl : us = us' := by injection e1 with e1; exact List.toArray_inj e1
  obtain ⟨Ad, Ac, cd, cc, rfl, -⟩ := id hmr
  have HSZ := Lib.hid hsz
  obtain ⟨nd, hnd⟩ : ∃ nd, m.doms.length = nd := ⟨_, rfl⟩
  have HND := Lib.hid hnd
  have hnd1 : 1 ≤ nd := by rw [← hnd]; exact hsz.1
  have hnd4 : nd ≤ 4 := by rw [← hnd]; exact hsz.2.1
  obtain ⟨wa, hwa⟩ : ∃ wa, wa = w.alloc (.cells #[.slice Ad m.doms.length cd, .slice Ac m.cons.length cc] 26) := ⟨_, rfl⟩
  have hb0 : Below w.heap.size w wa := by rw [hwa]; exact b_alloc _ _
  have hza : wa.heap.size = w.heap.size + 1 := by rw [hwa, size_alloc_]
  have ha : TBlk 26 wa w.heap.size #[.slice Ad m.doms.length cd, .slice Ac m.cons.length cc] := by rw [hwa]; exact TBlk.new _ _ _
  rw [hnd] at ha hwa ho ⊢
  have HOA := Lib.hid (OwnMod.below ho hb0)
  have HT := Lib.hid ha
  have HD := Lib.hid (h.under hb0 (by omega))
  have HBA := Lib.hid (below_butG hb0 g)
  have x0 := ha.at_ 0 rfl
  have x1 := ha.at_ 1 rfl
  obtain ⟨us2, e2, hmr2⟩ := OwnMod.read HOA.out
  obtain rfl : us2 = [.slice Ad nd cd, .slice Ac m.cons.length cc] := by injection e2 with e2; exact (List.toArray_inj e2).symm
  have HMR := Lib.hid hmr2
  clear h ho hb0 ha hsz e1 e2 hmr hmr2 hnd
  go_enter Try.func42, Try.ntmps42
  go_wp2_with fail
  rw [← hwa]
  clear hwa
  refine (svalidModel _ m wa HMR.out).mono ?_
  rintro e w1 ⟨rfl, hb1⟩
  have HT1 := Lib.hid (HT.out.below_ hb1 HT.out.lt)
  have HO1 := Lib.hid (OwnMod.below HOA.out hb1)
  have HD1 := Lib.hid (HD.out.under hb1 (by omega))
  have HB1 := Lib.hid (HBA.out.go (below_butG hb1 g))
  have hz1' := hb1.size
  clear x0 x1 hb1 HT HOA HD HBA HMR
  cases tv : vmodF m
  · clear tv
    have t45 := (HT1.out).at_ 0 rfl
    go_wp2_with fail
    refine (randomRow base g nb cb p A bs nd w1 HD1.out (by omega) (by omega)).mono ?_
    rintro e v1 ⟨vx, xs, rfl, -, hxl, -, hox, hdx, hbx⟩
    have hbx2 := (HB1.out).go hbx
    have HOX := Lib.hid hox
    have HXL := Lib.hid hxl
    have hzx := hbx2.size
    have hzx2 := hbx.size
    clear hox hxl hbx t45
    go_wp2_with fail
    refine (pick base g nb cb (p + nd) A bs 14 v1 hdx (by omega)).mono ?_
    rintro e v2 ⟨rz, rfl, -, hd2, hb2⟩
    have HOX2 := Lib.hid (own_butG HOX.out hb2 (by omega))
    have hb3 := hbx2.go hb2
    have hz2 := hb2.size
    clear hb2 hbx2 HOX hdx
    by_cases hrz : rz = 0
    · subst hrz
      have hTl : TBlk 3 (v2.alloc (.cells #[.int .i64 0, .int .i64 6] 3)) v2.heap.size (ints [0, 6]) := TBlk.new _ _ _
      have hdl : Rd (v2.alloc (.cells #[.int .i64 0, .int .i64 6] 3)) base g A nb cb bs (p + nd + 1) := hd2.under (b_alloc _ _) (by omega)
      go_wp2_with fail
      refine (one base g nb cb (p + nd + 1) v2.heap.size 2 2 A bs [0, 6] _ hdl (by omega) rfl (by omega) (by omega) (by omega) hTl.lt (fun i x hx => hTl.at_ i (ints_at hx))).mono ?_
      rintro e v3 ⟨y, rfl, -, hd3, hb4⟩
      have hb5 := hb3.go ((below_butG (b_alloc _ _) g).go hb4)
      have hz4 := hb4.size
      rw [size_alloc_] at hz4
      have ox3 := own_butG (own_below HOX2.out (b_alloc v2 (.cells #[.int .i64 0, .int .i64 6] 3))) hb4 (by omega)
      have HOX3 := Lib.hid ox3
      have hlt3 := ox3.lt
      have hsz3 := (show w1.heap.size ≤ v3.heap.size by omega)
      clear hb4 hTl hdl hd2 HOX2 hb3
      go_wp2_with (at_builtin; refine wpList_append_own _ rfl _ _ 23 rfl w1.heap.size 3 i0 _ 1 8 Try.underlying23 hi0 hz0 hz1 hz2' rfl (by decide) vx _ _ rfl (ox3.alloc _) ⟨v3.heap.size, 0, none⟩ 1 1 [.int .i64 y] rfl rfl (cell_one_new _ _ _) (by simp [Value.oneCell']) (by unfold maxLen; omega) (by omega) (by rw [size_alloc_]; omega) ?_; intro v4 w4 hown hgr _)
      have hbw : Below w1.heap.size v3 w4 := ((Below.refl _ _).alloc hsz3 _).grown hgr (by rw [size_alloc_]; omega) (fun g hg => (hlt3 g hg).1)
      have hown2 : w4.ownsRow w1.heap.size 3 1 v4 (nd + 1) ((xs ++ [y]).map (.int .i64)) := by simpa using hown
      have hll : (xs ++ [y]).length = nd + 1 := by rw [List.length_append, HXL.out]; rfl
      clear hown hgr
      go_ret
      exact ⟨v4, xs ++ [y], _, rfl, ⟨by rw [hll]; exact own_base hown2 (by omega), by rw [hll]; omega⟩, by rw [hll]; omega, by omega, hd3.under hbw (by omega), hb5.trans (below_butG (hbw.mono (by omega)) g)⟩
    have hrz2 : (rz == 0) = false := by simpa using hrz
    go_wp2_with fail
    go_ret
    exact ⟨vx, xs, _, rfl, ⟨by rw [HXL.out]; exact own_base HOX2.out (by omega), by rw [HXL.out]; omega⟩, by rw [HXL.out]; omega, by omega, hd2, hb3⟩
  have HMO := Lib.hid (ModOk.of tv)
  clear tv
  go_wp2_with fail
  refine (pick base g nb cb p A bs 3 w1 HD1.out (by omega)).mono ?_
  rintro e w2 ⟨r2, rfl, -, hd2, hb2⟩
  have HT2 := Lib.hid (HT1.out.butG hb2 (by omega))
  have HO2 := Lib.hid (OwnMod.butG HO1.out hb2 (by omega))
  have HB2 := Lib.hid (HB1.out.go hb2)
  have hz2 := hb2.size
  clear hb2 HT1 HO1 HD1 HB1
  by_cases hr2 : 0 < r2
  case neg =>
    have hr2' : decide (0 < r2) = false := decide_eq_false hr2
    clear hr2
    have t45 := (HT2.out).at_ 0 rfl
    go_wp2_with fail
    refine (randomRow base g nb cb (p + 1) A bs nd w2 hd2 (by omega) (by omega)).mono ?_
    rintro e v1 ⟨vx, xs, rfl, -, hxl, -, hox, hdx, hbx⟩
    have hbx2 := (HB2.out).go hbx
    have HOX := Lib.hid hox
    have HXL := Lib.hid hxl
    have hzx := hbx2.size
    have hzx2 := hbx.size
    clear hox hxl hbx t45
    go_wp2_with fail
    refine (pick base g nb cb ((p + 1) + nd) A bs 14 v1 hdx (by omega)).mono ?_
    rintro e v2 ⟨rz, rfl, -, hd2, hb2⟩
    have HOX2 := Lib.hid (own_butG HOX.out hb2 (by omega))
    have hb3 := hbx2.go hb2
    have hz2 := hb2.size
    clear hb2 hbx2 HOX hdx
    by_cases hrz : rz = 0
    · subst hrz
      have hTl : TBlk 3 (v2.alloc (.cells #[.int .i64 0, .int .i64 6] 3)) v2.heap.size (ints [0, 6]) := TBlk.new _ _ _
      have hdl : Rd (v2.alloc (.cells #[.int .i64 0, .int .i64 6] 3)) base g A nb cb bs ((p + 1) + nd + 1) := hd2.under (b_alloc _ _) (by omega)
      go_wp2_with fail
      refine (one base g nb cb ((p + 1) + nd + 1) v2.heap.size 2 2 A bs [0, 6] _ hdl (by omega) rfl (by omega) (by omega) (by omega) hTl.lt (fun i x hx => hTl.at_ i (ints_at hx))).mono ?_
      rintro e v3 ⟨y, rfl, -, hd3, hb4⟩
      have hb5 := hb3.go ((below_butG (b_alloc _ _) g).go hb4)
      have hz4 := hb4.size
      rw [size_alloc_] at hz4
      have ox3 := own_butG (own_below HOX2.out (b_alloc v2 (.cells #[.int .i64 0, .int .i64 6] 3))) hb4 (by omega)
      have HOX3 := Lib.hid ox3
      have hlt3 := ox3.lt
      have hsz3 := (show w2.heap.size ≤ v3.heap.size by omega)
      clear hb4 hTl hdl hd2 HOX2 hb3
      go_wp2_with (at_builtin; refine wpList_append_own _ rfl _ _ 23 rfl w2.heap.size 3 i0 _ 1 8 Try.underlying23 hi0 hz0 hz1 hz2' rfl (by decide) vx _ _ rfl (ox3.alloc _) ⟨v3.heap.size, 0, none⟩ 1 1 [.int .i64 y] rfl rfl (cell_one_new _ _ _) (by simp [Value.oneCell']) (by unfold maxLen; omega) (by omega) (by rw [size_alloc_]; omega) ?_; intro v4 w4 hown hgr _)
      have hbw : Below w2.heap.size v3 w4 := ((Below.refl _ _).alloc hsz3 _).grown hgr (by rw [size_alloc_]; omega) (fun g hg => (hlt3 g hg).1)
      have hown2 : w4.ownsRow w2.heap.size 3 1 v4 (nd + 1) ((xs ++ [y]).map (.int .i64)) := by simpa using hown
      have hll : (xs ++ [y]).length = nd + 1 := by rw [List.length_append, HXL.out]; rfl
      clear hown hgr
      go_ret
      exact ⟨v4, xs ++ [y], _, rfl, ⟨by rw [hll]; exact own_base hown2 (by omega), by rw [hll]; omega⟩, by rw [hll]; omega, by omega, hd3.under hbw (by omega), hb5.trans (below_butG (hbw.mono (by omega)) g)⟩
    have hrz2 : (rz == 0) = false := by simpa using hrz
    go_wp2_with fail
    go_ret
    exact ⟨vx, xs, _, rfl, ⟨by rw [HXL.out]; exact own_base HOX2.out (by omega), by rw [HXL.out]; omega⟩, by rw [HXL.out]; omega, by omega, hd2, hb3⟩
  have hr2' : decide (0 < r2) = true := decide_eq_true hr2
  clear hr2
  have x0 := HT2.out.at_ 0 rfl
  have x1 := HT2.out.at_ 1 rfl
  obtain ⟨us2, e2, hmr2⟩ := OwnMod.read HO2.out
  obtain rfl : us2 = [.slice Ad nd cd, .slice Ac m.cons.length cc] := by injection e2 with e2; exact (List.toArray_inj e2).symm
  have HMR2 := Lib.hid hmr2
  clear e2 hmr2
  go_wp2_with fail
  refine (ssolve _ m 8 w2 HMR2.out HMO.out (by omega) (by omega)).mono ?_
  rintro e w3 ⟨fv, rows, no, rfl, hro, hrn, hr8, hb3⟩
  have HT3 := Lib.hid (HT2.out.below_ hb3 HT2.out.lt)
  have HO3 := Lib.hid (OwnMod.below HO2.out hb3)
  have HD3 := Lib.hid (hd2.under hb3 (by omega))
  have HB3 := Lib.hid (HB2.out.go (below_butG hb3 g))
  have hz3 := hb3.size
  have HRO := Lib.hid hro
  have HRN := Lib.hid hrn
  obtain ⟨Af, cf, rfl⟩ := OwnOf.form hro
  obtain ⟨nr, hnr⟩ : ∃ nr, rows.length = nr := ⟨_, rfl⟩
  have HNR := Lib.hid hnr
  rw [hnr] at hr8 HRO ⊢
  clear x0 x1 hb3 HT2 HO2 HB2 hd2 hro hrn hnr HMR2
  by_cases hn0 : nr = 0
  · have hn1 : decide (0 < nr) = false := decide_eq_false (by omega)
    clear hn0
    have t45 := (HT3.out).at_ 0 rfl
    go_wp2_with fail
    refine (randomRow base g nb cb (p + 1) A bs nd w3 HD3.out (by omega) (by omega)).mono ?_
    rintro e v1 ⟨vx, xs, rfl, -, hxl, -, hox, hdx, hbx⟩
    have hbx2 := (HB3.out).go hbx
    have HOX := Lib.hid hox
    have HXL := Lib.hid hxl
    have hzx := hbx2.size
    have hzx2 := hbx.size
    clear hox hxl hbx t45
    go_wp2_with fail
    refine (pick base g nb cb ((p + 1) + nd) A bs 14 v1 hdx (by omega)).mono ?_
    rintro e v2 ⟨rz, rfl, -, hd2, hb2⟩
    have HOX2 := Lib.hid (own_butG HOX.out hb2 (by omega))
    have hb3 := hbx2.go hb2
    have hz2 := hb2.size
    clear hb2 hbx2 HOX hdx
    by_cases hrz : rz = 0
    · subst hrz
      have hTl : TBlk 3 (v2.alloc (.cells #[.int .i64 0, .int .i64 6] 3)) v2.heap.size (ints [0, 6]) := TBlk.new _ _ _
      have hdl : Rd (v2.alloc (.cells #[.int .i64 0, .int .i64 6] 3)) base g A nb cb bs ((p + 1) + nd + 1) := hd2.under (b_alloc _ _) (by omega)
      go_wp2_with fail
      refine (one base g nb cb ((p + 1) + nd + 1) v2.heap.size 2 2 A bs [0, 6] _ hdl (by omega) rfl (by omega) (by omega) (by omega) hTl.lt (fun i x hx => hTl.at_ i (ints_at hx))).mono ?_
      rintro e v3 ⟨y, rfl, -, hd3, hb4⟩
      have hb5 := hb3.go ((below_butG (b_alloc _ _) g).go hb4)
      have hz4 := hb4.size
      rw [size_alloc_] at hz4
      have ox3 := own_butG (own_below HOX2.out (b_alloc v2 (.cells #[.int .i64 0, .int .i64 6] 3))) hb4 (by omega)
      have HOX3 := Lib.hid ox3
      have hlt3 := ox3.lt
      have hsz3 := (show w3.heap.size ≤ v3.heap.size by omega)
      clear hb4 hTl hdl hd2 HOX2 hb3
      go_wp2_with (at_builtin; refine wpList_append_own _ rfl _ _ 23 rfl w3.heap.size 3 i0 _ 1 8 Try.underlying23 hi0 hz0 hz1 hz2' rfl (by decide) vx _ _ rfl (ox3.alloc _) ⟨v3.heap.size, 0, none⟩ 1 1 [.int .i64 y] rfl rfl (cell_one_new _ _ _) (by simp [Value.oneCell']) (by unfold maxLen; omega) (by omega) (by rw [size_alloc_]; omega) ?_; intro v4 w4 hown hgr _)
      have hbw : Below w3.heap.size v3 w4 := ((Below.refl _ _).alloc hsz3 _).grown hgr (by rw [size_alloc_]; omega) (fun g hg => (hlt3 g hg).1)
      have hown2 : w4.ownsRow w3.heap.size 3 1 v4 (nd + 1) ((xs ++ [y]).map (.int .i64)) := by simpa using hown
      have hll : (xs ++ [y]).length = nd + 1 := by rw [List.length_append, HXL.out]; rfl
      clear hown hgr
      go_ret
      exact ⟨v4, xs ++ [y], _, rfl, ⟨by rw [hll]; exact own_base hown2 (by omega), by rw [hll]; omega⟩, by rw [hll]; omega, by omega, hd3.under hbw (by omega), hb5.trans (below_butG (hbw.mono (by omega)) g)⟩
    have hrz2 : (rz == 0) = false := by simpa using hrz
    go_wp2_with fail
    go_ret
    exact ⟨vx, xs, _, rfl, ⟨by rw [HXL.out]; exact own_base HOX2.out (by omega), by rw [HXL.out]; omega⟩, by rw [HXL.out]; omega, by omega, hd2, hb3⟩
  have hn1 : decide (0 < nr) = true := decide_eq_true (by omega)
  go_wp2_with fail
  refine (pick base g nb cb (p + 1) A bs nr w3 HD3.out (by omega)).mono ?_
  rintro e w4 ⟨r4, rfl, ⟨-, hr⟩, hd4, hb4⟩
  obtain ⟨r40, r41⟩ := hr (by omega)
  obtain ⟨k, rfl⟩ := Int.eq_ofNat_of_zero_le r40
  have hkn : k < nr := by omega
  have hkn2 : (k : Int) < (nr : Int) := by omega
  have hz4 := hb4.size
  have HB4 := Lib.hid (HB3.out.go hb4)
  have hro4 := OwnRows.butG HRO.out hb4 (by omega)
  obtain ⟨us4, u1, u2, u3, u4⟩ := hro4
  have hk1 : k < rows.length := by rw [HNR.out]; exact hkn
  obtain ⟨gF, rfl, hgF⟩ : ∃ gF : Nat, Af = some ⟨gF, 0, none⟩ ∧ w2.heap.size ≤ gF := by
    rcases u2.2 with ⟨_, h6⟩ | ⟨gd, cap, cur, hv, hgd, -⟩
    · omega
    · injection hv with e1 _ _
      exact ⟨gd, e1, hgd⟩
  have hcl := u2.cells (g := gF) rfl k us4[k] (List.getElem?_eq_getElem (by omega))
  rw [add_own] at hcl
  have hou := u4 k _ _ (List.getElem?_eq_getElem (by omega)) (List.getElem?_eq_getElem hk1)
  have hrl := HRN.out _ (List.getElem_mem hk1)
  obtain ⟨zs, hzs⟩ : ∃ zs, rows[k] = zs := ⟨_, rfl⟩
  rw [hzs] at hou hrl
  rw [HND.out] at hrl
  obtain ⟨A4, c4, e4, ri4⟩ := hou.read
  rw [hrl] at e4 ri4
  rw [e4] at hcl
  have HRI4 := Lib.hid ri4
  have HHR := Lib.hid hr
  clear hr r40 u1 u2 u3 u4 hou e4 ri4 hb4 HD3 HT3 HO3 HRO hn0 hzs
  go_wp2_with fail
  refine (scopyRF _ _ _ zs w4 HRI4.out (by omega) (by omega)).mono ?_
  rintro e w5 ⟨v5, rfl, o5, hb5⟩
  have ow5 := o5.1
  rw [hrl] at ow5
  obtain ⟨g5, c5, rfl, hg5⟩ : ∃ g5 c5 : Nat, v5 = .slice (some ⟨g5, 0, none⟩) nd c5 ∧ w4.heap.size ≤ g5 := by
    rcases ow5.2 with ⟨_, h6⟩ | ⟨gd, cap, cur, hv, hgd, -⟩
    · omega
    · exact ⟨gd, cap, hv, hgd⟩
  have HO5 := Lib.hid ow5
  have HD5 := Lib.hid (hd4.under hb5 (by omega))
  have HB5 := Lib.hid (HB4.out.go (below_butG hb5 g))
  have hz5 := hb5.size
  have HZL := Lib.hid hrl
  clear o5 ow5 hb5 hd4 HB4 HRI4 hcl hrl
  go_wp2_with fail
  refine (pick base g nb cb (p + 1 + 1) A bs 3 w5 HD5.out (by omega)).mono ?_
  rintro e w6 ⟨r6, rfl, -, hd6, hb6⟩
  have HO6 := Lib.hid (own_butG HO5.out hb6 (by omega))
  have HB6 := Lib.hid (HB5.out.go hb6)
  have hz6 := hb6.size
  clear hb6 HO5 HD5 HB5
  by_cases hr6 : r6 = 0
  · subst hr6
    go_wp2_with fail
    refine (pick base g nb cb (p + 1 + 1 + 1) A bs nd w6 hd6 (by omega)).mono ?_
    rintro e w7 ⟨r7, rfl, ⟨-, hr⟩, hd7, hb7⟩
    obtain ⟨r70, r71⟩ := hr (by omega)
    obtain ⟨j, rfl⟩ := Int.eq_ofNat_of_zero_le r70
    have hjn : (j : Int) < (nd : Int) := by omega
    have HO7 := Lib.hid (own_butG HO6.out hb7 (by omega))
    have HB7 := Lib.hid (HB6.out.go hb7)
    have hz7 := hb7.size
    clear hr r70 hb7 HO6 HB6 hd6
    go_wp2_with fail
    refine (pick base g nb cb (p + 1 + 1 + 1 + 1) A bs 6 w7 hd7 (by omega)).mono ?_
    rintro e w8 ⟨y, rfl, -, hd8, hb8⟩
    have o8 := own_butG HO7.out hb8 (by omega)
    have HB8 := Lib.hid (HB7.out.go hb8)
    have hz8 := hb8.size
    have hjl : j < zs.length := by rw [HZL.out]; omega
    have hco := o8.cellAt j (by omega)
    rw [List.getElem?_map, List.getElem?_eq_getElem hjl] at hco
    simp only [Option.map_some] at hco
    have hfo := o8.frozenAt j
    have hst := (o8.stored j (.int .i64 y)).1
    rw [← List.map_set] at hst
    have HST := Lib.hid (And.intro hst (And.intro (hd8.set (b := g5) (by omega) j (.int .i64 y)) (HB8.out.setHi (b := g5) (by omega) j (.int .i64 y))))
    clear o8 hst hb8 hd8 HB7 HO7 HB8 hd7
    go_wp2_with fail
    go_ret
    exact ⟨_, zs.set j y, _, rfl, ⟨by rw [List.length_set, HZL.out]; exact own_base HST.out.1 (by omega), by rw [List.length_set, HZL.out]; omega⟩, by rw [List.length_set, HZL.out]; omega, by omega, HST.out.2.1, HST.out.2.2⟩
  · have hr6' : (r6 == 0) = false := by simpa using hr6
    clear hr6
    go_wp2_with fail
    go_ret
    exact ⟨_, zs, _, rfl, ⟨by rw [HZL.out]; exact own_base HO6.out (by omega), by rw [HZL.out]; omega⟩, by rw [HZL.out]; omega, by omega, hd6, HB6.out⟩
set_option maxHeartbeats 6000000 in
theorem drawIsSolution (A : Option Addr) (n c : Nat) (bs : List Int) (w : World) (h : CodeA w w.heap.size A n c bs) :
    Calls Try.prog 10 #[.slice A n c] w fun e w' => ∃ (vs : List Value) (m : Mod) (v : Value) (xs : List Int), e = .returned (.tuple #[.agg vs.toArray, v]) ∧ OwnMod w' w.heap.size (.agg vs.toArray) m ∧ OwnI 3 w' w.heap.size v xs ∧ SzM m ∧ xs.length ≤ 5 ∧ Below w.heap.size w w' := by
  obtain ⟨wa, hwa⟩ : ∃ wa, wa = w.alloc (.cells #[.slice none 0 0, .slice none 0 0] 26) := ⟨_, rfl⟩
  have hba : Below w.heap.size w wa := by rw [hwa]; exact b_alloc _ _
  have hza : wa.heap.size = w.heap.size + 1 := by rw [hwa, size_alloc_]
  have HT : Hid (TBlk 26 wa w.heap.size #[.slice none 0 0, .slice none 0 0]) := by rw [hwa]; exact Lib.hid (TBlk.new _ _ _)
  have HN := newReader A n c bs wa ⟨SlA.on ByteC.keeps ByteC.widens h.1 hba, h.2⟩
  have HBA := Lib.hid hba
  clear h hba
  go_enter Try.func10, Try.ntmps10
  go_wp2_with fail
  rw [← hwa]
  clear hwa
  refine HN.mono ?_
  rintro e w1 ⟨g, m, c', bs', rfl, hr, hb1, hg⟩
  have hbase := hr.base_le
  have HT1 := Lib.hid (HT.out.below_ hb1 HT.out.lt)
  have hz1 := hb1.size
  have HB1 := Lib.hid (bgo HBA.out hb1)
  clear hb1 HT HBA
  go_wp2_with fail
  refine (anyModel _ g m c' 0 A bs' w1 hr (by omega)).mono ?_
  rintro e w2 ⟨vs, md, q, rfl, ho, hsz, hq, hr2, hb2⟩
  have HB2 := Lib.hid (HB1.out.trans ((hb2.below hbase hz1).mono (by omega)))
  have HT2 := HT1.out.butG hb2 (by omega)
  have hz2 := hb2.size
  obtain ⟨dv, cv, ev, o1, o2⟩ := ho
  obtain rfl : vs = [dv, cv] := by
    injection ev with ev
    exact List.toArray_inj ev
  obtain ⟨A0, c0, rfl, -⟩ := o1.read
  obtain ⟨Ac, cc, rfl⟩ := OwnK.form o2
  obtain ⟨nd, hnd⟩ : ∃ nd, md.doms.length = nd := ⟨_, rfl⟩
  obtain ⟨nc, hnc⟩ : ∃ nc, md.cons.length = nc := ⟨_, rfl⟩
  rw [hnd] at o1 ⊢
  rw [hnc] at o2 ⊢
  have hd1 : 1 ≤ nd := by rw [← hnd]; exact hsz.1
  have hd4 : nd ≤ 4 := by rw [← hnd]; exact hsz.2.1
  have HSZ := Lib.hid hsz
  clear hnd hnc
  obtain ⟨w3, hw3⟩ : ∃ w3, w2.alloc (.cells #[.slice A0 nd c0, .slice Ac nc cc] 26) = w3 := ⟨_, rfl⟩
  have hb3 : Below w2.heap.size w2 w3 := by rw [← hw3]; exact b_alloc _ _
  have hz3 : w3.heap.size = w2.heap.size + 1 := by rw [← hw3, size_alloc_]
  have HM3 : Hid (TBlk 26 w3 w2.heap.size #[.slice A0 nd c0, .slice Ac nc cc]) := by rw [← hw3]; exact TBlk.new _ _ _
  have HO3 := Lib.hid (OwnMod.below (show OwnMod w2 w1.heap.size (.agg #[.slice A0 nd c0, .slice Ac nc cc]) md from ⟨_, _, rfl, o1, o2⟩) hb3)
  have HT3 := Lib.hid (HT2.below_ hb3 HT2.lt)
  have hr3 := hr2.under hb3 (by omega)
  have HB3 := Lib.hid (HB2.out.trans (hb3.mono (by omega)))
  clear o1 o2 HT2 hr2 hb2 hb3 HB2 HB1 HT1
  have hS : ∀ w', ButG g w3.heap.size w3 w' → w'.cell? ⟨w2.heap.size, 0, none⟩ = some (.slice A0 nd c0) ∧ w'.cell? ⟨w2.heap.size, 1, none⟩ = some (.slice Ac nc cc) := fun w' h => by
    have t := HM3.out.butG h (by omega)
    exact ⟨t.at_ 0 rfl, t.at_ 1 rfl⟩
  have hbd : ButG g w3.heap.size w3 w3.drew := below_butG (below_drewN (Below.refl _ _) 1) g
  have hS0 := hS _ hbd
  have hrd : Rd w3.drew wa.heap.size g A m c' bs' q := hr3.drewN 1
  have hzd : w3.drew.heap.size = w3.heap.size := rfl
  go_wp2_with fail
  clear hw3
  go_region_held3 (fun w' => w'.cell? ⟨w2.heap.size, 0, none⟩ = some (.slice A0 nd c0) ∧ w'.cell? ⟨w2.heap.size, 1, none⟩ = some (.slice Ac nc cc))
    (first | with_reducible exact hS0 | with_reducible assumption)
    (first
      | (go_at_call 42
         refine (assignment wa.heap.size g m c' q w1.heap.size A bs' [.slice A0 nd c0, .slice Ac nc cc] md w3.drew hrd (by omega) (OwnMod.below HO3.out (below_drewN (Below.refl _ _) 1)) (by omega) (by omega) HSZ.out).mono ?_
         rintro e W6 ⟨v6, xs6, q6, rfl, ox6, hx5, hq6, hr6, hbq⟩
         have hb6 := hbd.go hbq
         have hS6 := hS _ hb6
         obtain ⟨A6, c6, rfl, -⟩ := ox6.read
         have HT6 := HT3.out.butG hb6 (show w.heap.size ≠ g by omega)
         have HM6 := HM3.out.butG hb6 (show w2.heap.size ≠ g by omega)
         have y0 := HT6.at_ 0 rfl
         have y1 := HT6.at_ 1 rfl
         have f0 := HT6.frozen 0
         have f1 := HT6.frozen 1
         obtain ⟨W7, hW7⟩ : ∃ W7, (W6.setCell ⟨w.heap.size, 0, none⟩ (.slice A0 nd c0)).setCell ⟨w.heap.size, 1, none⟩ (.slice Ac nc cc) = W7 := ⟨_, rfl⟩
         have hq7 : ButG w.heap.size W6.heap.size W6 W7 := by rw [← hW7]; exact butG_set2 _ _ _ _ _
         have hT7 : TBlk 26 W7 w.heap.size #[.slice A0 nd c0, .slice Ac nc cc] := by rw [← hW7]; exact TBlk.laid2 HT6
         have hM7 := HM6.butG hq7 (show w2.heap.size ≠ w.heap.size by omega)
         have hS7 : W7.cell? ⟨w2.heap.size, 0, none⟩ = some (.slice A0 nd c0) ∧ W7.cell? ⟨w2.heap.size, 1, none⟩ = some (.slice Ac nc cc) := ⟨hM7.at_ 0 rfl, hM7.at_ 1 rfl⟩
         have zz6 := hb6.size))
  all_goals
    have OM := (HO3.out.butG hb6 (by omega)).butG hq7 (show w.heap.size < w1.heap.size by omega)
    have OX := OwnI.butG (OwnI.stays 3 |>.base _ _ _ _ _ (show w1.heap.size ≤ w3.drew.heap.size by omega) ox6) hq7 (show w.heap.size < w1.heap.size by omega)
    have BF : Below w.heap.size w W7 := (HB3.out.trans ((hb6.below (show w.heap.size ≤ g by omega) (by omega)).mono (Nat.le_refl _))).trans (hq7.below (Nat.le_refl _) (by omega))
    have t0 := hT7.at_ 0 rfl
    have t1 := hT7.at_ 1 rfl
    have HALL := Lib.hid (And.intro OM (And.intro OX (And.intro BF (And.intro HSZ.out hx5))))
    go_wp2_with fail
    refine bodyPost_ret (v := .tuple #[.agg #[.slice A0 nd c0, .slice Ac nc cc], .slice A6 xs6.length c6]) ?_ rfl ?_
    · simp [results, Try.results10, go_sem, t0, t1]
    · first
        | exact ⟨[.slice A0 nd c0, .slice Ac nc cc], md, _, xs6, rfl, OwnMod.base_ HALL.out.1 (by omega), (OwnI.stays 3).base _ _ _ _ _ (by omega) HALL.out.2.1, HALL.out.2.2.2.1, HALL.out.2.2.2.2, HALL.out.2.2.1⟩
        | exact ⟨[.slice A0 nd c0, .slice Ac nc cc], md, _, rfl, OwnMod.base_ HALL.out.1 (by omega), xs6, (OwnI.stays 3).base _ _ _ _ _ (by omega) HALL.out.2.1, HALL.out.2.2.2.1, HALL.out.2.2.2.2, HALL.out.2.2.1⟩
end Go.Proofs.Ytejfnkbdmlijbaa
