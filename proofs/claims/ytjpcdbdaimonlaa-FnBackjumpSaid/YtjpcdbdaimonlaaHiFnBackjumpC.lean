/- Texts laid into one: Dec AnyS DrawB EqM EqS Jump. -/
import Derived.Test.YtjpcdbdaimonlaaHiFnBackjumpB
import Derived.Test.YtjpcdbdaimonlaaMod
import Derived.Test.YtjpcdbdaimonlaaSto
import Derived.Test.YtjpcdbdaimonlaaVsto
/- Decisions: the reference's function. -/
namespace Go.Proofs.Ytjpcdbdaimonlaa
open Go.ChangeShapes Go.WideShapes Go.ChangeAt Go.RowKit
open Go.Shelf
set_option linter.unusedVariables false
set_option linter.unusedSimpArgs false
set_option maxRecDepth 100000

set_option maxHeartbeats 2500000 in
theorem sDecide (us : List Value) (s : Sto) (j : Nat) (v : Int) (b : Bool) (w : World) (h : StoR w w.heap.size us s) (hs : SmSto s) (hv : vstoF s = true) (h12 : s.levels.length < 12) (hj : j < s.model.doms.length) (hv0 : 0 ≤ v) (hv5 : v ≤ 5) :
    Calls Try.prog 28 #[.agg us.toArray, .agg #[.int .i64 (j : Int), .int .i64 v, .bool b]] w fun e w' => ∃ (dv cv lv : Value) (D : List Int), e = .returned (.tuple #[.agg #[dv, cv, lv], .bool true]) ∧ OwnSto w' w.heap.size (.agg #[dv, cv, lv]) ⟨s.model, s.levels ++ [D]⟩ ∧ vstoF ⟨s.model, s.levels ++ [D]⟩ = true ∧ Below w.heap.size w w' := by
  obtain ⟨i1, hi1, hy0, hy1, hy2⟩ := info_parts (P := Try.prog) (e := 23) (z := .slice none 0 0) (size := 1) (bytes := 24) (by kernel_rfl)
  have HS0 := Lib.hid h
  obtain ⟨da, ca, la, cd, cc, lc, rfl, g1, g2⟩ := h.parts
  obtain ⟨hmo, hvm, hlv, hl1, -⟩ := vsto_parts hv
  have HSN := Lib.hid (fun (D : List Int) (hl : D.length = s.model.doms.length) (hd : Doms D) => vsto_snoc hv h12 hl hd)
  have hdc : DiffC s.model.cons s.model.doms.length := fun c hc => vcon_diff (hmo.cons c hc) hmo.four
  have hn1 := hmo.one
  have hn4 := hmo.four
  have h6 := hmo.six
  have HCS := Lib.hid hmo.cons
  obtain ⟨nd, hnd⟩ : ∃ nd, s.model.doms.length = nd := ⟨_, rfl⟩
  obtain ⟨nc, hnc⟩ : ∃ nc, s.model.cons.length = nc := ⟨_, rfl⟩
  obtain ⟨nl, hnl⟩ : ∃ nl, s.levels.length = nl := ⟨_, rfl⟩
  have HND := Lib.hid hnd
  have HNL := Lib.hid hnl
  have HLV := Lib.hid hlv
  have HV := Lib.hid hv
  have SM := Lib.hid hs
  rw [hnd] at hj HSN hdc hn1 hn4 HCS
  rw [hnl] at h12 hl1 g2
  rw [hnd, hnc, hnl] at HS0
  rw [hnd, hnc] at g1
  rw [hnd, hnc, hnl]
  have HDC := Lib.hid hdc
  have GL := Lib.hid g2
  have GD := Lib.hid g1
  have HVC := Lib.hid (vcl_one (x := ⟨(j : Int), v, b⟩) (n := (nd : Int)) (by omega) (by omega) (by simp) (by simpa using hj) hv0 hv5)
  obtain ⟨t, ht⟩ : ∃ t, truesF ⟨(j : Int), v, b⟩ = t := ⟨_, rfl⟩
  have htd := trues_dom ⟨(j : Int), v, b⟩ hv0 hv5
  rw [ht] at htd
  have HTD := Lib.hid htd
  have HLD := Lib.hid (fun W : World => literalDomain ⟨(j : Int), v, b⟩ W hv0 hv5)
  rw [ht] at HLD
  have hd12 : decide ((12 : Int) ≤ (nl : Int)) = false := decide_eq_false (by omega)
  have hd12n : decide (12 ≤ nl) = false := decide_eq_false (by omega)
  obtain ⟨wa, hwa⟩ : ∃ wa, wa = ((w.alloc (.cells #[.slice da nd cd, .slice ca nc cc, .slice la nl lc] 29)).alloc (.cells #[.int .i64 (j : Int), .int .i64 v, .bool b] 60)).alloc (.cells #[.slice none 0 0, .slice none 0 0, .slice none 0 0] 29) := ⟨_, rfl⟩
  have hb0 : Below w.heap.size w wa := by rw [hwa]; exact b_alloc3 _ _ _ _
  have hsz : wa.heap.size = w.heap.size + 1 + 1 + 1 := by rw [hwa, size_alloc_, size_alloc_, size_alloc_]
  have HA : Hid (TBlk 29 wa w.heap.size #[.slice da nd cd, .slice ca nc cc, .slice la nl lc]) := by rw [hwa]; exact (TBlk.new _ _ _).below_ (b_alloc2 (w.alloc _) _ _) (by rw [size_alloc_]; omega)
  have HL : Hid (TBlk 60 wa (w.heap.size + 1) #[.int .i64 (j : Int), .int .i64 v, .bool b]) := by rw [hwa]; exact (TBlk.newAt (by simp)).alloc_ _
  have HR : Hid (TBlk 29 wa (w.heap.size + 1 + 1) #[.slice none 0 0, .slice none 0 0, .slice none 0 0]) := by rw [hwa]; exact TBlk.newAt (by simp)
  have GM := Lib.hid (StoR.on HS0.out hb0)
  have a0 := HA.out.at_ 0 rfl
  have a1 := HA.out.at_ 1 rfl
  have a2 := HA.out.at_ 2 rfl
  have HB0 := Lib.hid hb0
  clear h g1 g2 hmo hvm hlv hdc hnd hnc hnl hv hs htd hb0 ht
  go_enter Try.func28, Try.ntmps28
  go_wp2_with fail
  rw [← hwa]
  clear hwa
  have HSB := Lib.hid hsz
  clear hsz
  refine (svalidStore _ s _ GM.out).mono ?_
  rintro e w1 ⟨rfl, hb1⟩
  rw [HV.out]
  have hza := HSB.out
  have hz1 := hb1.size
  clear a0 a1 a2
  have hA1 := HA.out.below_ hb1 (by omega)
  have a0 := hA1.at_ 0 rfl
  have a1 := hA1.at_ 1 rfl
  have a2 := hA1.at_ 2 rfl
  clear hA1
  go_wp2_with fail
  refine (scopyStoX _ s w1 (StoR.on GM.out hb1) SM.out).mono ?_
  rintro e W2 ⟨v0, v1, v2, rfl, hx2, hB2⟩
  clear a0 a1 a2
  obtain ⟨WM, bM, om, hbM0, hbM1, hap, ol⟩ := hx2
  obtain ⟨A, n, c, B, kk, d, e0, -⟩ := OwnModL.shape (us := [v0, v1]) om
  obtain ⟨L, q, e1⟩ := ol.form
  rw [HNL.out] at e1
  simp only [List.cons.injEq, and_true] at e0
  obtain ⟨rfl, rfl⟩ := e0
  subst e1
  have OM := Lib.hid om
  have OL := Lib.hid ol
  have HAP := Lib.hid hap
  have hzM : WM.heap.size ≤ W2.heap.size := hap.1
  have hz2 := hB2.size
  clear om ol hap
  obtain ⟨W3, hW3⟩ : ∃ W3, W2.alloc (.cells #[.slice A n c, .slice B kk d, .slice L nl q] 29) = W3 := ⟨_, rfl⟩
  obtain ⟨g3, hg3⟩ : ∃ g3, W2.heap.size = g3 := ⟨_, rfl⟩
  have HT3 : Hid (TBlk 29 W3 g3 #[.slice A n c, .slice B kk d, .slice L nl q]) := by rw [← hW3, ← hg3]; exact TBlk.new _ _ _
  have hb3 : Below W2.heap.size W2 W3 := by rw [← hW3]; exact b_alloc _ _
  have hz3 : W3.heap.size = g3 + 1 := by rw [← hW3, size_alloc_, hg3]
  have hb13 : Below w1.heap.size w1 W3 := bgo hB2 hb3
  have hba3 : Below wa.heap.size wa W3 := bgo hb1 hb13
  obtain ⟨W4, hW4⟩ : ∃ W4, W3.alloc (.cells #[.int .i64 (j : Int), .int .i64 v, .bool b] 60) = W4 := ⟨_, rfl⟩
  have HT4 : Hid (TBlk 60 W4 W3.heap.size #[.int .i64 (j : Int), .int .i64 v, .bool b]) := by rw [← hW4]; exact TBlk.new _ _ _
  have hb4 : Below W3.heap.size W3 W4 := by rw [← hW4]; exact b_alloc _ _
  have hba4 := bgo hba3 hb4
  have hl3 := HL.out.below_ hba3 (by omega)
  have l0 := hl3.at_ 0 rfl
  have l1 := hl3.at_ 1 rfl
  have l2 := hl3.at_ 2 rfl
  have hA4 := HA.out.below_ hba4 (by omega)
  have a0 := hA4.at_ 0 rfl
  have HLR : Hid (LitR W4 W4.heap.size (some ⟨W3.heap.size, 0, none⟩) 1 [⟨(j : Int), v, b⟩]) := by
    refine ⟨rfl, by omega, fun _ => ⟨_, _, rfl, HT4.out.lt, fun i x hx => ?_⟩⟩
    match i, hx with
    | 0, hx =>
      simp at hx
      subst hx
      refine ⟨[.int .i64 (j : Int), .int .i64 v, .bool b], rfl, fun k u hu => ?_, rfl⟩
      have hk0 : 0 + 0 * 3 + k = k := by omega
      rw [hk0]
      exact HT4.out.at_ k (by simpa using hu)
    | i + 1, hx => simp at hx
  have HB4 := Lib.hid hba4
  clear hl3 hA4
  have HZ1 := Lib.hid (And.intro hz3 (And.intro hz1 (And.intro hza (And.intro hz2 (And.intro hzM (And.intro hb3 (And.intro hb13 (And.intro hba3 (And.intro hb4 (And.intro hba4 (And.intro hbM0 (And.intro hbM1 (And.intro hB2 (hb1))))))))))))))
  clear hz3 hz1 hza hz2 hzM hb3 hb13 hba3 hb4 hba4 hbM0 hbM1 hB2 hb1
  go_wp2_with fail
  clear hW3 hW4
  obtain ⟨hz3, hz1, hza, hz2, hzM, hb3, hb13, hba3, hb4, hba4, hbM0, hbM1, hB2, hb1⟩ := HZ1.out
  refine (svalidClause _ _ _ _ [⟨(j : Int), v, b⟩] _ HLR.out).mono ?_
  rintro e W5 ⟨rfl, hb5⟩
  rw [HVC.out]
  have hba5 := bgo hba4 hb5
  clear a0 l0 l1 l2
  have hA5 := HA.out.below_ hba5 (by omega)
  have a2 := hA5.at_ 2 rfl
  obtain ⟨ab, ao, x', u, rfl, hab, hxk, hcx, A1, c1, rfl, hr⟩ := SlR.at_ (k := nl - 1) (SlR.on (RowC.keeps IntC.keeps) (RowC.widens IntC.widens) GL.out (bgo HB0.out hba5)) (by omega)
  obtain ⟨hxl, hxd⟩ := HLV.out x' (List.mem_of_getElem? hxk)
  rw [HND.out] at hxl
  rw [hxl] at hcx hr
  have HR5 := Lib.hid hr
  have HXD := Lib.hid hxd
  have HXL := Lib.hid hxl
  have hsub : wrap64 ((nl : Int) - 1) = ((nl - 1 : Nat) : Int) := by rw [IntWalk.wrap64_in _ ⟨by omega, by omega⟩]; omega
  have hi0 : (0 : Int) ≤ ((nl - 1 : Nat) : Int) := by omega
  have hi1' : ((nl - 1 : Nat) : Int) < (nl : Int) := by omega
  have hz5 := hba5.size
  have hz45 := hb5.size
  have hz34 := hb4.size
  clear hxk hr hxd hxl hA5
  have HZ2 := Lib.hid (And.intro hz3 (And.intro hz1 (And.intro hza (And.intro hz2 (And.intro hzM (And.intro hb3 (And.intro hb13 (And.intro hba3 (And.intro hb4 (And.intro hba4 (And.intro hbM0 (And.intro hbM1 (And.intro hB2 (And.intro hb1 (And.intro hba5 (And.intro hb5 (And.intro hz5 (And.intro hz45 (hz34)))))))))))))))))))
  clear hz3 hz1 hza hz2 hzM hb3 hb13 hba3 hb4 hba4 hbM0 hbM1 hB2 hb1 hba5 hb5 hz5 hz45 hz34
  go_wp2_with fail
  obtain ⟨hz3, hz1, hza, hz2, hzM, hb3, hb13, hba3, hb4, hba4, hbM0, hbM1, hB2, hb1, hba5, hb5, hz5, hz45, hz34⟩ := HZ2.out
  refine (scopy0 A1 nd c1 x' _ HR5.out (by omega)).mono ?_
  rintro e W6 ⟨v6, rfl, o6, hB6⟩
  have h60 := o6.1
  rw [HXL.out] at h60
  obtain ⟨C, c6, rfl⟩ := (HoldR.of_own h60).form
  obtain ⟨gc, rfl, hgc, hgc6⟩ := (HoldR.of_own h60).pos (by omega)
  obtain ⟨y, hy⟩ : ∃ y, x'[j]? = some y := ⟨_, List.getElem?_eq_getElem (by rw [HXL.out]; exact hj)⟩
  have hco := h60.cellAt j (by omega)
  have hfo := h60.frozenAt j
  rw [List.getElem?_map, hy] at hco
  simp only [Option.map_some] at hco
  have HO6 := Lib.hid h60
  have hba6 := bgo hba5 hB6
  have hL6 := HL.out.below_ hba6 (by omega)
  have q0 : ∀ p : Later W6, p.val.cell? ⟨w.heap.size + 1, 0, none⟩ = some (.int .i64 (j : Int)) := fun p => p.cell hL6.lt (hL6.at_ 0 rfl)
  have q1 : ∀ p : Later W6, p.val.cell? ⟨w.heap.size + 1, 1, none⟩ = some (.int .i64 v) := fun p => p.cell hL6.lt (hL6.at_ 1 rfl)
  have q2 : ∀ p : Later W6, p.val.cell? ⟨w.heap.size + 1, 2, none⟩ = some (.bool b) := fun p => p.cell hL6.lt (hL6.at_ 2 rfl)
  have q3 : ∀ p : Later W6, p.val.cell? ⟨gc, j, none⟩ = some (.int .i64 y) := fun p => p.cell hgc6 hco
  have hjj : (j : Int) < (nd : Int) := by omega
  have hj0 : (0 : Int) ≤ (j : Int) := by omega
  have HY := Lib.hid hy
  clear hcx a2 o6 h60 hy
  go_wp2_with fail
  refine wp_region_later_tail 12 (by kernel_rfl) (by kernel_rfl) ?_
  simp only [List.take_succ_cons, List.take_zero, List.drop_succ_cons, List.drop_zero]
  repeat (go_big_quiet_step (first | (go_at_call 45; exact calls_later (HLD.out _))))
  refine wpQuiet_nil ?_
  intro w5 hw'
  obtain ⟨⟨W7, hb7⟩, hw''⟩ := hw'
  have hw3 : W7 = w5 := hw''.symm
  clear hw''
  subst hw3
  have hz67 := hb7.size
  have hz56 := hB6.size
  have hgc7 : gc < W7.heap.size := by omega
  have hco7 := (hb7.cell (p := ⟨gc, j, none⟩) hgc6).trans hco
  have hfo7 := (World.frozen?_of_block (a := ⟨gc, j, none⟩) (hb7.block gc hgc6)).trans hfo
  have hyd : 0 ≤ y ∧ y ≤ 63 := HXD.out y (List.mem_of_getElem? HY.out)
  have hzd := and_dom hyd.1 hyd.2 HTD.out.1 HTD.out.2
  obtain ⟨W8, hW8⟩ : ∃ W8, W7.setCell ⟨gc, j, none⟩ (.int .i64 (bits .and .i64 y t)) = W8 := ⟨_, rfl⟩
  have HO8 : Hid (OwnH W8 W5.heap.size 3 1 (.slice (some ⟨gc, 0, none⟩) nd c6) nd ((x'.set j (bits .and .i64 y t)).map (.int .i64))) := by
    show OwnH _ _ _ _ _ _ _
    rw [← hW8, List.map_set]
    exact (OwnH.below (OwnH.of_own HO6.out) hb7).stored j _
  have hb58 : Below W5.heap.size W5 W8 := by rw [← hW8]; exact (bgo hB6 hb7).setCell (p := ⟨gc, j, none⟩) (by simpa using hgc) _
  have hz58 := hb58.size
  have HDD : Hid (Doms (x'.set j (bits .and .i64 y t))) := fun r hr => by
    rcases List.mem_or_eq_of_mem_set hr with h1 | h1
    · exact HXD.out r h1
    · rw [h1]; exact ⟨hzd.1, hzd.2.1⟩
  have hba8 : Below wa.heap.size wa W8 := hba5.trans (hb58.mono hz5)
  have hb28 : Below W2.heap.size W2 W8 := (bgo hb3 (bgo hb4 hb5)).trans (hb58.mono (by omega))
  have T8 : Hid (TBlk 29 W8 g3 #[.slice A n c, .slice B kk d, .slice L nl q]) := HT3.out.below_ ((bgo hb4 hb5).trans (hb58.mono (by omega))) (by omega)
  have hA8 := HA.out.below_ hba8 (by omega)
  have hbd8 : Below W8.heap.size W8 W8.drew := Below.drew_ (Below.refl _ _)
  have d5 : W8.drew.cell? ⟨g3, 2, none⟩ = some (.slice L nl q) := T8.out.at_ 2 rfl
  have e0 : W8.drew.cell? ⟨w.heap.size, 0, none⟩ = some (.slice da nd cd) := hA8.at_ 0 rfl
  have e1 : W8.drew.cell? ⟨w.heap.size, 1, none⟩ = some (.slice ca nc cc) := hA8.at_ 1 rfl
  have HMR8 := Lib.hid (ModR.on GD.out ((HB0.out.trans (hba8.mono (by omega))).trans (hbd8.mono (by omega))))
  have HRI8 : Hid (IntR W8.drew W8.drew.heap.size (some ⟨gc, 0, none⟩) nd (x'.set j (bits .and .i64 y t))) := by
    obtain ⟨B', c', e', r'⟩ := IntR.of_ownH (HO8.out.below hbd8) (by omega)
    injection e' with e1 _ e3
    subst e1 e3
    exact r'
  have HB28 := Lib.hid hb28
  have HB8 := Lib.hid hba8
  have hDL : (x'.set j (bits .and .i64 y t)).length = nd := by rw [List.length_set, HXL.out]
  have HDL := Lib.hid hDL
  obtain ⟨D, hD⟩ : ∃ D, fixF s.model.cons (x'.set j (bits .and .i64 y t)) = D := ⟨_, rfl⟩
  have HDF : Hid (D.length = nd ∧ Doms D) := by
    have hdc' : DiffC s.model.cons (x'.set j (bits .and .i64 y t)).length := by rw [hDL]; exact HDC.out
    rw [← hD]
    exact ⟨(fix_len hdc' HDD.out).trans hDL, fix_doms hdc' HDD.out⟩
  have HFX := Lib.hid hD
  have HZM := Lib.hid hzM
  clear q0 q1 q2 q3 hco hfo hb7 hB6 hb58 hba8 hb28 hA8 hyd hzd hDL hD HO6 hba6 hL6
  go_wp2_with fail
  clear hW8 hco7 hfo7
  have HZ3 := Lib.hid (And.intro hg3 (And.intro hz3 (And.intro hz1 (And.intro hza (And.intro hz2 (And.intro hzM (And.intro hb3 (And.intro hb13 (And.intro hba3 (And.intro hb4 (And.intro hba4 (And.intro hbM0 (And.intro hbM1 (And.intro hB2 (And.intro hb1 (And.intro hba5 (And.intro hb5 (And.intro hz5 (And.intro hz45 (And.intro hz34 (And.intro hz67 (And.intro hz56 (And.intro hgc (And.intro hgc6 (And.intro hgc7 (hz58))))))))))))))))))))))))))
  clear hg3 hz3 hz1 hza hz2 hzM hb3 hb13 hba3 hb4 hba4 hbM0 hbM1 hB2 hb1 hba5 hb5 hz5 hz45 hz34 hz67 hz56 hgc hgc6 hgc7 hz58
  go_region_law (first
    | (refine step_append_any (by rfl) _ _ 27 (by rfl) WM.heap.size 23 i1 _ 1 24 Try.underlying27 hi1 hy0 hy1 hy2 rfl (by omega) (.slice L nl q) nl us9 (by rfl) ho9.out (some ⟨W9.heap.size, 0, none⟩) 1 [.slice A9 nd d9] (by exact ⟨_, rfl, .inr ⟨_, rfl, rfl, cell_one_new _ _ _⟩⟩) (by simp [Value.oneCell']) (by unfold maxLen; omega) (by omega) (by rw [size_alloc_]; omega) ?_
       intro vt Wt hown hbw hgr _
       obtain ⟨At, ct, rfl⟩ := (HoldR.of_own hown).form
       have Tt : TBlk 29 Wt g3 #[.slice A n c, .slice B kk d, .slice L nl q] := (hgr.block g3 T9.out.lt (own_blk (show (29 : TypeId) ≠ 23 by decide) ho9.out T9.out)).trans T9.out
       have d7 := Tt.at_ 2 rfl
       have f7 := Tt.frozen 2)
    | (go_simp
       go_at_call 41
       refine (sfixpointO [.slice da nd cd, .slice ca nc cc] s.model (x'.set j (bits .and .i64 y t)) (some ⟨gc, 0, none⟩) nd c6 W8.drew HMR8.out HRI8.out hn1 hn4 h6 HCS.out HDD.out).mono ?_
       rintro e W9 ⟨v9, rfl, h9, hB9⟩
       rw [HFX.out] at h9
       have h9i := OwnH.ints h9 (by omega)
       obtain ⟨A9, d9, rfl⟩ := h9.form
       have b9 := bgo hbd8 hB9
       have d6a := (T8.out.below_ b9 T8.out.lt).at_ 2 rfl
       have d6b := fun o => ((T8.out.below_ b9 T8.out.lt).on (b_alloc W9 o)).at_ 2 rfl
       have b29 := HB28.out.trans (b9.mono HB28.out.size)
       obtain ⟨us9, u1, u2, u3, u4⟩ := (OwnOf.stays (OwnI.stays 3)).below _ _ _ _ _ (b_alloc W9 (.cells #[.slice A9 nd d9] 23)) ((OwnOf.stays (OwnI.stays 3)).below _ _ _ _ _ b29 OL.out)
       have HU := Lib.hid (And.intro u1 (And.intro u2 u4))
       rw [HNL.out] at u2
       have ho9 := Lib.hid u2
       have zz9 : W8.heap.size ≤ W9.heap.size := b9.size
       have z28 := HB28.out.size
       have hm9 : WM.heap.size ≤ W9.heap.size := Nat.le_trans HZM.out (Nat.le_trans z28 zz9)
       have H9 := Lib.hid ((OwnI.stays 3).below _ _ _ _ _ (b_alloc W9 (.cells #[.slice A9 nd d9] 23)) ((OwnI.stays 3).base _ _ _ _ _ (show WM.heap.size ≤ W8.drew.heap.size from Nat.le_trans HZM.out z28) h9i))
       have T9 := Lib.hid ((T8.out.below_ b9 T8.out.lt).on (b_alloc W9 (.cells #[.slice A9 nd d9] 23)))
       clear u1 u2 u3 u4 h9i))
  all_goals
    obtain ⟨hg3, hz3, hz1, hza, hz2, hzM, hb3, hb13, hba3, hb4, hba4, hbM0, hbM1, hB2, hb1, hba5, hb5, hz5, hz45, hz34, hz67, hz56, hgc, hgc6, hgc7, hz58⟩ := HZ3.out
    obtain ⟨Wu, hWu⟩ : ∃ Wu, Wt.setCell ⟨g3, 2, none⟩ (.slice At (nl + 1) ct) = Wu := ⟨_, rfl⟩
    have K1 : TBlk 29 Wu g3 #[.slice A n c, .slice B kk d, .slice At (nl + 1) ct] := by rw [← hWu]; exact Tt.store 2 _
    have bWt : Below WM.heap.size W2 Wt := ((b29.mono hzM).trans ((b_alloc W9 (.cells #[.slice A9 nd d9] 23)).mono (by omega))).trans hbw
    have bWu : Below WM.heap.size W2 Wu := by rw [← hWu]; exact bWt.setCell (p := ⟨g3, 2, none⟩) (by show WM.heap.size ≤ g3; omega) _
    have KM := OwnMod.apart OM.out (HAP.out.low bWu)
    have KL : OwnOf 23 (OwnI 3) Wu WM.heap.size (.slice At (nl + 1) ct) (s.levels ++ [D]) := by
      rw [← hWu]
      exact OwnOf.shuns (show (29 : TypeId) ≠ 23 by decide) (OwnI.shuns (show (29 : TypeId) ≠ 3 by decide)) _ _ _ _ _ 2 _ _ _ Tt
        (OwnRows.snoc (show (3 : TypeId) ≠ 23 by decide) HU.out.1 HU.out.2.1 HU.out.2.2 H9.out (by rw [HNL.out]; omega) (by rw [HNL.out]; exact hown) hgr)
    have bau : Below wa.heap.size wa Wu := (bgo hb1 hB2).trans (bWu.mono (by omega))
    have hRu := HR.out.below_ bau (by omega)
    have s0 := K1.at_ 0 rfl
    have s1 := K1.at_ 1 rfl
    have s2 := K1.at_ 2 rfl
    have p0 := hRu.at_ 0 rfl
    have p1 := hRu.at_ 1 rfl
    have p2 := hRu.at_ 2 rfl
    have k0 := hRu.frozen 0
    have k1 := hRu.frozen 1
    have k2 := hRu.frozen 2
    obtain ⟨WF, hWF⟩ : ∃ WF, ((Wu.setCell ⟨w.heap.size + 1 + 1, 0, none⟩ (.slice A n c)).setCell ⟨w.heap.size + 1 + 1, 1, none⟩ (.slice B kk d)).setCell ⟨w.heap.size + 1 + 1, 2, none⟩ (.slice At (nl + 1) ct) = WF := ⟨_, rfl⟩
    have hRF : TBlk 29 WF (w.heap.size + 1 + 1) #[.slice A n c, .slice B kk d, .slice At (nl + 1) ct] := by rw [← hWF]; exact ((hRu.store 0 _).store 1 _).store 2 _
    have hown' : OwnSto Wu w.heap.size (.agg #[.slice A n c, .slice B kk d, .slice At (nl + 1) ct]) ⟨s.model, s.levels ++ [D]⟩ :=
      ⟨_, _, _, rfl, KM.base_ (by omega), (OwnOf.stays (OwnI.stays 3)).base _ _ _ _ _ (by omega) KL⟩
    have hownF : OwnSto WF w.heap.size (.agg #[.slice A n c, .slice B kk d, .slice At (nl + 1) ct]) ⟨s.model, s.levels ++ [D]⟩ := by
      rw [← hWF]
      exact ((hown'.set (by decide) (by decide) (by decide) hRu).set (by decide) (by decide) (by decide) (hRu.store 0 _)).set (by decide) (by decide) (by decide) ((hRu.store 0 _).store 1 _)
    have hbF : Below w.heap.size w WF := by
      rw [← hWF]
      exact (((HB0.out.trans (bau.mono (by omega))).setCell (p := ⟨w.heap.size + 1 + 1, 0, none⟩) (by simp; omega) _).setCell (p := ⟨w.heap.size + 1 + 1, 1, none⟩) (by simp; omega) _).setCell (p := ⟨w.heap.size + 1 + 1, 2, none⟩) (by simp; omega) _
    have FIN := Lib.hid (And.intro hownF hbF)
    have r0 := hRF.at_ 0 rfl
    have r1 := hRF.at_ 1 rfl
    have r2 := hRF.at_ 2 rfl
    have HZ4 := Lib.hid (And.intro hg3 (And.intro hz3 (And.intro hz1 (And.intro hza (And.intro hz2 (And.intro hzM (And.intro hb3 (And.intro hb13 (And.intro hba3 (And.intro hb4 (And.intro hba4 (And.intro hbM0 (And.intro hbM1 (And.intro hB2 (And.intro hb1 (And.intro hba5 (And.intro hb5 (And.intro hz5 (And.intro hz45 (And.intro hz34 (And.intro hz67 (And.intro hz56 (And.intro hgc (And.intro hgc6 (And.intro hgc7 (hz58))))))))))))))))))))))))))
    clear hg3 hz3 hz1 hza hz2 hzM hb3 hb13 hba3 hb4 hba4 hbM0 hbM1 hB2 hb1 hba5 hb5 hz5 hz45 hz34 hz67 hz56 hgc hgc6 hgc7 hz58
    clear hown' hownF hbF KM KL bau bWt bWu K1 hRu hRF hown hbw hgr Tt d7 f7 d6a d6b d5 e0 e1
    go_wp2_with fail
    exact bodyPost_ret (v := .tuple #[.agg #[.slice A n c, .slice B kk d, .slice At (nl + 1) ct], .bool true]) (by simp [results, Try.results28, go_sem, r0, r1, r2]) rfl ⟨_, _, _, D, rfl, FIN.out.1, HSN.out D HDF.out.1 HDF.out.2, FIN.out.2⟩
end Go.Proofs.Ytjpcdbdaimonlaa
/- What is drawn: a store. -/
namespace Go.Proofs.Ytjpcdbdaimonlaa
open Go.ChangeShapes Go.WideShapes Go.ChangeAt Go.RowKit
open Go.Shelf
set_option linter.unusedVariables false
set_option linter.unusedSimpArgs false
set_option maxRecDepth 100000

theorem sto_readU {w : World} {B : Nat} {us : List Value} {s : Sto} (h : OwnSto w B (.agg us.toArray) s) : StoR w w.heap.size us s := by
  obtain ⟨vs, e, hr⟩ := OwnSto.read h
  injection e with e
  rw [List.toArray_inj e]; exact hr
theorem Stg.lay {base g n c q : Nat} {A : Option Addr} {bs : List Int} {B0 g3 X : Nat} {cs cs2 : Array Value} {s s' : Sto} {w W : World} {a b d z0 z1 z2 : Value} (h : Stg base g n c q A bs B0 g3 cs cs2 s w W) (hx : TBlk 29 W X #[z0, z1, z2]) (hX : g3 < X) (ho : OwnSto W B0 (.agg #[a, b, d]) s') {WA : World}
    (hf : ((W.setCell ⟨X, 0, none⟩ a).setCell ⟨X, 1, none⟩ b).setCell ⟨X, 2, none⟩ d = WA) : Stg base g n c q A bs B0 g3 cs cs2 s w WA ∧ TBlk 29 WA X #[a, b, d] ∧ OwnSto WA B0 (.agg #[a, b, d]) s' := by
  have hs := h.sz
  have t1 := hx.store 0 a
  have t2 := t1.store 1 b
  have h1 := h.far hx (show (29 : TypeId) ≠ 3 by decide) (by decide) (by decide) (by omega) (by omega) 0 a
  have h2 := h1.far t1 (show (29 : TypeId) ≠ 3 by decide) (by decide) (by decide) (by omega) (by omega) 1 b
  subst hf
  exact ⟨h2.far t2 (show (29 : TypeId) ≠ 3 by decide) (by decide) (by decide) (by omega) (by omega) 2 d, t2.store 2 d, ((ho.set (show (29 : TypeId) ≠ 3 by decide) (by decide) (by decide) hx).set (show (29 : TypeId) ≠ 3 by decide) (by decide) (by decide) t1).set (show (29 : TypeId) ≠ 3 by decide) (by decide) (by decide) t2⟩
theorem OwnSto.rows {w : World} {B : Nat} {a b l : Value} {s : Sto} (h : OwnSto w B (.agg #[a, b, l]) s) : OwnOf 23 (OwnI 3) w B l s.levels := by
  obtain ⟨dv, cv, lv, e, -, o⟩ := h
  injection e with e
  have e : [a, b, l] = [dv, cv, lv] := List.toArray_inj e
  simp only [List.cons.injEq, and_true] at e
  obtain ⟨-, -, rfl⟩ := e
  exact o
/-- where the store's first row and its boxes lie behind 'append'. -/
theorem Stg.mid {base g n c q : Nat} {A : Option Addr} {bs : List Int} {B0 g3 : Nat} {cs cs2 : Array Value} {s : Sto} {w W wt : World} {b gR m c0 : Nat} {x : List Int} {v : Int} {v' : Value} {csR csb : Array Value} (h : Stg base g n c q A bs B0 g3 cs cs2 s w W) (hcs : TBlk 3 W gR csR) (hcb : TBlk 23 W b csb)
    (ht : (v' = .slice (some ⟨gR, 0, none⟩) (m + 1) c0 ∧ m + 1 ≤ c0 ∧ wt = (W.alloc (.cells #[.int .i64 v] 3)).setCell ⟨gR, m, none⟩ (.int .i64 v)) ∨ (wt.ownsRow W.heap.size 3 1 v' (m + 1) ((x ++ [v]).map (.int .i64)) ∧ Below (W.heap.size + 1) (W.alloc (.cells #[.int .i64 v] 3)) wt)) :
    TBlk 23 wt b csb ∧ TBlk 29 wt g3 cs ∧ ∃ A' n' c', v' = .slice A' n' c' := by
  have hba := b_alloc W (.cells #[.int .i64 v] 3)
  have hzz : (W.alloc (.cells #[.int .i64 v] 3)).heap.size = W.heap.size + 1 := size_alloc_ _ _
  rcases ht with ⟨rfl, -, rfl⟩ | ⟨h1, h2⟩
  · exact ⟨(hcb.on hba).far (hcb.ne hcs (by decide)), (h.box.on hba).far (h.box.ne hcs (by decide)), _, _, _, rfl⟩
  · have h2' : Below (W.alloc (.cells #[.int .i64 v] 3)).heap.size (W.alloc (.cells #[.int .i64 v] 3)) wt := by rw [hzz]; exact h2
    obtain ⟨A', c', e⟩ := (HoldR.of_own h1).form
    exact ⟨(hcb.on hba).on h2', (h.box.on hba).on h2', _, _, _, e⟩
theorem step_push_anyW {ops : Array Oper} {o : Oper} {a : Act} {K : Act → World → Prop} {Q : Exit → Act → World → Prop} {E : Prop} (i0 : TypeInfo) (hi0 : Try.prog.info? 3 = some i0) (hz0 : i0.zero = some (.int .i64 0)) (hz1 : i0.size = 1) (hz2 : i0.bytes = 8) (w WL : World) {v : Int} (hWL : w.alloc (.cells #[.int .i64 v] 3) = WL)
    (hgd : o.guard = none) (s x : Operand) (ho : o.op = .call { callee := .builtin .append, args := #[s, x], argTypes := #[ 23, 23 ] })
    (B g n c : Nat) (xs : List Int) (v' : Int) (cs : Array Value) (hs : a.eval s = .slice (some ⟨g, 0, none⟩) n c) (hx : a.eval x = .slice (some ⟨w.heap.size, 0, none⟩) 1 1) (hv : v' = v) (hn : xs.length = n) (hn1 : n ≤ 1000)
    (hc : TBlk 3 w g cs) (hm : cs.size = c) (hown : OwnI 3 w B (.slice (some ⟨g, 0, none⟩) n c) xs)
    (h : ∀ v' w', ((v' = .slice (some ⟨g, 0, none⟩) (n + 1) c ∧ n + 1 ≤ c ∧ w' = (w.alloc (.cells #[.int .i64 v] 3)).setCell ⟨g, n, none⟩ (.int .i64 v)) ∨ (w'.ownsRow w.heap.size 3 1 v' (n + 1) ((xs ++ [v]).map (.int .i64)) ∧ Below (w.heap.size + 1) (w.alloc (.cells #[.int .i64 v] 3)) w')) → K (a.put o.dst v') w') :
    if Region.wanted o (yielded ops a.tmps) = true then Oper.wp Try.prog o a WL K Q else E := by
  subst hWL hv
  exact step_push_any i0 hi0 hz0 hz1 hz2 hgd s x ho B g n c xs _ cs hs hx hn hn1 hc hm hown h
set_option maxHeartbeats 4000000 in
theorem anyStore (base g n c p : Nat) (A : Option Addr) (bs : List Int) (w : World) (h : Rd w base g A n c bs p) (hp : p ≤ 600000) :
    Calls Try.prog 12 #[.pointer (some ⟨g, 0, none⟩)] w fun e w' => ∃ (vs : List Value) (s : Sto) (q : Nat), e = .returned (.agg vs.toArray) ∧ OwnSto w' w.heap.size (.agg vs.toArray) s ∧ SzS s ∧ q ≤ p + 1000 ∧ Rd w' base g A n c bs q ∧ ButG g w.heap.size w w' := by
  obtain ⟨i0, hi0, hz0, hz1, hz2⟩ := info_parts info_int
  have hg : g < w.heap.size := (Array.getElem?_eq_some_iff.1 h.block).1
  have hG := Lib.hid hg
  obtain ⟨wa, hwa⟩ : ∃ wa, wa = w.alloc (.cells #[.slice none 0 0, .slice none 0 0, .slice none 0 0] 29) := ⟨_, rfl⟩
  have hb0 : Below w.heap.size w wa := by rw [hwa]; exact b_alloc _ _
  have hsa : wa.heap.size = w.heap.size + 1 := by rw [hwa, size_alloc_]
  have HSA := Lib.hid hsa
  have HR : Hid (TBlk 29 wa w.heap.size #[.slice none 0 0, .slice none 0 0, .slice none 0 0]) := by rw [hwa]; exact TBlk.new _ _ _
  have HD := Lib.hid (h.under hb0 hg)
  have HB0 := Lib.hid hb0
  clear h hb0 hg hsa
  go_enter Try.func12, Try.ntmps12
  go_wp2_with fail
  rw [← hwa]
  clear hwa
  refine (randomModelV base g n c p A bs wa HD.out (by omega)).mono ?_
  rintro e w1 ⟨vs, m, q, rfl, ho, hm1, hm4, hmc, hsm, hvm, hq, hd1, hb1⟩
  obtain ⟨us, e1, hmr⟩ := OwnMod.read ho
  obtain rfl : vs = us := by injection e1 with e1; exact List.toArray_inj e1
  have HSM := Lib.hid (show SzM m from ⟨hm1, hm4, hmc, fun k hk => (hsm k hk).1.d⟩)
  have HVM := Lib.hid hvm
  have HMR := Lib.hid hmr
  have HB1 := Lib.hid ((below_butG HB0.out g).go hb1)
  have HR1 := Lib.hid (HR.out.butG hb1 (by have := hG.out; omega))
  have HD1 := Lib.hid hd1
  have HZ1 := Lib.hid hb1.size
  clear hmr hvm hsm hm1 hm4 hmc hb1 hd1 ho e1
  go_wp2_with fail
  refine (sNewStore vs m w1 HMR.out HSM.out.sm HVM.out).mono ?_
  rintro e w2 ⟨vs2, rfl, os, hb2⟩
  obtain ⟨s0, hs0⟩ : ∃ s0, (Sto.mk m [fixF m.cons m.doms]) = s0 := ⟨_, rfl⟩
  have HV0 := Lib.hid (show vstoF s0 = true by rw [← hs0]; exact vsto_new HVM.out)
  have HM0 := Lib.hid (show SzM s0.model by rw [← hs0]; exact HSM.out)
  have HL0 := Lib.hid (show s0.levels.length = 1 by rw [← hs0]; rfl)
  rw [hs0] at os
  clear hs0
  obtain ⟨A1, c1, A2, c2, L, cL, rfl⟩ := OwnSto.shape os
  obtain ⟨nd, hnd⟩ : ∃ nd, s0.model.doms.length = nd := ⟨_, rfl⟩
  obtain ⟨nc, hnc⟩ : ∃ nc, s0.model.cons.length = nc := ⟨_, rfl⟩
  obtain ⟨nl, hnl⟩ : ∃ nl, s0.levels.length = nl := ⟨_, rfl⟩
  have HN := Lib.hid (And.intro hnd (And.intro hnc hnl))
  rw [hnd, hnc, hnl] at os
  rw [hnd, hnc, hnl]
  clear hnd hnc hnl
  obtain ⟨w3, hw3⟩ : ∃ w3, w2.alloc (.cells #[.slice A1 nd c1, .slice A2 nc c2, .slice L nl cL] 29) = w3 := ⟨_, rfl⟩
  obtain ⟨g3, hg3⟩ : ∃ g3, w2.heap.size = g3 := ⟨_, rfl⟩
  have T3 : Hid (Stg base g n c q A bs wa.heap.size g3 #[.slice A1 nd c1, .slice A2 nc c2, .slice L nl cL] #[.slice none 0 0, .slice none 0 0, .slice none 0 0] s0 w w3) := by
    have h1 := HZ1.out
    have h2 := hb2.size
    have h3 := HSA.out
    have h4 := hG.out
    have hb3 : Below w2.heap.size w2 w3 := by rw [← hw3]; exact b_alloc _ _
    have hb13 := bgo hb2 hb3
    exact ⟨HD1.out.under hb13 (by omega), HB1.out.go (below_butG hb13 g), (OwnSto.base_ (OwnSto.below os hb3) h1), by rw [← hw3, ← hg3]; exact TBlk.new _ _ _, HR1.out.on hb13, by omega, by omega, by omega⟩
  clear os hb2 HR HR1 HD HD1 HB0 HB1
  go_wp2_with fail
  clear hw3 hg3
  refine (pick base g n c q A bs 4 w3 T3.out.rd (by omega)).mono ?_
  rintro e w4 ⟨r, rfl, ⟨-, hr⟩, hd4, hb4⟩
  obtain ⟨r0, r1⟩ := hr (by omega)
  obtain ⟨k0, rfl⟩ := Int.eq_ofNat_of_zero_le r0
  have T4 := Lib.hid (T3.out.go hd4 hb4)
  clear hr r0 hd4 hb4 T3
  go_wp2_with fail
  have HW4 := Lib.hid (show Stg base g n c (q + 1) A bs wa.heap.size g3 #[.slice A1 s0.model.doms.length c1, .slice A2 s0.model.cons.length c2, .slice L s0.levels.length cL] #[.slice none 0 0, .slice none 0 0, .slice none 0 0] s0 w w4 by
    rw [HN.out.1, HN.out.2.1, HN.out.2.2]; exact T4.out)
  go_loopw [4] (fun t wr => ∃ (ee q1 : Nat) (A1 A2 L : Option Addr) (c1 c2 cL : Nat) (s : Sto), t = .int .i64 ee ∧ Hid (Stg base g n c q1 A bs wa.heap.size g3 #[.slice A1 s.model.doms.length c1, .slice A2 s.model.cons.length c2, .slice L s.levels.length cL] #[.slice none 0 0, .slice none 0 0, .slice none 0 0] s w wr) ∧ Hid (SzM s.model) ∧ Hid (vstoF s = true) ∧ Hid (ee + s.levels.length ≤ 4) ∧ q1 + 3 * ee ≤ q + 1 + 3 * k0) (fun t _ => (intOf t).toNat)
  case atStart => exact ⟨k0, q + 1, A1, A2, L, c1, c2, cL, s0, rfl, HW4, HM0, HV0, Lib.hid (by rw [HL0.out]; omega), by omega⟩
  case round =>
    obtain ⟨ee, q1, A1, A2, L, c1, c2, cL, s, rfl, hT, hSM, hV, hel, hqe⟩ := hrel
    clear HW4 HM0 HV0 HL0 T4 HN
    rename World => wr
    obtain ⟨nd, hnd⟩ : ∃ nd, s.model.doms.length = nd := ⟨_, rfl⟩
    obtain ⟨nc, hnc⟩ : ∃ nc, s.model.cons.length = nc := ⟨_, rfl⟩
    obtain ⟨nl, hnl⟩ : ∃ nl, s.levels.length = nl := ⟨_, rfl⟩
    have HN := Lib.hid (And.intro hnd (And.intro hnc hnl))
    rw [hnd, hnc, hnl] at hT
    have hnd1 : 1 ≤ nd := by rw [← hnd]; exact hSM.out.1
    have hnd4 : nd ≤ 4 := by rw [← hnd]; exact hSM.out.2.1
    have hnl1 : 1 ≤ nl := by rw [← hnl]; exact (vsto_parts hV.out).2.2.2.1
    have hnl4 : ee + nl ≤ 4 := by rw [← hnl]; exact hel.out
    clear hnd hnc hnl
    obtain ⟨x0, x1, x2⟩ := hT.out.cells
    have HSZ := Lib.hid hT.out.sz
    by_cases hlt : 0 < ee
    · obtain ⟨e1, rfl⟩ : ∃ e1, ee = e1 + 1 := ⟨ee - 1, by omega⟩
      have t5 : decide ((0 : Int) < ((e1 + 1 : Nat) : Int)) = true := decide_eq_true (by omega)
      have T0 := Lib.hid (hT.out.below (Below.drew_ (Below.refl _ _)))
      have HSS := Lib.hid (SzS.of hSM.out hV.out).sm
      have HLT := Lib.hid (And.intro (show s.levels.length < 12 by rw [HN.out.2.2]; omega) (show nd = s.model.doms.length from HN.out.1.symm))
      obtain ⟨V0, hV0⟩ : ∃ V0, wr.drew.alloc (.cells #[.slice none 0 0, .slice none 0 0, .slice none 0 0] 29) = V0 := ⟨_, rfl⟩
      have TV0 : Hid (Stg base g n c q1 A bs wa.heap.size g3 #[.slice A1 nd c1, .slice A2 nc c2, .slice L nl cL] #[.slice none 0 0, .slice none 0 0, .slice none 0 0] s w V0) := by rw [← hV0]; exact T0.out.below (b_alloc _ _)
      have XV0 : Hid (TBlk 29 V0 wr.heap.size #[.slice none 0 0, .slice none 0 0, .slice none 0 0]) := by rw [← hV0]; exact TBlk.new wr.drew _ _
      have hS0 := T0.out.cells
      have hSV0 := TV0.out.cells
      clear x0 x1 x2
      go_wp2_with fail
      go_region_held3 (fun w' => w'.cell? ⟨g3, 0, none⟩ = some (.slice A1 nd c1) ∧ w'.cell? ⟨g3, 1, none⟩ = some (.slice A2 nc c2) ∧ w'.cell? ⟨g3, 2, none⟩ = some (.slice L nl cL))
        (first | with_reducible exact hS0 | with_reducible assumption | exact hSV0)
        (first
          | (go_at_call 28
             have hq := T3
             first
               | (refine (sDecide [.slice A1 nd c1, .slice A2 nc c2, .slice L nl cL] s j r2 _ W3 (sto_readU T3.out.own) HSS.out hV.out HLT.out.1 (by rw [← HLT.out.2]; exact hjn) h20 h25).mono ?_; rintro e W4 ⟨dv, cv, lv, D, rfl, o4, v4, b4⟩; have T4 := Lib.hid (T3.out.below b4); have O4 := Lib.hid (OwnSto.base_ o4 BB3.out); (try have XA := Lib.hid (XA.out.on b4)))
               | (refine (sDecide [.slice A1 nd c1, .slice A2 nc c2, .slice L nl cL] s j r2 _ V3 (sto_readU TV3.out.own) HSS.out hV.out HLT.out.1 (by rw [← HLT.out.2]; exact hjn) h20 h25).mono ?_; rintro e W4 ⟨dv, cv, lv, D, rfl, o4, v4, b4⟩; have T4 := Lib.hid (TV3.out.below b4); have O4 := Lib.hid (OwnSto.base_ o4 BV3.out); obtain ⟨X, hX⟩ : ∃ X, W3.heap.size = X := ⟨_, rfl⟩; have hXg : Hid (g3 < X) := Lib.hid (hX ▸ T3.out.box.lt); have XA : Hid (TBlk 29 W4 X #[.slice none 0 0, .slice none 0 0, .slice none 0 0]) := by rw [← hX]; exact XV3.out.on b4)
             obtain ⟨s', hs'⟩ : ∃ s', Sto.mk s.model (s.levels ++ [D]) = s' := ⟨_, rfl⟩
             have HV4 := Lib.hid (show vstoF s' = true by rw [← hs']; exact v4)
             have HM4 := Lib.hid (show SzM s'.model by rw [← hs']; exact hSM.out)
             have HL4 := Lib.hid (show s'.levels.length = nl + 1 by rw [← hs', ← HN.out.2.2]; simp)
             rw [hs'] at O4
             clear hs' v4 o4
             obtain ⟨B1, d1, B2, d2, M, dM, e4⟩ := OwnSto.shape (us := [dv, cv, lv]) O4.out
             simp only [List.cons.injEq, and_true] at e4
             obtain ⟨rfl, rfl, rfl⟩ := e4
             have hS4 := T4.out.cells
             obtain ⟨V4, hV4⟩ : ∃ V4, W4.alloc (.cells #[.slice none 0 0, .slice none 0 0, .slice none 0 0] 29) = V4 := ⟨_, rfl⟩
             have TV4 : Hid (Stg base g n c (q1 + 3) A bs wa.heap.size g3 #[.slice A1 nd c1, .slice A2 nc c2, .slice L nl cL] #[.slice none 0 0, .slice none 0 0, .slice none 0 0] s w V4) := by rw [← hV4]; exact T4.out.below (b_alloc _ _)
             have XV4 : Hid (TBlk 29 V4 W4.heap.size #[.slice none 0 0, .slice none 0 0, .slice none 0 0]) := by rw [← hV4]; exact TBlk.new _ _ _
             have hSV4 := TV4.out.cells
             first
               | (have XA4 := XA.out; obtain ⟨WA, hWA⟩ : ∃ WA, ((W4.setCell ⟨X, 0, none⟩ (.slice B1 s'.model.doms.length d1)).setCell ⟨X, 1, none⟩ (.slice B2 s'.model.cons.length d2)).setCell ⟨X, 2, none⟩ (.slice M s'.levels.length dM) = WA := ⟨_, rfl⟩; have FA := Lib.hid (Stg.lay T4.out XA.out hXg.out O4.out hWA); have y0 := XA4.at_ 0 rfl; have y1 := XA4.at_ 1 rfl; have y2 := XA4.at_ 2 rfl; have f0 := XA4.frozen 0; have f1 := XA4.frozen 1; have f2 := XA4.frozen 2; clear XA4)
               | (obtain ⟨X, hX⟩ : ∃ X, W4.heap.size = X := ⟨_, rfl⟩; have XA4 : TBlk 29 V4 X #[.slice none 0 0, .slice none 0 0, .slice none 0 0] := by rw [← hX]; exact XV4.out
                  have hXg : Hid (g3 < X) := by rw [← hX]; exact T4.out.box.lt
                  obtain ⟨WA, hWA⟩ : ∃ WA, ((V4.setCell ⟨X, 0, none⟩ (.slice B1 s'.model.doms.length d1)).setCell ⟨X, 1, none⟩ (.slice B2 s'.model.cons.length d2)).setCell ⟨X, 2, none⟩ (.slice M s'.levels.length dM) = WA := ⟨_, rfl⟩
                  have O5 : OwnSto V4 wa.heap.size (.agg #[.slice B1 s'.model.doms.length d1, .slice B2 s'.model.cons.length d2, .slice M s'.levels.length dM]) s' := by rw [← hV4]; exact OwnSto.below O4.out (b_alloc _ _)
                  have FA := Lib.hid (Stg.lay TV4.out XA4 hXg.out O5 hWA); have y0 := XA4.at_ 0 rfl; have y1 := XA4.at_ 1 rfl; have y2 := XA4.at_ 2 rfl; have f0 := XA4.frozen 0; have f1 := XA4.frozen 1; have f2 := XA4.frozen 2; clear XA4 O5)
             have hSA := FA.out.1.cells)
          | (go_at_call 13
             have hq := T2
             first
               | (refine (pick base g n c (q1 + 2) A bs 2 W2 T2.out.rd (by omega)).mono ?_; rintro e W3 ⟨r3, rfl, p3, d3, b3⟩; have T3 := Lib.hid (T2.out.go d3 b3); have BB3 := Lib.hid (Nat.le_trans BB2.out b3.size); (try have XA := Lib.hid (XA.out.butG b3 (by have := hXg.out; have := HSZ.out; omega))))
               | (refine (pick base g n c (q1 + 2) A bs 2 V2 TV2.out.rd (by omega)).mono ?_; rintro e W3 ⟨r3, rfl, p3, d3, b3⟩; have T3 := Lib.hid (TV2.out.go d3 b3); have BB3 := Lib.hid (Nat.le_trans BV2.out b3.size); obtain ⟨X, hX⟩ : ∃ X, W2.heap.size = X := ⟨_, rfl⟩; have hXg : Hid (g3 < X) := Lib.hid (hX ▸ T2.out.box.lt); have XA : Hid (TBlk 29 W3 X #[.slice none 0 0, .slice none 0 0, .slice none 0 0]) := by rw [← hX]; exact XV2.out.butG b3 (by have := hXg.out; have := HSZ.out; omega))
             obtain ⟨V3, hV3⟩ : ∃ V3, W3.alloc (.cells #[.slice none 0 0, .slice none 0 0, .slice none 0 0] 29) = V3 := ⟨_, rfl⟩
             have TV3 : Hid (Stg base g n c (q1 + 3) A bs wa.heap.size g3 #[.slice A1 nd c1, .slice A2 nc c2, .slice L nl cL] #[.slice none 0 0, .slice none 0 0, .slice none 0 0] s w V3) := by rw [← hV3]; exact T3.out.below (b_alloc _ _)
             have XV3 : Hid (TBlk 29 V3 W3.heap.size #[.slice none 0 0, .slice none 0 0, .slice none 0 0]) := by rw [← hV3]; exact TBlk.new _ _ _
             have BV3 : Hid (wa.heap.size ≤ V3.heap.size) := by rw [← hV3, size_alloc_]; have := BB3.out; exact Lib.hid (by omega)
             have hS3 := T3.out.cells
             have hSV3 := TV3.out.cells)
          | (go_at_call 13
             have hq := T1
             first
               | (refine (pick base g n c (q1 + 1) A bs 6 W1 T1.out.rd (by omega)).mono ?_; rintro e W2 ⟨r2, rfl, p2, d2, b2⟩; have T2 := Lib.hid (T1.out.go d2 b2); have BB2 := Lib.hid (Nat.le_trans BB1.out b2.size); (try have XA := Lib.hid (XA.out.butG b2 (by have := hXg.out; have := HSZ.out; omega))))
               | (refine (pick base g n c (q1 + 1) A bs 6 V1 TV1.out.rd (by omega)).mono ?_; rintro e W2 ⟨r2, rfl, p2, d2, b2⟩; have T2 := Lib.hid (TV1.out.go d2 b2); have BB2 := Lib.hid (Nat.le_trans BV1.out b2.size); obtain ⟨X, hX⟩ : ∃ X, W1.heap.size = X := ⟨_, rfl⟩; have hXg : Hid (g3 < X) := Lib.hid (hX ▸ T1.out.box.lt); have XA : Hid (TBlk 29 W2 X #[.slice none 0 0, .slice none 0 0, .slice none 0 0]) := by rw [← hX]; exact XV1.out.butG b2 (by have := hXg.out; have := HSZ.out; omega))
             obtain ⟨h20, h25'⟩ := p2.2 (by omega)
             have h25 : r2 ≤ 5 := by omega
             clear h25' p2
             obtain ⟨V2, hV2⟩ : ∃ V2, W2.alloc (.cells #[.slice none 0 0, .slice none 0 0, .slice none 0 0] 29) = V2 := ⟨_, rfl⟩
             have TV2 : Hid (Stg base g n c (q1 + 2) A bs wa.heap.size g3 #[.slice A1 nd c1, .slice A2 nc c2, .slice L nl cL] #[.slice none 0 0, .slice none 0 0, .slice none 0 0] s w V2) := by rw [← hV2]; exact T2.out.below (b_alloc _ _)
             have XV2 : Hid (TBlk 29 V2 W2.heap.size #[.slice none 0 0, .slice none 0 0, .slice none 0 0]) := by rw [← hV2]; exact TBlk.new _ _ _
             have BV2 : Hid (wa.heap.size ≤ V2.heap.size) := by rw [← hV2, size_alloc_]; have := BB2.out; exact Lib.hid (by omega)
             have hS2 := T2.out.cells
             have hSV2 := TV2.out.cells)
          | (go_at_call 13
             first
               | (refine (pick base g n c q1 A bs nd wr.drew T0.out.rd (by omega)).mono ?_; rintro e W1 ⟨r1, rfl, p1, d1, b1⟩; have T1 := Lib.hid (T0.out.go d1 b1); have BB1 := Lib.hid (Nat.le_trans (show wa.heap.size ≤ wr.drew.heap.size by show wa.heap.size ≤ wr.heap.size; have := HSZ.out; omega) b1.size))
               | (refine (pick base g n c q1 A bs nd V0 TV0.out.rd (by omega)).mono ?_; rintro e W1 ⟨r1, rfl, p1, d1, b1⟩; have T1 := Lib.hid (TV0.out.go d1 b1); have BB1 := Lib.hid (show wa.heap.size ≤ W1.heap.size from Nat.le_trans (Nat.le_of_lt (Nat.lt_of_le_of_lt (Nat.le_trans HSZ.out.2.2.1 (Nat.le_of_lt HSZ.out.2.2.2)) XV0.out.lt)) b1.size); obtain ⟨X, hX⟩ : ∃ X, wr.heap.size = X := ⟨_, rfl⟩; have hXg : Hid (g3 < X) := Lib.hid (hX ▸ HSZ.out.2.2.2); have XA : Hid (TBlk 29 W1 X #[.slice none 0 0, .slice none 0 0, .slice none 0 0]) := by rw [← hX]; exact XV0.out.butG b1 (by have := HSZ.out; omega))
             obtain ⟨h10, hjn'⟩ := p1.2 (by omega)
             obtain ⟨j, rfl⟩ := Int.eq_ofNat_of_zero_le h10
             have hjn : j < nd := by omega
             clear hjn' h10 p1
             obtain ⟨V1, hV1⟩ : ∃ V1, W1.alloc (.cells #[.slice none 0 0, .slice none 0 0, .slice none 0 0] 29) = V1 := ⟨_, rfl⟩
             have TV1 : Hid (Stg base g n c (q1 + 1) A bs wa.heap.size g3 #[.slice A1 nd c1, .slice A2 nc c2, .slice L nl cL] #[.slice none 0 0, .slice none 0 0, .slice none 0 0] s w V1) := by rw [← hV1]; exact T1.out.below (b_alloc _ _)
             have XV1 : Hid (TBlk 29 V1 W1.heap.size #[.slice none 0 0, .slice none 0 0, .slice none 0 0]) := by rw [← hV1]; exact TBlk.new _ _ _
             have BV1 : Hid (wa.heap.size ≤ V1.heap.size) := by rw [← hV1, size_alloc_]; have := BB1.out; exact Lib.hid (by omega)
             have hS1 := T1.out.cells
             have hSV1 := TV1.out.cells))
      all_goals
        obtain ⟨WB, hWB⟩ : ∃ WB, ((WA.setCell ⟨g3, 0, none⟩ (.slice B1 s'.model.doms.length d1)).setCell ⟨g3, 1, none⟩ (.slice B2 s'.model.cons.length d2)).setCell ⟨g3, 2, none⟩ (.slice M s'.levels.length dM) = WB := ⟨_, rfl⟩
        have TB : Hid (Stg base g n c (q1 + 3) A bs wa.heap.size g3 #[.slice B1 s'.model.doms.length d1, .slice B2 s'.model.cons.length d2, .slice M s'.levels.length dM] #[.slice none 0 0, .slice none 0 0, .slice none 0 0] s' w WB) := by rw [← hWB]; exact FA.out.1.take FA.out.2.2
        have z0 := FA.out.2.1.at_ 0 rfl
        have z1 := FA.out.2.1.at_ 1 rfl
        have z2 := FA.out.2.1.at_ 2 rfl
        have u0 := FA.out.1.box.at_ 0 rfl
        have u1 := FA.out.1.box.at_ 1 rfl
        have u2 := FA.out.1.box.at_ 2 rfl
        have k0 := FA.out.1.box.frozen 0
        have k1 := FA.out.1.box.frozen 1
        have k2 := FA.out.1.box.frozen 2
        clear hWA hS0 hSV0 hS1 hSV1 hS2 hSV2 hS3 hSV3 hS4 hSV4 hSA hV0 hV1 hV2 hV3 hV4 y0 y1 y2 f0 f1 f2
        go_wp2_with fail
        go_roundw
        case rel => exact ⟨e1, q1 + 3, B1, B2, M, d1, d2, dM, s', by go_num, TB, HM4, HV4, Lib.hid (by rw [HL4.out]; omega), by omega⟩
        case measure => simp [intOf]
    · obtain rfl : ee = 0 := by omega
      have t5 : decide ((0 : Int) < ((0 : Nat) : Int)) = false := by decide
      have HSS := Lib.hid (SzS.of hSM.out hV.out)
      have hB0 := Lib.hid (Nat.le_trans HSZ.out.2.2.1 (Nat.le_of_lt HSZ.out.2.2.2))
      go_wp2_with fail
      refine (pick base g n c q1 A bs 16 wr hT.out.rd (by omega)).mono ?_
      rintro e w5 ⟨r, rfl, -, hd5, hb5⟩
      have T5 := Lib.hid (hT.out.go hd5 hb5)
      obtain ⟨x, hx⟩ : ∃ x, s.levels[0]? = some x := ⟨_, List.getElem?_eq_getElem (by rw [HN.out.2.2]; omega)⟩
      have hxl : x.length = nd := by rw [((vsto_parts hV.out).2.2.1 x (List.mem_of_getElem? hx)).1]; exact HN.out.1
      obtain ⟨bL, gR, c0, rfl, hbL, hgR, ⟨csb, tb⟩, hcx, hox, csR, tR, hcz, hxc, hck⟩ := OwnRows.head HN.out.2.2 T5.out.own.rows hx (by rw [hxl]; exact hnd1)
      rw [hxl] at hcx hox hxc
      have hR0 : ∃ z, csR[0]? = some z := ⟨_, hck 0 _ (List.getElem?_eq_getElem (by omega))⟩
      have hb0 : ∃ z, csb[0]? = some z := ⟨_, (cell_of_row w5 bL 0 _ _ _ tb).symm.trans hcx⟩
      have HX := Lib.hid (And.intro hxl (And.intro hox (And.intro tR (And.intro tb (And.intro hcz (fun (W : World) (h : TBlk 23 W bL csb) => (show ∃ zb, W.cell? ⟨bL, 0, none⟩ = some zb from ⟨_, h.at_ 0 hb0.choose_spec⟩)))))))
      have HR0 := Lib.hid hR0
      have TD := Lib.hid (T5.out.below (Below.drew_ (Below.refl _ _)))
      have hn0 : (0 : Int) < (nl : Int) := by omega
      have hd0 : (0 : Int) < (nd : Int) := by omega
      have hn0' : 0 < nl := by omega
      have hd0' : 0 < nd := by omega
      have HCX := Lib.hid hcx
      clear hT x0 x1 x2 hd5 hb5 hx hxl hox tb tR hcz hxc hck hcx hR0 hb0
      by_cases h0 : r = 0
      · subst h0
        have hS0 : w5.drew.cell? ⟨g3, 2, none⟩ = some (.slice (some ⟨bL, 0, none⟩) nl cL) := TD.out.cells.2.2
        have hSL : (w5.drew.alloc (.cells #[.int .i64 1] 3)).cell? ⟨g3, 2, none⟩ = some (.slice (some ⟨bL, 0, none⟩) nl cL) := (TD.out.below (b_alloc _ _)).cells.2.2
        obtain ⟨WL, hWL⟩ : ∃ WL, w5.drew.alloc (.cells #[.int .i64 1] 3) = WL := ⟨_, rfl⟩
        rw [hWL] at hSL
        have c5 : w5.drew.cell? ⟨bL, 0, none⟩ = some (.slice (some ⟨gR, 0, none⟩) nd c0) := HCX.out
        have c6 : WL.cell? ⟨bL, 0, none⟩ = some (.slice (some ⟨gR, 0, none⟩) nd c0) := by rw [← hWL]; exact ((b_alloc w5.drew _).cell HX.out.2.2.2.1.lt).trans HCX.out
        go_wp2_with fail
        refine wp_region_held_drew (S := fun w' => w'.cell? ⟨g3, 2, none⟩ = some (.slice (some ⟨bL, 0, none⟩) nl cL)) (by kernel_rfl) hS0 (fun hHeld => ?_)
        refine wpAnyH_take (i := 0) (oi := { dst := _, op := _, type := _, pos := _, after := _, guard := _ }) (v := ?va0) rfl (by kernel_rfl) (by kernel_rfl) (by kernel_rfl) (fun _ _ _ h => h) (Or.inl ⟨by rfl, ?ya0⟩) hHeld ?ra0
        case ya0 => (intro w hSw; (try dsimp only at hSw); go_simp; try with_reducible rfl)
        try simp only [Act.put, List.setIfInBounds_toArray, List.set_cons_zero, List.set_cons_succ]
        refine wpAnyH_take (i := 1) (oi := { dst := _, op := _, type := _, pos := _, after := _, guard := _ }) (v := ?va1) rfl (by kernel_rfl) (by kernel_rfl) (by kernel_rfl) (fun _ _ _ h => h) (Or.inl ⟨by rfl, ?ya1⟩) hHeld ?ra1
        case ya1 => (intro w hSw; (try dsimp only at hSw); go_simp; try with_reducible rfl)
        try simp only [Act.put, List.setIfInBounds_toArray, List.set_cons_zero, List.set_cons_succ]
        refine wpAnyH_take (i := 2) (oi := { dst := _, op := _, type := _, pos := _, after := _, guard := _ }) (v := ?va2) rfl (by kernel_rfl) (by kernel_rfl) (by kernel_rfl) (fun _ _ _ h => h) (Or.inl ⟨by rfl, ?ya2⟩) hHeld ?ra2
        case ya2 => (intro w hSw; (try dsimp only at hSw); go_simp; try with_reducible rfl)
        try simp only [Act.put, List.setIfInBounds_toArray, List.set_cons_zero, List.set_cons_succ]
        refine wpAnyH_take (i := 3) (oi := { dst := _, op := _, type := _, pos := _, after := _, guard := _ }) (v := ?va3) rfl (by kernel_rfl) (by kernel_rfl) (by kernel_rfl) (fun _ _ _ h => h) (Or.inl ⟨by rfl, ?ya3⟩) hHeld ?ra3
        case ya3 => (intro w hSw; (try dsimp only at hSw); go_simp; try with_reducible rfl)
        try simp only [Act.put, List.setIfInBounds_toArray, List.set_cons_zero, List.set_cons_succ]
        refine wpAnyH_take (i := 4) (oi := { dst := _, op := _, type := _, pos := _, after := _, guard := _ }) (v := ?va4) rfl (by kernel_rfl) (by kernel_rfl) (by kernel_rfl) (fun _ _ _ h => h) (Or.inl ⟨by rfl, ?ya4⟩) hHeld ?ra4
        case ya4 => (intro w hSw; (try dsimp only at hSw); go_simp; try with_reducible rfl)
        try simp only [Act.put, List.setIfInBounds_toArray, List.set_cons_zero, List.set_cons_succ]
        refine wpAnyH_ready (rs := [5, 6]) (by kernel_rfl) (by simp) ?_
        refine AllReadyH.cons (o := { dst := _, op := _, type := _, pos := _, after := _, guard := _ }) rfl (fun K hK => ?_) (AllReadyH.cons (o := { dst := _, op := _, type := _, pos := _, after := _, guard := _ }) rfl (fun K hK => ?_) AllReadyH.nil)
        · go_simp
          refine hK.out _ _ ?_ (fun hHeld => ?_)
          · exact hS0
          clear hK K
          try simp only [Act.put, List.setIfInBounds_toArray, List.set_cons_zero, List.set_cons_succ]
          refine wpAnyH_ready (rs := [6]) (by kernel_rfl) (by simp) ?_
          refine AllReadyH.cons (o := { dst := _, op := _, type := _, pos := _, after := _, guard := _ }) rfl (fun K hK => ?_) AllReadyH.nil
          go_simp
          refine hK.out _ _ ?_ (fun hHeld => ?_)
          · exact hSL
          clear hK K
          try simp only [Act.put, List.setIfInBounds_toArray, List.set_cons_zero, List.set_cons_succ]
          refine wpAnyH_ready (rs := [7]) (by kernel_rfl) (by simp) ?_
          refine AllReadyH.cons (o := { dst := _, op := _, type := _, pos := _, after := _, guard := _ }) rfl (fun K hK => ?_) AllReadyH.nil
          refine step_push_anyW i0 hi0 hz0 hz1 hz2 w5.drew WL hWL (by rfl) _ _ (by rfl) wa.heap.size gR nd c0 x 1 csR (by rfl) (by rfl) rfl HX.out.1 (by omega) HX.out.2.2.1 HX.out.2.2.2.2.1 HX.out.2.1 ?_
          intro vt wt ht
          obtain ⟨tb, tg, At, nt, ct, rfl⟩ := Stg.mid (cs := #[.slice A1 nd c1, .slice A2 nc c2, .slice (some ⟨bL, 0, none⟩) nl cL]) TD.out HX.out.2.2.1 HX.out.2.2.2.1 ht
          obtain ⟨s', T7, HZ7⟩ := Stg.push TD.out HX.out.1 HX.out.2.2.1 HX.out.2.2.2.1 hbL hgR HX.out.2.1 HSS.out (by omega) ht
          have T7 := Lib.hid T7
          have HZ7 := Lib.hid HZ7
          have hSt : wt.cell? ⟨g3, 2, none⟩ = some (.slice (some ⟨bL, 0, none⟩) nl cL) := tg.at_ 2 rfl
          have hSz : (wt.setCell ⟨bL, 0, none⟩ (.slice At nt ct)).cell? ⟨g3, 2, none⟩ = some (.slice (some ⟨bL, 0, none⟩) nl cL) := T7.out.cells.2.2
          obtain ⟨zb, hzb⟩ : ∃ zb, wt.cell? ⟨bL, 0, none⟩ = some zb := HX.out.2.2.2.2.2 wt tb
          have fzb := tb.frozen 0
          clear ht tb tg
          refine hK.out _ _ ?_ (fun hHeld => ?_)
          · exact hSt
          clear hK K
          try simp only [Act.put, List.setIfInBounds_toArray, List.set_cons_zero, List.set_cons_succ]
          refine wpAnyH_take (i := 8) (oi := { dst := _, op := _, type := _, pos := _, after := _, guard := _ }) (v := ?vb8) rfl (by kernel_rfl) (by kernel_rfl) (by kernel_rfl) (fun _ _ _ h => h) (Or.inl ⟨by rfl, ?yb8⟩) hHeld ?rb8
          case yb8 => (intro w hSw; (try dsimp only at hSw); go_simp; try with_reducible rfl)
          try simp only [Act.put, List.setIfInBounds_toArray, List.set_cons_zero, List.set_cons_succ]
          refine wpAnyH_ready (rs := [9]) (by kernel_rfl) (by simp) ?_
          refine AllReadyH.cons (o := { dst := _, op := _, type := _, pos := _, after := _, guard := _ }) rfl (fun K hK => ?_) AllReadyH.nil
          go_simp
          refine hK.out _ _ ?_ (fun hHeld => ?_)
          · exact hSz
          clear hK K
          try simp only [Act.put, List.setIfInBounds_toArray, List.set_cons_zero, List.set_cons_succ]
          refine wpAnyH_done (by kernel_rfl) ?_ _
          clear hHeld hSt hSz hzb fzb c5 c6 hS0 hSL hWL
          obtain ⟨wz, hwz⟩ : ∃ wz, wt.setCell ⟨bL, 0, none⟩ (.slice At nt ct) = wz := ⟨_, rfl⟩
          rw [hwz] at T7 ⊢
          clear hwz
          obtain ⟨x0, x1, x2⟩ := T7.out.cells
          have y0 := T7.out.res.at_ 0 rfl
          have y1 := T7.out.res.at_ 1 rfl
          have y2 := T7.out.res.at_ 2 rfl
          have f0 := T7.out.res.frozen 0
          have f1 := T7.out.res.frozen 1
          have f2 := T7.out.res.frozen 2
          obtain ⟨wf, hwf⟩ : ∃ wf, wf = ((wz.setCell ⟨w.heap.size, 0, none⟩ (.slice A1 nd c1)).setCell ⟨w.heap.size, 1, none⟩ (.slice A2 nc c2)).setCell ⟨w.heap.size, 2, none⟩ (.slice (some ⟨bL, 0, none⟩) nl cL) := ⟨_, rfl⟩
          have HF := Lib.hid (T7.out.fin hwf)
          have HWF := Lib.hid hwf
          clear hwf
          go_wp2_with fail
          rw [← HWF.out]
          obtain ⟨⟨t0, t1, t2⟩, ho, hrd, hbf⟩ := HF.out
          refine bodyPost_ret (v := .agg #[.slice A1 nd c1, .slice A2 nc c2, .slice (some ⟨bL, 0, none⟩) nl cL]) ?_ rfl ?_
          · simp [results, Try.results12, go_sem, t0, t1, t2]
          · exact ⟨[.slice A1 nd c1, .slice A2 nc c2, .slice (some ⟨bL, 0, none⟩) nl cL], _, _, rfl, ho, HZ7.out, by omega, hrd, hbf⟩
        · go_simp
          refine hK.out _ _ ?_ (fun hHeld => ?_)
          · exact hSL
          clear hK K
          try simp only [Act.put, List.setIfInBounds_toArray, List.set_cons_zero, List.set_cons_succ]
          refine wpAnyH_ready (rs := [5]) (by kernel_rfl) (by simp) ?_
          refine AllReadyH.cons (o := { dst := _, op := _, type := _, pos := _, after := _, guard := _ }) rfl (fun K hK => ?_) AllReadyH.nil
          go_simp
          refine hK.out _ _ ?_ (fun hHeld => ?_)
          · exact hSL
          clear hK K
          try simp only [Act.put, List.setIfInBounds_toArray, List.set_cons_zero, List.set_cons_succ]
          refine wpAnyH_ready (rs := [7]) (by kernel_rfl) (by simp) ?_
          refine AllReadyH.cons (o := { dst := _, op := _, type := _, pos := _, after := _, guard := _ }) rfl (fun K hK => ?_) AllReadyH.nil
          refine step_push_anyW i0 hi0 hz0 hz1 hz2 w5.drew WL hWL (by rfl) _ _ (by rfl) wa.heap.size gR nd c0 x 1 csR (by rfl) (by rfl) rfl HX.out.1 (by omega) HX.out.2.2.1 HX.out.2.2.2.2.1 HX.out.2.1 ?_
          intro vt wt ht
          obtain ⟨tb, tg, At, nt, ct, rfl⟩ := Stg.mid (cs := #[.slice A1 nd c1, .slice A2 nc c2, .slice (some ⟨bL, 0, none⟩) nl cL]) TD.out HX.out.2.2.1 HX.out.2.2.2.1 ht
          obtain ⟨s', T7, HZ7⟩ := Stg.push TD.out HX.out.1 HX.out.2.2.1 HX.out.2.2.2.1 hbL hgR HX.out.2.1 HSS.out (by omega) ht
          have T7 := Lib.hid T7
          have HZ7 := Lib.hid HZ7
          have hSt : wt.cell? ⟨g3, 2, none⟩ = some (.slice (some ⟨bL, 0, none⟩) nl cL) := tg.at_ 2 rfl
          have hSz : (wt.setCell ⟨bL, 0, none⟩ (.slice At nt ct)).cell? ⟨g3, 2, none⟩ = some (.slice (some ⟨bL, 0, none⟩) nl cL) := T7.out.cells.2.2
          obtain ⟨zb, hzb⟩ : ∃ zb, wt.cell? ⟨bL, 0, none⟩ = some zb := HX.out.2.2.2.2.2 wt tb
          have fzb := tb.frozen 0
          clear ht tb tg
          refine hK.out _ _ ?_ (fun hHeld => ?_)
          · exact hSt
          clear hK K
          try simp only [Act.put, List.setIfInBounds_toArray, List.set_cons_zero, List.set_cons_succ]
          refine wpAnyH_take (i := 8) (oi := { dst := _, op := _, type := _, pos := _, after := _, guard := _ }) (v := ?vc8) rfl (by kernel_rfl) (by kernel_rfl) (by kernel_rfl) (fun _ _ _ h => h) (Or.inl ⟨by rfl, ?yc8⟩) hHeld ?rc8
          case yc8 => (intro w hSw; (try dsimp only at hSw); go_simp; try with_reducible rfl)
          try simp only [Act.put, List.setIfInBounds_toArray, List.set_cons_zero, List.set_cons_succ]
          refine wpAnyH_ready (rs := [9]) (by kernel_rfl) (by simp) ?_
          refine AllReadyH.cons (o := { dst := _, op := _, type := _, pos := _, after := _, guard := _ }) rfl (fun K hK => ?_) AllReadyH.nil
          go_simp
          refine hK.out _ _ ?_ (fun hHeld => ?_)
          · exact hSz
          clear hK K
          try simp only [Act.put, List.setIfInBounds_toArray, List.set_cons_zero, List.set_cons_succ]
          refine wpAnyH_done (by kernel_rfl) ?_ _
          clear hHeld hSt hSz hzb fzb c5 c6 hS0 hSL hWL
          obtain ⟨wz, hwz⟩ : ∃ wz, wt.setCell ⟨bL, 0, none⟩ (.slice At nt ct) = wz := ⟨_, rfl⟩
          rw [hwz] at T7 ⊢
          clear hwz
          obtain ⟨x0, x1, x2⟩ := T7.out.cells
          have y0 := T7.out.res.at_ 0 rfl
          have y1 := T7.out.res.at_ 1 rfl
          have y2 := T7.out.res.at_ 2 rfl
          have f0 := T7.out.res.frozen 0
          have f1 := T7.out.res.frozen 1
          have f2 := T7.out.res.frozen 2
          obtain ⟨wf, hwf⟩ : ∃ wf, wf = ((wz.setCell ⟨w.heap.size, 0, none⟩ (.slice A1 nd c1)).setCell ⟨w.heap.size, 1, none⟩ (.slice A2 nc c2)).setCell ⟨w.heap.size, 2, none⟩ (.slice (some ⟨bL, 0, none⟩) nl cL) := ⟨_, rfl⟩
          have HF := Lib.hid (T7.out.fin hwf)
          have HWF := Lib.hid hwf
          clear hwf
          go_wp2_with fail
          rw [← HWF.out]
          obtain ⟨⟨t0, t1, t2⟩, ho, hrd, hbf⟩ := HF.out
          refine bodyPost_ret (v := .agg #[.slice A1 nd c1, .slice A2 nc c2, .slice (some ⟨bL, 0, none⟩) nl cL]) ?_ rfl ?_
          · simp [results, Try.results12, go_sem, t0, t1, t2]
          · exact ⟨[.slice A1 nd c1, .slice A2 nc c2, .slice (some ⟨bL, 0, none⟩) nl cL], _, _, rfl, ho, HZ7.out, by omega, hrd, hbf⟩
      have n0 : (r == 0) = false := by simpa using h0
      by_cases h1 : r = 1
      · subst h1
        have HZ7 := Lib.hid (show SzS ⟨s.model, []⟩ from ⟨hSM.out, by simp, fun z hz => by simp at hz⟩)
        have T7 := Lib.hid T5.out.drop
        have x2 := T5.out.cells.2.2
        have k2 := T5.out.box.frozen 2
        obtain ⟨wz, hwz⟩ : ∃ wz, w5.setCell ⟨g3, 2, none⟩ (.slice none 0 0) = wz := ⟨_, rfl⟩
        rw [hwz] at T7
        obtain ⟨z0, z1, z2⟩ := T7.out.cells
        have y0 := T7.out.res.at_ 0 rfl
        have y1 := T7.out.res.at_ 1 rfl
        have y2 := T7.out.res.at_ 2 rfl
        have f0 := T7.out.res.frozen 0
        have f1 := T7.out.res.frozen 1
        have f2 := T7.out.res.frozen 2
        obtain ⟨wf, hwf⟩ : ∃ wf, wf = ((wz.setCell ⟨w.heap.size, 0, none⟩ (.slice A1 nd c1)).setCell ⟨w.heap.size, 1, none⟩ (.slice A2 nc c2)).setCell ⟨w.heap.size, 2, none⟩ (.slice none 0 0) := ⟨_, rfl⟩
        have HF := Lib.hid (T7.out.fin hwf)
        have HWF := Lib.hid hwf
        clear hwf
        go_wp2_with fail
        rw [← HWF.out]
        obtain ⟨⟨t0, t1, t2⟩, ho, hrd, hbf⟩ := HF.out
        refine bodyPost_ret (v := .agg #[.slice A1 nd c1, .slice A2 nc c2, .slice none 0 0]) ?_ rfl ?_
        · simp [results, Try.results12, go_sem, t0, t1, t2]
        · exact ⟨[.slice A1 nd c1, .slice A2 nc c2, .slice none 0 0], _, _, rfl, ho, HZ7.out, by omega, hrd, hbf⟩
      have n1 : (r == 1) = false := by simpa using h1
      by_cases h2 : r = 2
      · subst h2
        have hneR : bL ≠ gR := HX.out.2.2.2.1.ne HX.out.2.2.1 (by decide)
        have KEY := Lib.hid (fun (W : World) (q' : Nat) (h : Stg base g n c q' A bs wa.heap.size g3 #[.slice A1 nd c1, .slice A2 nc c2, .slice (some ⟨bL, 0, none⟩) nl cL] #[.slice none 0 0, .slice none 0 0, .slice none 0 0] s w W) (h1 : TBlk 23 W bL csb) (h2 : TBlk 3 W gR csR) => (show W.cell? ⟨g3, 2, none⟩ = some (.slice (some ⟨bL, 0, none⟩) nl cL) ∧ W.cell? ⟨bL, 0, none⟩ = some (.slice (some ⟨gR, 0, none⟩) nd c0) from
          ⟨h.cells.2.2, (cell_of_row W bL 0 _ _ _ h1).trans ((cell_of_row w5 bL 0 _ _ _ HX.out.2.2.2.1).symm.trans HCX.out)⟩))
        obtain ⟨WL, hWL⟩ : ∃ WL, w5.drew.alloc (.cells #[.int .i64 1, .int .i64 64, .int .i64 3] 3) = WL := ⟨_, rfl⟩
        have hbL' : Below w5.drew.heap.size w5.drew WL := by rw [← hWL]; exact b_alloc _ _
        have TL := Lib.hid (TD.out.below hbL')
        have tbL : TBlk 23 WL bL csb := TBlk.on (w := w5.drew) HX.out.2.2.2.1 hbL'
        have tRL : TBlk 3 WL gR csR := TBlk.on (w := w5.drew) HX.out.2.2.1 hbL'
        have hTL : TBlk 3 WL w5.heap.size (ints [1, 64, 3]) := by rw [← hWL]; exact TBlk.new w5.drew _ _
        have hS0 := KEY.out w5.drew _ TD.out HX.out.2.2.2.1 HX.out.2.2.1
        have hSL := KEY.out WL _ TL.out tbL tRL
        have hG5 : Hid (g < w5.heap.size) := by have := T5.out.sz; exact Lib.hid (by omega)
        have HTL := Lib.hid (And.intro hTL (And.intro tbL tRL))
        clear hTL tbL tRL
        go_wp2_with fail
        go_region_held3 (fun w' => w'.cell? ⟨g3, 2, none⟩ = some (.slice (some ⟨bL, 0, none⟩) nl cL) ∧ w'.cell? ⟨bL, 0, none⟩ = some (.slice (some ⟨gR, 0, none⟩) nd c0))
          (first | with_reducible exact hS0 | with_reducible exact hSL | with_reducible assumption | exact hSL)
          (first
            | (go_at_call 29
               refine (one base g n c (q1 + 1) w5.heap.size 3 3 A bs [1, 64, 3] WL TL.out.rd (by omega) rfl (by omega) (by omega) (by have := hG5.out; omega) HTL.out.1.lt (fun i x hx => HTL.out.1.at_ i (ints_at hx))).mono ?_
               rintro e W7 ⟨y1, rfl, -, hd7, hb7⟩
               have T6 := Lib.hid (TL.out.go hd7 hb7)
               have tb7 := HTL.out.2.1.butG hb7 (by have := T5.out.sz; omega)
               have tR7 := HTL.out.2.2.butG hb7 (by have := T5.out.sz; omega)
               have hS7 := KEY.out W7 _ T6.out tb7 tR7
               obtain ⟨s', T7, HZ7'⟩ := T6.out.any (j := 0) y1 tR7 hgR
               have T7 := Lib.hid T7
               have HZ7 := Lib.hid (HZ7' HSS.out)
               have hS8 : (W7.setCell ⟨gR, 0, none⟩ (.int .i64 y1)).cell? ⟨g3, 2, none⟩ = some (.slice (some ⟨bL, 0, none⟩) nl cL) ∧ (W7.setCell ⟨gR, 0, none⟩ (.int .i64 y1)).cell? ⟨bL, 0, none⟩ = some (.slice (some ⟨gR, 0, none⟩) nd c0) := ⟨T7.out.cells.2.2, (cell_of_row _ bL 0 _ _ _ (tb7.far (g := gR) (j := 0) (u := .int .i64 y1) hneR)).trans ((cell_of_row w5 bL 0 _ _ _ HX.out.2.2.2.1).symm.trans HCX.out)⟩
               obtain ⟨zr, hzr⟩ : ∃ zr, W7.cell? ⟨gR, 0, none⟩ = some zr := ⟨_, tR7.at_ 0 HR0.out.choose_spec⟩
               have fzr := tR7.frozen 0
               clear HZ7' hb7 hd7 tb7 tR7))
        all_goals
          clear hS0 hSL hS7 hS8 hzr fzr hWL hbL'
          obtain ⟨wz, hwz⟩ : ∃ wz, W7.setCell ⟨gR, 0, none⟩ (.int .i64 y1) = wz := ⟨_, rfl⟩
          rw [hwz] at T7 ⊢
          clear hwz
          obtain ⟨x0, x1, x2⟩ := T7.out.cells
          have y0 := T7.out.res.at_ 0 rfl
          have y1 := T7.out.res.at_ 1 rfl
          have y2 := T7.out.res.at_ 2 rfl
          have f0 := T7.out.res.frozen 0
          have f1 := T7.out.res.frozen 1
          have f2 := T7.out.res.frozen 2
          obtain ⟨wf, hwf⟩ : ∃ wf, wf = ((wz.setCell ⟨w.heap.size, 0, none⟩ (.slice A1 nd c1)).setCell ⟨w.heap.size, 1, none⟩ (.slice A2 nc c2)).setCell ⟨w.heap.size, 2, none⟩ (.slice (some ⟨bL, 0, none⟩) nl cL) := ⟨_, rfl⟩
          have HF := Lib.hid (T7.out.fin hwf)
          have HWF := Lib.hid hwf
          clear hwf
          go_wp2_with fail
          rw [← HWF.out]
          obtain ⟨⟨t0, t1, t2⟩, ho, hrd, hbf⟩ := HF.out
          refine bodyPost_ret (v := .agg #[.slice A1 nd c1, .slice A2 nc c2, .slice (some ⟨bL, 0, none⟩) nl cL]) ?_ rfl ?_
          · simp [results, Try.results12, go_sem, t0, t1, t2]
          · exact ⟨[.slice A1 nd c1, .slice A2 nc c2, .slice (some ⟨bL, 0, none⟩) nl cL], _, _, rfl, ho, HZ7.out, by omega, hrd, hbf⟩
      have n2 : (r == 2) = false := by simpa using h2
      have HZ7 := HSS
      have T7 := T5
      obtain ⟨x0, x1, x2⟩ := T7.out.cells
      obtain ⟨x0, x1, x2⟩ := T7.out.cells
      have y0 := T7.out.res.at_ 0 rfl
      have y1 := T7.out.res.at_ 1 rfl
      have y2 := T7.out.res.at_ 2 rfl
      have f0 := T7.out.res.frozen 0
      have f1 := T7.out.res.frozen 1
      have f2 := T7.out.res.frozen 2
      obtain ⟨wf, hwf⟩ : ∃ wf, wf = ((w5.setCell ⟨w.heap.size, 0, none⟩ (.slice A1 nd c1)).setCell ⟨w.heap.size, 1, none⟩ (.slice A2 nc c2)).setCell ⟨w.heap.size, 2, none⟩ (.slice (some ⟨bL, 0, none⟩) nl cL) := ⟨_, rfl⟩
      have HF := Lib.hid (T7.out.fin hwf)
      have HWF := Lib.hid hwf
      clear hwf
      go_wp2_with fail
      rw [← HWF.out]
      obtain ⟨⟨t0, t1, t2⟩, ho, hrd, hbf⟩ := HF.out
      refine bodyPost_ret (v := .agg #[.slice A1 nd c1, .slice A2 nc c2, .slice (some ⟨bL, 0, none⟩) nl cL]) ?_ rfl ?_
      · simp [results, Try.results12, go_sem, t0, t1, t2]
      · exact ⟨[.slice A1 nd c1, .slice A2 nc c2, .slice (some ⟨bL, 0, none⟩) nl cL], _, _, rfl, ho, HZ7.out, by omega, hrd, hbf⟩
end Go.Proofs.Ytjpcdbdaimonlaa
/- What is drawn: a store and a level. -/
namespace Go.Proofs.Ytjpcdbdaimonlaa
open Go.ChangeShapes Go.WideShapes Go.ChangeAt Go.RowKit
open Go.Shelf
set_option linter.unusedVariables false
set_option linter.unusedSimpArgs false
set_option maxRecDepth 100000

set_option maxHeartbeats 3000000 in
theorem drawBackjump (A : Option Addr) (n c : Nat) (bs : List Int) (w : World) (h : CodeA w w.heap.size A n c bs) :
    Calls Try.prog 4 #[.slice A n c] w fun e w' => ∃ (vs : List Value) (s : Sto) (l : Int), e = .returned (.tuple #[.agg vs.toArray, .int .i64 l]) ∧ OwnSto w' w.heap.size (.agg vs.toArray) s ∧ SzS s ∧ -1 ≤ l ∧ l ≤ 12 ∧ Below w.heap.size w w' := by
  obtain ⟨wa, hwa⟩ : ∃ wa, wa = w.alloc (.cells #[.slice none 0 0, .slice none 0 0, .slice none 0 0] 29) := ⟨_, rfl⟩
  have hba : Below w.heap.size w wa := by rw [hwa]; exact b_alloc _ _
  have hza : wa.heap.size = w.heap.size + 1 := by rw [hwa, size_alloc_]
  have HT : Hid (TBlk 29 wa w.heap.size #[.slice none 0 0, .slice none 0 0, .slice none 0 0]) := by rw [hwa]; exact TBlk.new _ _ _
  have HN := newReader A n c bs wa ⟨SlA.on ByteC.keeps ByteC.widens h.1 hba, h.2⟩
  have HBA := Lib.hid hba
  have HZA := Lib.hid hza
  clear h hba hza
  go_enter Try.func4, Try.ntmps4
  go_wp2_with fail
  rw [← hwa]
  clear hwa
  refine HN.mono ?_
  rintro e w1 ⟨g, m, c', bs', rfl, hr, hb1, hg⟩
  have hbase := hr.base_le
  have HT1 := Lib.hid (HT.out.below_ hb1 HT.out.lt)
  have HB1 := Lib.hid (bgo HBA.out hb1)
  have HZ1 := Lib.hid hb1.size
  have HG := Lib.hid hg
  clear hb1 HT HBA hg
  go_wp2_with fail
  refine (anyStore _ g m c' 0 A bs' w1 hr (by omega)).mono ?_
  rintro e w2 ⟨vs, s, q, rfl, ho, hsz, hq, hr2, hb2⟩
  obtain ⟨A1, c1, A2, c2, L, cL, rfl⟩ := OwnSto.shape ho
  obtain ⟨nd, hnd⟩ : ∃ nd, s.model.doms.length = nd := ⟨_, rfl⟩
  obtain ⟨nc, hnc⟩ : ∃ nc, s.model.cons.length = nc := ⟨_, rfl⟩
  obtain ⟨nl, hnl⟩ : ∃ nl, s.levels.length = nl := ⟨_, rfl⟩
  have hl12 : nl ≤ 12 := by rw [← hnl]; exact hsz.2.1
  rw [hnd, hnc, hnl] at ho
  rw [hnd, hnc, hnl]
  clear hnd hnc hnl
  have HSZ := Lib.hid hsz
  have hz2 := hb2.size
  have hbw := HZ1.out
  have hga : g < w1.heap.size := (Array.getElem?_eq_some_iff.1 hr.block).1
  have HT2 := Lib.hid (HT1.out.butG hb2 (by have := HZA.out; omega))
  have HB2 := Lib.hid (HB1.out.trans ((hb2.below (show wa.heap.size ≤ g by omega) hbw).mono (by have := HZA.out; omega)))
  obtain ⟨w3, hw3⟩ : ∃ w3, w2.alloc (.cells #[.slice A1 nd c1, .slice A2 nc c2, .slice L nl cL] 29) = w3 := ⟨_, rfl⟩
  have hb3 : Below w2.heap.size w2 w3 := by rw [← hw3]; exact b_alloc _ _
  have HM3 : Hid (TBlk 29 w3 w2.heap.size #[.slice A1 nd c1, .slice A2 nc c2, .slice L nl cL]) := by rw [← hw3]; exact TBlk.new _ _ _
  have HO3 := Lib.hid (OwnSto.below ho hb3)
  have HT3 := Lib.hid (HT2.out.below_ hb3 HT2.out.lt)
  have hr3 := hr2.under hb3 (by omega)
  have HB3 := Lib.hid (HB2.out.trans (hb3.mono (by have := HZA.out; omega)))
  have HZ3 := Lib.hid (show w3.heap.size = w2.heap.size + 1 by rw [← hw3, size_alloc_])
  have hS : ∀ w', ButG g w3.heap.size w3 w' → w'.cell? ⟨w2.heap.size, 0, none⟩ = some (.slice A1 nd c1) ∧ w'.cell? ⟨w2.heap.size, 1, none⟩ = some (.slice A2 nc c2) ∧ w'.cell? ⟨w2.heap.size, 2, none⟩ = some (.slice L nl cL) := fun w' h => by
    have t := HM3.out.butG h (by omega)
    exact ⟨t.at_ 0 rfl, t.at_ 1 rfl, t.at_ 2 rfl⟩
  have hbd : ButG g w3.heap.size w3 w3.drew := below_butG (below_drewN (Below.refl _ _) 1) g
  have hS0 := hS _ hbd
  have hrd : Rd w3.drew wa.heap.size g A m c' bs' q := hr3.drewN 1
  have hwn : IntKind.i64.wrap ((nl : Int) + 2) = ((nl + 2 : Nat) : Int) := by rw [IntKind.wrap_i64]; omega
  have HGB := Lib.hid (And.intro hga (And.intro hbase hbw))
  have HZ2 := Lib.hid hz2
  clear ho hsz hb2 hr2 hb3 hr3 HT1 HT2 HB1 HB2 hga hbase hbw hz2
  go_wp2_with fail
  clear hw3
  go_region_held3 (fun w' => w'.cell? ⟨w2.heap.size, 0, none⟩ = some (.slice A1 nd c1) ∧ w'.cell? ⟨w2.heap.size, 1, none⟩ = some (.slice A2 nc c2) ∧ w'.cell? ⟨w2.heap.size, 2, none⟩ = some (.slice L nl cL))
    (first | with_reducible exact hS0 | with_reducible assumption)
    (first
      | (go_at_call 13
         refine (pick _ g m c' q A bs' ((nl + 2 : Nat) : Int) w3.drew hrd (by omega)).mono ?_
         rintro e W6 ⟨r, rfl, ⟨-, hr⟩, hr6, hbq⟩
         obtain ⟨hr0, hr1⟩ := hr (by omega)
         have hwr : IntKind.i64.wrap (r - 1) = r - 1 := by rw [IntKind.wrap_i64]; omega
         have hb6 := hbd.go hbq
         have hS6 := hS _ hb6
         have HT6 := HT3.out.butG hb6 (show w.heap.size ≠ g by have := HGB.out; have := HZA.out; omega)
         have HM6 := HM3.out.butG hb6 (show w2.heap.size ≠ g by have := HGB.out; have := HZ2.out; omega)
         have y0 := HT6.at_ 0 rfl
         have y1 := HT6.at_ 1 rfl
         have y2 := HT6.at_ 2 rfl
         have f0 := HT6.frozen 0
         have f1 := HT6.frozen 1
         have f2 := HT6.frozen 2
         obtain ⟨W7, hW7⟩ : ∃ W7, ((W6.setCell ⟨w.heap.size, 0, none⟩ (.slice A1 nd c1)).setCell ⟨w.heap.size, 1, none⟩ (.slice A2 nc c2)).setCell ⟨w.heap.size, 2, none⟩ (.slice L nl cL) = W7 := ⟨_, rfl⟩
         have hne : w2.heap.size ≠ w.heap.size := by have := HZ2.out; have := HGB.out; have := HZA.out; omega
         have hM7 : TBlk 29 W7 w2.heap.size #[.slice A1 nd c1, .slice A2 nc c2, .slice L nl cL] := by rw [← hW7]; exact ((HM6.far hne).far hne).far hne
         have hS7 : W7.cell? ⟨w2.heap.size, 0, none⟩ = some (.slice A1 nd c1) ∧ W7.cell? ⟨w2.heap.size, 1, none⟩ = some (.slice A2 nc c2) ∧ W7.cell? ⟨w2.heap.size, 2, none⟩ = some (.slice L nl cL) := ⟨hM7.at_ 0 rfl, hM7.at_ 1 rfl, hM7.at_ 2 rfl⟩
         clear hr))
  all_goals
    have T1 := HT6.store 0 (.slice A1 nd c1)
    have T2 := T1.store 1 (.slice A2 nc c2)
    have T3 := T2.store 2 (.slice L nl cL)
    have hO6 := OwnSto.butG HO3.out hb6 (show g < w1.heap.size from HGB.out.1)
    have hO7 : OwnSto W7 w1.heap.size (.agg #[.slice A1 nd c1, .slice A2 nc c2, .slice L nl cL]) s := by
      rw [← hW7]
      exact ((hO6.set (show (29 : TypeId) ≠ 3 by decide) (by decide) (by decide) HT6).set (show (29 : TypeId) ≠ 3 by decide) (by decide) (by decide) T1).set (show (29 : TypeId) ≠ 3 by decide) (by decide) (by decide) T2
    have hB7 : Below w.heap.size w W7 := by
      rw [← hW7]
      have k6 : Below w.heap.size w W6 := HB3.out.trans (hb6.below (show w.heap.size ≤ g by have := HGB.out; have := HZA.out; omega) (by have := HZ3.out; have := HZ2.out; have := HGB.out; have := HZA.out; omega))
      exact ((k6.setCell (p := ⟨w.heap.size, 0, none⟩) (Nat.le_refl _) _).setCell (p := ⟨w.heap.size, 1, none⟩) (Nat.le_refl _) _).setCell (p := ⟨w.heap.size, 2, none⟩) (Nat.le_refl _) _
    rw [hW7] at T3
    have t0 := T3.at_ 0 rfl
    have t1 := T3.at_ 1 rfl
    have t2 := T3.at_ 2 rfl
    have HALL := Lib.hid (And.intro (OwnSto.base_ hO7 (show w.heap.size ≤ w1.heap.size by have := HGB.out; have := HZA.out; omega)) (And.intro hB7 HSZ.out))
    clear T1 T2 T3 hO6 hO7 hB7 hW7 hS6 hS7 hM7 HM6 HT6 hb6 hbq hr6 y0 y1 y2 f0 f1 f2
    go_wp2_with fail
    refine bodyPost_ret (v := .tuple #[.agg #[.slice A1 nd c1, .slice A2 nc c2, .slice L nl cL], .int .i64 (r - 1)]) ?_ rfl ?_
    · simp [results, Try.results4, go_sem, t0, t1, t2]
    · exact ⟨[.slice A1 nd c1, .slice A2 nc c2, .slice L nl cL], s, r - 1, rfl, HALL.out.1, HALL.out.2.2, by omega, by omega, HALL.out.2.1⟩
end Go.Proofs.Ytjpcdbdaimonlaa
/- The laws' own equalities of lists of lists, constraints, models. -/
namespace Go.Proofs.Ytjpcdbdaimonlaa
open Go.ChangeShapes Go.WideShapes Go.ChangeAt Go.RowKit
open Go.Shelf
set_option linter.unusedVariables false
set_option maxRecDepth 100000

theorem lequalInts_b (A B : Option Addr) (n m c d : Nat) (xs ys : List Int) (w : World) (b : Bool) (h : decide (xs = ys) = b) (hx : SlR IntC w w.heap.size A n xs) (hy : SlR IntC w w.heap.size B m ys) :
    Calls Try.prog 24 #[.slice A n c, .slice B m d] w fun e w' => e = .returned (.bool b) ∧ Below w.heap.size w w' := by
  subst h; exact lequalInts A B n m c d xs ys w hx hy
theorem lequalLists (A B : Option Addr) (n m c d : Nat) (xs ys : List (List Int)) (w : World) (hx : SlR (RowC IntC) w w.heap.size A n xs) (hy : SlR (RowC IntC) w w.heap.size B m ys) :
    Calls Try.prog 9 #[.slice A n c, .slice B m d] w fun e w' => e = .returned (.bool (decide (xs = ys))) ∧ Below w.heap.size w w' := by
  have hn := hx.le
  have hm := hy.le
  have hlx := Lib.hid hx.len
  have hly := Lib.hid hy.len
  by_cases hnm : n = m
  · subst hnm
    have hne : ((n : Int) != (n : Int)) = false := by simp
    go_enter Try.func9, Try.ntmps9
    go_wp2_with fail
    go_loopw [5] (fun i wr => ∃ k : Nat, k ≤ n ∧ i = .int .i64 k ∧ Hid (EqB xs ys k) ∧ Below w.heap.size w wr) (fun i _ => n - (intOf i).toNat)
    case atStart => exact ⟨0, by omega, rfl, EqB.zero _ _, Below.refl _ _⟩
    case round =>
      obtain ⟨k, hk, rfl, hq, hb⟩ := hrel
      by_cases hlt : k < n
      · obtain ⟨ab, ao, x, u, rfl, hab, hxk, hcx, A1, c1, rfl, hx1⟩ := SlR.at_ (hx.below (RowC.keeps IntC.keeps) hb) hlt
        obtain ⟨bb, bo, y, u, rfl, hbb, hyk, hcy, B1, d1, rfl, hy1⟩ := SlR.at_ (hy.below (RowC.keeps IntC.keeps) hb) hlt
        have HX := Lib.hid hxk
        have HY := Lib.hid hyk
        clear hxk hyk
        have hw := hb.size
        have HX1 := Lib.hid (hx1.more IntC.widens hw)
        have HY1 := Lib.hid (hy1.more IntC.widens hw)
        have q0 : ∀ p : Later wr, p.val.cell? ⟨ab, ao + k, none⟩ = some (.slice A1 x.length c1) := fun p => p.cell (by omega) hcx
        have r0 : ∀ p : Later wr, p.val.cell? ⟨bb, bo + k, none⟩ = some (.slice B1 y.length d1) := fun p => p.cell (by omega) hcy
        clear hx1 hy1
        cases he : decide (x = y)
        · have HE := Lib.hid he
          clear he
          go_wp2_with fail
          refine wp_region_later (by kernel_rfl) (by kernel_rfl) ?_
          repeat (go_big_quiet_step (first | (go_at_call 24; exact calls_later (lequalInts_b _ _ _ _ _ _ x y _ _ HE.out (SlR.on IntC.keeps IntC.widens HX1.out (Later.below _)) (SlR.on IntC.keeps IntC.widens HY1.out (Later.below _))))))
          refine wpQuiet_nil ?_
          intro w5 hw'
          obtain ⟨⟨w6, hb5⟩, hw''⟩ := hw'
          subst hw''
          go_wp2_with fail
          go_ret
          exact ⟨ret_bool (decide_eq_false (ne_of_at HX.out HY.out (of_decide_eq_false HE.out))).symm, bgo hb hb5⟩
        · have HE := Lib.hid he
          clear he
          go_wp2_with fail
          refine wp_region_later (by kernel_rfl) (by kernel_rfl) ?_
          repeat (go_big_quiet_step (first | (go_at_call 24; exact calls_later (lequalInts_b _ _ _ _ _ _ x y _ _ HE.out (SlR.on IntC.keeps IntC.widens HX1.out (Later.below _)) (SlR.on IntC.keeps IntC.widens HY1.out (Later.below _))))))
          refine wpQuiet_nil ?_
          intro w5 hw'
          obtain ⟨⟨w6, hb5⟩, hw''⟩ := hw'
          subst hw''
          go_wp2_with fail
          go_roundw
          case rel => exact ⟨k + 1, by omega, by go_num, EqB.succ hq.out (by rw [HX.out, HY.out, of_decide_eq_true HE.out]), bgo hb hb5⟩
          case measure => simp [intOf]; omega
      · obtain rfl : k = n := by omega
        go_wp2_with fail
        go_ret
        exact ⟨ret_bool (decide_eq_true (EqB.done hq.out hlx.out hly.out)).symm, hb⟩
  · have hne : ((n : Int) != (m : Int)) = true := by simp; omega
    have HN := Lib.hid hnm
    clear hnm
    go_enter Try.func9, Try.ntmps9
    go_wp2_with fail
    go_ret
    exact ⟨ret_bool (decide_eq_false (fun h => HN.out (by rw [← hlx.out, ← hly.out, h]))).symm, Below.refl _ _⟩
set_option maxHeartbeats 4000000 in
theorem lequalConstraints (us vs : List Value) (c d : Con) (w : World) (h : ConR w w.heap.size us c) (k : ConR w w.heap.size vs d) :
    Calls Try.prog 25 #[.agg us.toArray, .agg vs.toArray] w fun e w' => e = .returned (.bool (decide (c = d))) ∧ Below w.heap.size w w' := by
  obtain ⟨va, aa, ra, cv, ca, cr, rfl, g1, g2, g3, -⟩ := h
  obtain ⟨vb, ab, rb, dv, da, dr, rfl, k1, k2, k3, -⟩ := k
  obtain ⟨wa, hwa⟩ : ∃ wa, wa = (w.alloc (.cells #[.int .i64 c.kind, .slice va c.vars.length cv, .slice aa c.args.length ca, .int .i64 c.bound, .slice ra c.rows.length cr] 53)).alloc (.cells #[.int .i64 d.kind, .slice vb d.vars.length dv, .slice ab d.args.length da, .int .i64 d.bound, .slice rb d.rows.length dr] 53) := ⟨_, rfl⟩
  have hb0 : Below w.heap.size w wa := by rw [hwa]; exact b_alloc2 _ _ _
  have hsz : wa.heap.size = w.heap.size + 1 + 1 := by rw [hwa, size_alloc_, size_alloc_]
  have ha : CBlk wa w.heap.size (.int .i64 c.kind) (.slice va c.vars.length cv) (.slice aa c.args.length ca) (.int .i64 c.bound) (.slice ra c.rows.length cr) := by
    rw [hwa]; exact (CBlk.new w _ _ _ _ _).below (b_alloc _ _) (by rw [size_alloc_]; omega)
  have hd : CBlk wa (w.heap.size + 1) (.int .i64 d.kind) (.slice vb d.vars.length dv) (.slice ab d.args.length da) (.int .i64 d.bound) (.slice rb d.rows.length dr) := by
    rw [hwa]
    have := CBlk.new (w.alloc (.cells #[.int .i64 c.kind, .slice va c.vars.length cv, .slice aa c.args.length ca, .int .i64 c.bound, .slice ra c.rows.length cr] 53)) (.int .i64 d.kind) (.slice vb d.vars.length dv) (.slice ab d.args.length da) (.int .i64 d.bound) (.slice rb d.rows.length dr)
    rw [size_alloc_] at this
    exact this
  have HA := Lib.hid ha
  have HD := Lib.hid hd
  have G1 := Lib.hid g1
  have G2 := Lib.hid g2
  have G3 := Lib.hid g3
  have K1 := Lib.hid k1
  have K2 := Lib.hid k2
  have K3 := Lib.hid k3
  clear ha hd g1 g2 g3 k1 k2 k3
  by_cases e0 : c.kind = d.kind
  case neg =>
    have hne : (c.kind == d.kind) = false := by simpa using e0
    have hE : decide (c = d) = false := decide_eq_false (fun h => e0 (by rw [h]))
    rw [hE]
    clear hE e0
    go_enter Try.func25, Try.ntmps25
    go_wp2_with fail
    go_ret
    exact ⟨rfl, by rw [← hwa]; exact hb0⟩
  have hne0 : (c.kind == d.kind) = true := by simpa using e0
  have E0 := Lib.hid e0
  clear e0
  go_enter Try.func25, Try.ntmps25
  go_wp2_with fail
  rw [← hwa]
  clear hwa
  refine (lequalInts _ _ _ _ _ _ c.vars d.vars _ (IntR.on G1.out hb0) (IntR.on K1.out hb0)).mono ?_
  rintro e w1 ⟨rfl, hb1⟩
  have z1 := hb1.size
  have ha1 := HA.out.below hb1 (by omega)
  have hd1 := HD.out.below hb1 (by omega)
  obtain ⟨-, -, a2, a3, a4⟩ := ha1.cells
  obtain ⟨-, -, b2, b3, b4⟩ := hd1.cells
  have HA1 := Lib.hid ha1
  have HD1 := Lib.hid hd1
  have hc1 := bgo hb0 hb1
  clear ha1 hd1
  cases e1 : decide (c.vars = d.vars)
  · have hE : decide (c = d) = false := decide_eq_false (fun h => of_decide_eq_false e1 (by rw [h]))
    have HE := Lib.hid hE
    have E1 := Lib.hid e1
    clear hE e1
    go_wp2_with fail
    go_ret
    exact ⟨ret_bool HE.out.symm, hc1⟩
  have E1 := Lib.hid e1
  clear e1
  go_wp2_with fail
  refine (lequalInts _ _ _ _ _ _ c.args d.args _ (IntR.on G2.out hc1) (IntR.on K2.out hc1)).mono ?_
  rintro e w2 ⟨rfl, hb2⟩
  have z2 := hb2.size
  have ha2 := HA1.out.below hb2 (by omega)
  have hd2 := HD1.out.below hb2 (by omega)
  clear a2 a3 a4 b2 b3 b4
  obtain ⟨-, -, -, a3, a4⟩ := ha2.cells
  obtain ⟨-, -, -, b3, b4⟩ := hd2.cells
  have hc2 := bgo hc1 hb2
  clear ha2 hd2
  cases e2 : decide (c.args = d.args)
  · have hE : decide (c = d) = false := decide_eq_false (fun h => of_decide_eq_false e2 (by rw [h]))
    have HE := Lib.hid hE
    have E2 := Lib.hid e2
    clear hE e2
    go_wp2_with fail
    go_ret
    exact ⟨ret_bool HE.out.symm, hc2⟩
  have E2 := Lib.hid e2
  clear e2
  by_cases e3 : c.bound = d.bound
  case neg =>
    have hne : (c.bound == d.bound) = false := by simpa using e3
    have hE : decide (c = d) = false := decide_eq_false (fun h => e3 (by rw [h]))
    have HE := Lib.hid hE
    clear hE e3
    go_wp2_with fail
    go_ret
    exact ⟨ret_bool HE.out.symm, hc2⟩
  have hne3 : (c.bound == d.bound) = true := by simpa using e3
  have E3 := Lib.hid e3
  clear e3
  go_wp2_with fail
  refine (lequalLists _ _ _ _ _ _ c.rows d.rows _ (SlR.on (RowC.keeps IntC.keeps) (RowC.widens IntC.widens) G3.out hc2) (SlR.on (RowC.keeps IntC.keeps) (RowC.widens IntC.widens) K3.out hc2)).mono ?_
  rintro e w3 ⟨rfl, hb3⟩
  have hc3 := bgo hc2 hb3
  cases e4 : decide (c.rows = d.rows)
  · have hE : decide (c = d) = false := decide_eq_false (fun h => of_decide_eq_false e4 (by rw [h]))
    have HE := Lib.hid hE
    have E4 := Lib.hid e4
    clear hE e4
    go_wp2_with fail
    go_ret
    exact ⟨ret_bool HE.out.symm, hc3⟩
  have hE : decide (c = d) = true := decide_eq_true (by
    rcases c with ⟨k, v, a, b, r⟩
    rcases d with ⟨k', v', a', b', r'⟩
    have h0 := E0.out
    have h1 := of_decide_eq_true E1.out
    have h2 := of_decide_eq_true E2.out
    have h3 := E3.out
    have h4 := of_decide_eq_true e4
    simp only at h0 h1 h2 h3 h4
    subst h0 h1 h2 h3 h4
    rfl)
  have HE := Lib.hid hE
  have E4 := Lib.hid e4
  clear hE e4
  go_wp2_with fail
  go_ret
  exact ⟨ret_bool HE.out.symm, hc3⟩
theorem lequalConstraints_b (us vs : List Value) (c d : Con) (w : World) (b : Bool) (hb : decide (c = d) = b) (h : ConR w w.heap.size us c) (k : ConR w w.heap.size vs d) :
    Calls Try.prog 25 #[.agg us.toArray, .agg vs.toArray] w fun e w' => e = .returned (.bool b) ∧ Below w.heap.size w w' := by
  subst hb; exact lequalConstraints us vs c d w h k
set_option maxHeartbeats 4000000 in
theorem lequalModels (us vs : List Value) (c d : Mod) (w : World) (h : ModR w w.heap.size us c) (k : ModR w w.heap.size vs d) :
    Calls Try.prog 10 #[.agg us.toArray, .agg vs.toArray] w fun e w' => e = .returned (.bool (decide (c = d))) ∧ Below w.heap.size w w' := by
  obtain ⟨A1, B1, ca, cb, rfl, g1, g2, -⟩ := h
  obtain ⟨A2, B2, da, db, rfl, k1, k2, -⟩ := k
  obtain ⟨wa, hwa⟩ : ∃ wa, wa = (w.alloc (.cells #[.slice A1 c.doms.length ca, .slice B1 c.cons.length cb] 26)).alloc (.cells #[.slice A2 d.doms.length da, .slice B2 d.cons.length db] 26) := ⟨_, rfl⟩
  have hb0 : Below w.heap.size w wa := by rw [hwa]; exact b_alloc2 _ _ _
  have hsz : wa.heap.size = w.heap.size + 1 + 1 := by rw [hwa, size_alloc_, size_alloc_]
  have ha : TBlk 26 wa w.heap.size #[.slice A1 c.doms.length ca, .slice B1 c.cons.length cb] := by rw [hwa]; exact (TBlk.new _ _ _).alloc_ _
  have hd : TBlk 26 wa (w.heap.size + 1) #[.slice A2 d.doms.length da, .slice B2 d.cons.length db] := by
    have := TBlk.new (w.alloc (.cells #[.slice A1 c.doms.length ca, .slice B1 c.cons.length cb] 26)) #[.slice A2 d.doms.length da, .slice B2 d.cons.length db] 26
    rw [size_alloc_] at this
    rw [hwa]; exact this
  have HA := Lib.hid ha
  have HD := Lib.hid hd
  have G1 := Lib.hid (IntR.on g1 hb0)
  have K1 := Lib.hid (IntR.on k1 hb0)
  have G2 := Lib.hid (SlK.on_ ConR.keeps ConR.widens g2 hb0)
  have K2 := Lib.hid (SlK.on_ ConR.keeps ConR.widens k2 hb0)
  clear ha hd g1 g2 k1 k2
  go_enter Try.func10, Try.ntmps10
  go_wp2_with fail
  rw [← hwa]
  clear hwa
  refine (lequalInts _ _ _ _ _ _ c.doms d.doms _ G1.out K1.out).mono ?_
  rintro e w1 ⟨rfl, hb1⟩
  have z1 := hb1.size
  have hA1 := Lib.hid (HA.out.below_ hb1 (by omega))
  have hD1 := Lib.hid (HD.out.below_ hb1 (by omega))
  have m0 := hA1.out.at_ 1 rfl
  have m1 := hD1.out.at_ 1 rfl
  have hb01 := Lib.hid (bgo hb0 hb1)
  have hz1 := Lib.hid (show w.heap.size + 1 + 1 ≤ w1.heap.size by omega)
  have GX2 := Lib.hid (SlK.on_ ConR.keeps ConR.widens G2.out hb1)
  have GY2 := Lib.hid (SlK.on_ ConR.keeps ConR.widens K2.out hb1)
  clear hb0 hb1 HA HD G1 K1 G2 K2 hsz
  cases e1 : decide (c.doms = d.doms)
  · have HE := Lib.hid (show decide (c = d) = false from decide_eq_false (fun h => of_decide_eq_false e1 (by rw [h])))
    clear e1
    go_wp2_with fail
    go_ret
    exact ⟨ret_bool HE.out.symm, hb01.out⟩
  have E1 := of_decide_eq_true e1
  have HNE := Lib.hid (show ¬ c.cons = d.cons → decide (c = d) = false from fun h => decide_eq_false (fun h2 => h (by rw [h2])))
  have HEQ := Lib.hid (show c.cons = d.cons → decide (c = d) = true from fun h => decide_eq_true (by
    rcases c with ⟨c1, c2⟩
    rcases d with ⟨d1, d2⟩
    simp only at E1 h
    rw [E1, h]))
  clear e1 E1
  have hlx := Lib.hid (show c.cons.length = c.cons.length from rfl)
  have hly := Lib.hid (show d.cons.length = d.cons.length from rfl)
  obtain ⟨xs, hxs⟩ : ∃ xs, c.cons = xs := ⟨_, rfl⟩
  obtain ⟨ys, hys⟩ : ∃ ys, d.cons = ys := ⟨_, rfl⟩
  rw [hxs] at GX2 hA1 m0 hlx HNE HEQ ⊢
  rw [hys] at GY2 hD1 m1 hly HNE HEQ ⊢
  clear hxs hys
  obtain ⟨n, hnx⟩ : ∃ n, xs.length = n := ⟨_, rfl⟩
  obtain ⟨m, hmx⟩ : ∃ m, ys.length = m := ⟨_, rfl⟩
  replace hlx := Lib.hid hnx
  replace hly := Lib.hid hmx
  rw [hnx] at GX2 hA1 m0
  rw [hmx] at GY2 hD1 m1
  clear hnx hmx
  have hn := GX2.out.le
  have hm := GY2.out.le
  by_cases hnm : n = m
  · subst hnm
    have hne : ((n : Int) != (n : Int)) = false := by simp
    go_wp2_with fail
    go_loopw [5] (fun i wr => ∃ k : Nat, k ≤ n ∧ i = .int .i64 k ∧ Hid (EqB xs ys k) ∧ Below w1.heap.size w1 wr) (fun i _ => n - (intOf i).toNat)
    case atStart => exact ⟨0, by omega, rfl, EqB.zero _ _, Below.refl _ _⟩
    case round =>
      obtain ⟨k, hk, rfl, hq, hb⟩ := hrel
      have hwz := hb.size
      have hwq := hz1.out
      by_cases hlt : k < n
      · obtain ⟨ab, ao, x, us, rfl, hab, hxk, hul, hcx, hx1⟩ := SlK.at_ (GX2.out.below ConR.keeps hb) hlt
        obtain ⟨bb, bo, y, vs, rfl, hbb, hyk, hvl, hcy, hy1⟩ := SlK.at_ (GY2.out.below ConR.keeps hb) hlt
        have HX := Lib.hid hxk
        have HY := Lib.hid hyk
        have hw := hb.size
        have HX1 := Lib.hid (ConR.widens _ _ _ _ _ hw hx1)
        have HY1 := Lib.hid (ConR.widens _ _ _ _ _ hw hy1)
        obtain ⟨va, aa, ra, cv, ca, cr, rfl, -⟩ := hx1
        obtain ⟨vb, ab2, rb, dv, da, dr, rfl, -⟩ := hy1
        have q0 : ∀ p : Later wr, p.val.cell? ⟨ab, ao + k * 5, none⟩ = some _ := fun p => p.cell (by omega) (hcx 0 _ rfl)
        have q1 : ∀ p : Later wr, p.val.cell? ⟨ab, ao + k * 5 + 1, none⟩ = some _ := fun p => p.cell (by omega) (hcx 1 _ rfl)
        have q2 : ∀ p : Later wr, p.val.cell? ⟨ab, ao + k * 5 + 2, none⟩ = some _ := fun p => p.cell (by omega) (hcx 2 _ rfl)
        have q3 : ∀ p : Later wr, p.val.cell? ⟨ab, ao + k * 5 + 3, none⟩ = some _ := fun p => p.cell (by omega) (hcx 3 _ rfl)
        have q4 : ∀ p : Later wr, p.val.cell? ⟨ab, ao + k * 5 + 4, none⟩ = some _ := fun p => p.cell (by omega) (hcx 4 _ rfl)
        have r0 : ∀ p : Later wr, p.val.cell? ⟨bb, bo + k * 5, none⟩ = some _ := fun p => p.cell (by omega) (hcy 0 _ rfl)
        have r1 : ∀ p : Later wr, p.val.cell? ⟨bb, bo + k * 5 + 1, none⟩ = some _ := fun p => p.cell (by omega) (hcy 1 _ rfl)
        have r2 : ∀ p : Later wr, p.val.cell? ⟨bb, bo + k * 5 + 2, none⟩ = some _ := fun p => p.cell (by omega) (hcy 2 _ rfl)
        have r3 : ∀ p : Later wr, p.val.cell? ⟨bb, bo + k * 5 + 3, none⟩ = some _ := fun p => p.cell (by omega) (hcy 3 _ rfl)
        have r4 : ∀ p : Later wr, p.val.cell? ⟨bb, bo + k * 5 + 4, none⟩ = some _ := fun p => p.cell (by omega) (hcy 4 _ rfl)
        have s0 : ∀ p : Later wr, p.val.cell? ⟨w.heap.size, 1, none⟩ = some _ := fun p => p.cell (by omega) ((hA1.out.below_ hb hA1.out.lt).at_ 1 rfl)
        have s1 : ∀ p : Later wr, p.val.cell? ⟨w.heap.size + 1, 1, none⟩ = some _ := fun p => p.cell (by omega) ((hD1.out.below_ hb hD1.out.lt).at_ 1 rfl)
        have s2 : wr.cell? ⟨w.heap.size, 1, none⟩ = some _ := (hA1.out.below_ hb hA1.out.lt).at_ 1 rfl
        clear hxk hyk hcx hcy hul hvl
        cases he : decide (x = y)
        · have HE := Lib.hid he
          clear he
          go_wp2_with fail
          refine wp_region_later (by kernel_rfl) (by kernel_rfl) ?_
          repeat (go_big_quiet_step (first | (go_at_call 25; exact calls_later (lequalConstraints_b _ _ x y _ _ HE.out (ConR.on HX1.out (Later.below _)) (ConR.on HY1.out (Later.below _))))))
          refine wpQuiet_nil ?_
          intro w5 hw'
          obtain ⟨⟨w6, hb5⟩, hw''⟩ := hw'
          subst hw''
          go_wp2_with fail
          go_ret
          exact ⟨ret_bool (HNE.out (fun h => ne_of_at HX.out HY.out (of_decide_eq_false HE.out) h)).symm, bgo hb01.out (bgo hb hb5)⟩
        · have HE := Lib.hid he
          clear he
          go_wp2_with fail
          refine wp_region_later (by kernel_rfl) (by kernel_rfl) ?_
          repeat (go_big_quiet_step (first | (go_at_call 25; exact calls_later (lequalConstraints_b _ _ x y _ _ HE.out (ConR.on HX1.out (Later.below _)) (ConR.on HY1.out (Later.below _))))))
          refine wpQuiet_nil ?_
          intro w5 hw'
          obtain ⟨⟨w6, hb5⟩, hw''⟩ := hw'
          subst hw''
          go_wp2_with fail
          go_roundw
          case rel => exact ⟨k + 1, by omega, by go_num, EqB.succ hq.out (by rw [HX.out, HY.out, of_decide_eq_true HE.out]), bgo hb hb5⟩
          case measure => simp [intOf]; omega
      · obtain rfl : k = n := by omega
        have s2 : wr.cell? ⟨w.heap.size, 1, none⟩ = some _ := (hA1.out.below_ hb hA1.out.lt).at_ 1 rfl
        go_wp2_with fail
        go_ret
        exact ⟨ret_bool (HEQ.out (EqB.done hq.out hlx.out hly.out)).symm, bgo hb01.out hb⟩
  · have hne : ((n : Int) != (m : Int)) = true := by simp; omega
    have HN := Lib.hid hnm
    clear hnm
    go_wp2_with fail
    go_ret
    exact ⟨ret_bool (HNE.out (fun h => HN.out (by rw [← hlx.out, ← hly.out, h]))).symm, hb01.out⟩
end Go.Proofs.Ytjpcdbdaimonlaa
/- '==' of stores: the law's function. -/
namespace Go.Proofs.Ytjpcdbdaimonlaa
open Go.ChangeShapes Go.WideShapes Go.ChangeAt Go.RowKit
open Go.Shelf
set_option linter.unusedVariables false
set_option maxRecDepth 100000

set_option maxHeartbeats 4000000 in
theorem lequalStores (us vs : List Value) (c d : Sto) (w : World) (h : StoR w w.heap.size us c) (k : StoR w w.heap.size vs d) :
    Calls Try.prog 7 #[.agg us.toArray, .agg vs.toArray] w fun e w' => e = .returned (.bool (decide (c = d))) ∧ Below w.heap.size w w' := by
  obtain ⟨ua, va, ca, cc, rfl, g1, g2, -⟩ := h
  obtain ⟨ub, vb, cb, dc, rfl, k1, k2, -⟩ := k
  obtain ⟨wa, hwa⟩ : ∃ wa, wa = (w.alloc (.cells #[ua, va, .slice ca c.levels.length cc] 29)).alloc (.cells #[ub, vb, .slice cb d.levels.length dc] 29) := ⟨_, rfl⟩
  have hb0 : Below w.heap.size w wa := by rw [hwa]; exact b_alloc2 _ _ _
  have hsz : wa.heap.size = w.heap.size + 1 + 1 := by rw [hwa, size_alloc_, size_alloc_]
  have ha : TBlk 29 wa w.heap.size #[ua, va, .slice ca c.levels.length cc] := by
    rw [hwa]; exact (TBlk.new _ _ _).below_ (b_alloc _ _) (by rw [size_alloc_]; omega)
  have hd : TBlk 29 wa (w.heap.size + 1) #[ub, vb, .slice cb d.levels.length dc] := by
    rw [hwa]
    have := TBlk.new (w.alloc (.cells #[ua, va, .slice ca c.levels.length cc] 29)) #[ub, vb, .slice cb d.levels.length dc] 29
    rw [size_alloc_] at this
    exact this
  have HA := Lib.hid ha
  have HD := Lib.hid hd
  have G1 := Lib.hid g1
  have G2 := Lib.hid g2
  have K1 := Lib.hid k1
  have K2 := Lib.hid k2
  have a0 : wa.cell? ⟨w.heap.size, 0, none⟩ = some ua := ha.at_ 0 rfl
  have a1 : wa.cell? ⟨w.heap.size, 1, none⟩ = some va := ha.at_ 1 rfl
  have b0 : wa.cell? ⟨w.heap.size + 1, 0, none⟩ = some ub := hd.at_ 0 rfl
  have b1 : wa.cell? ⟨w.heap.size + 1, 1, none⟩ = some vb := hd.at_ 1 rfl
  clear ha hd g1 g2 k1 k2
  go_enter Try.func7, Try.ntmps7
  go_wp2_with fail
  rw [← hwa]
  clear hwa
  refine (lequalModels _ _ c.model d.model _ (ModR.on G1.out hb0) (ModR.on K1.out hb0)).mono ?_
  rintro e w1 ⟨rfl, hb1⟩
  have z1 := hb1.size
  have a2 : w1.cell? ⟨w.heap.size, 2, none⟩ = some (.slice ca c.levels.length cc) := (HA.out.below_ hb1 (by omega)).at_ 2 rfl
  have b2 : w1.cell? ⟨w.heap.size + 1, 2, none⟩ = some (.slice cb d.levels.length dc) := (HD.out.below_ hb1 (by omega)).at_ 2 rfl
  have hc1 := bgo hb0 hb1
  clear a0 b0 a1 b1
  cases e1 : decide (c.model = d.model)
  · have HE := Lib.hid (show decide (c = d) = false from decide_eq_false (fun h => of_decide_eq_false e1 (by rw [h])))
    have E1 := Lib.hid e1
    clear e1
    go_wp2_with fail
    go_ret
    exact ⟨ret_bool HE.out.symm, hc1⟩
  have E1 := Lib.hid e1
  clear e1
  go_wp2_with fail
  refine (lequalLists _ _ _ _ _ _ c.levels d.levels _ (SlR.on (RowC.keeps IntC.keeps) (RowC.widens IntC.widens) G2.out hc1) (SlR.on (RowC.keeps IntC.keeps) (RowC.widens IntC.widens) K2.out hc1)).mono ?_
  rintro e w2 ⟨rfl, hb2⟩
  have hc2 := bgo hc1 hb2
  cases e2 : decide (c.levels = d.levels)
  · have HE := Lib.hid (show decide (c = d) = false from decide_eq_false (fun h => of_decide_eq_false e2 (by rw [h])))
    have E2 := Lib.hid e2
    clear e2
    go_wp2_with fail
    go_ret
    exact ⟨ret_bool HE.out.symm, hc2⟩
  have HE := Lib.hid (show decide (c = d) = true from decide_eq_true (by
    rcases c with ⟨x, y⟩
    rcases d with ⟨x', y'⟩
    have h1 := of_decide_eq_true E1.out
    have h2 := of_decide_eq_true e2
    simp only at h1 h2
    subst h1 h2
    rfl))
  have E2 := Lib.hid e2
  clear e2
  go_wp2_with fail
  go_ret
  exact ⟨ret_bool HE.out.symm, hc2⟩
theorem lequalStores_b (us vs : List Value) (c d : Sto) (w : World) (b : Bool) (hb : decide (c = d) = b) (h : StoR w w.heap.size us c) (k : StoR w w.heap.size vs d) :
    Calls Try.prog 7 #[.agg us.toArray, .agg vs.toArray] w fun e w' => e = .returned (.bool b) ∧ Below w.heap.size w w' := by
  subst hb; exact lequalStores us vs c d w h k
end Go.Proofs.Ytjpcdbdaimonlaa
/- Backjump. -/
namespace Go.Proofs.Ytjpcdbdaimonlaa
open Go.ChangeShapes Go.WideShapes Go.ChangeAt Go.RowKit
open Go.Shelf
set_option linter.unusedVariables false
set_option linter.unusedSimpArgs false
set_option maxRecDepth 100000

def jumpOk (s : Sto) (l : Int) : Bool := vstoF s && inB l 0 ((s.levels.length : Int) - 1)
def jumpS (s : Sto) (l : Int) : Sto := if vstoF s then (if inB l 0 ((s.levels.length : Int) - 1) then ⟨s.model, s.levels.take (l.toNat + 1)⟩ else s) else ⟨⟨[], []⟩, []⟩
theorem StoR.zero (w : World) (B : Nat) : StoR w B [.slice none 0 0, .slice none 0 0, .slice none 0 0] ⟨⟨[], []⟩, []⟩ :=
  ⟨_, _, none, 0, rfl, ⟨none, none, 0, 0, rfl, SlR.nil_ _ _ _, ⟨rfl, by simp, fun h => absurd h (by simp)⟩, by simp, by simp⟩, SlR.nil_ _ _ _, by simp⟩
theorem OwnSto.readL {w : World} {B : Nat} {us : List Value} {s : Sto} (h : OwnSto w B (.agg us.toArray) s) : StoR w w.heap.size us s := by
  obtain ⟨vs, e, hr⟩ := OwnSto.read h
  injection e with e
  rw [List.toArray_inj e]; exact hr
theorem OwnSto.apart {w w' : World} {base : Nat} {v : Value} {s : Sto} (h : OwnSto w base v s) (ha : Apart base w w') : OwnSto w' base v s := by
  obtain ⟨dv, cv, lv, e, h1, h2⟩ := h
  exact ⟨dv, cv, lv, e, h1.apart ha, OwnRows.apart h2 ha⟩
theorem SlR.cut {α : Type} {R : World → Nat → Value → α → Prop} {w : World} {B n m : Nat} {A : Option Addr} {xs : List α} (h : SlR R w B A n xs) (hm : m ≤ n) : SlR R w B A m (xs.take m) := by
  refine ⟨by rw [List.length_take, h.len]; omega, by have := h.le; omega, fun h0 => ?_⟩
  obtain ⟨b, o, e, hb, hc⟩ := h.2.2 (by omega)
  refine ⟨b, o, e, hb, fun k x hx => hc k x ?_⟩
  have hk := (List.getElem?_eq_some_iff.1 hx).1
  rw [List.length_take] at hk
  rwa [List.getElem?_take_of_lt (by omega)] at hx
/-- Fresh rows, of whatever capacity below their block. -/
def HRsH (w : World) (base : Nat) (v : Value) (rows : List (List Int × List (Nat × Nat))) : Prop := ∃ us : List Value, us.length = rows.length ∧ HoldR w base 23 1 v rows.length us ∧ rows.length ≤ 9223372036854775807 ∧ ∀ (i : Nat) u x, us[i]? = some u → rows[i]? = some x → HIn w base u x
theorem HRs.toH {w : World} {base : Nat} {v : Value} {rows : List (List Int × List (Nat × Nat))} (h : HRs w base v rows) : HRsH w base v rows := by
  obtain ⟨us, h1, h2, h3, h4⟩ := h
  exact ⟨us, h1, HoldR.of_own h2, h3, h4⟩
section
variable {w w' : World} {base : Nat} {v : Value} {rows : List (List Int × List (Nat × Nat))}
theorem HRsH.below (h : HRsH w base v rows) (hb : Below w.heap.size w w') : HRsH w' base v rows := by
  obtain ⟨us, h1, h2, h3, h4⟩ := h
  exact ⟨us, h1, h2.below hb, h3, fun i u x hu hx => (h4 i u x hu hx).below hb⟩
theorem HRsH.base_ {base' : Nat} (h : HRsH w base v rows) (hb : base' ≤ base) : HRsH w base' v rows := by
  obtain ⟨us, h1, h2, h3, h4⟩ := h
  exact ⟨us, h1, h2.base_ hb, h3, fun i u x hu hx => (h4 i u x hu hx).base_ hb⟩
theorem HoldR.apart {e : TypeId} {size n : Nat} {xs : List Value} (h : HoldR w base e size v n xs) (ha : Apart base w w') : HoldR w' base e size v n xs :=
  ⟨h.1, h.2.imp id fun ⟨g, cap, cur, h1, h2, h3, r⟩ => ⟨g, cap, cur, h1, h2, (ha.2 g h2 (lt_heap h3)).trans h3, r⟩⟩
theorem HRsH.apart (h : HRsH w base v rows) (ha : Apart base w w') : HRsH w' base v rows := by
  obtain ⟨us, h1, h2, h3, h4⟩ := h
  exact ⟨us, h1, HoldR.apart h2 ha, h3, fun i u x hu hx => (h4 i u x hu hx).apart ha⟩
theorem HRsH.form (h : HRsH w base v rows) : ∃ A c, v = .slice A rows.length c ∧ rows.length ≤ c := by
  obtain ⟨us, h1, h2, -⟩ := h
  obtain ⟨A, c, rfl⟩ := h2.form
  exact ⟨A, c, rfl, h2.capLe⟩
theorem HRsH.read {A : Option Addr} {c : Nat} (h : HRsH w base (.slice A rows.length c) rows) : SlR (RowC IntC) w w.heap.size A rows.length (rows.map Prod.fst) := by
  obtain ⟨us, h1, h2, h3, h4⟩ := h
  refine ⟨by simp, h3, fun h0 => ?_⟩
  obtain ⟨g, e, hg, hgw⟩ := h2.pos h0
  subst e
  refine ⟨_, _, rfl, hgw, fun k x hx => ?_⟩
  rw [List.getElem?_map] at hx
  obtain ⟨p, hp, rfl⟩ := Option.map_eq_some_iff.1 hx
  have hk := (List.getElem?_eq_some_iff.1 hp).1
  have hu : us[k]? = some us[k] := List.getElem?_eq_getElem (by omega)
  refine ⟨us[k], ?_, ?_⟩
  · rw [Nat.zero_add, h2.cellAt k (by omega), hu]
  · obtain ⟨A', c', e', r, hc⟩ := (h4 k _ _ hu hp).read
    exact ⟨A', c', e', r⟩
theorem HRsH.cut {g n c m : Nat} (h : HRsH w base (.slice (some ⟨g, 0, none⟩) n c) rows) (hm : m ≤ rows.length) : HRsH w base (.slice (some ⟨g, 0, none⟩) m m) (rows.take m) := by
  obtain ⟨us, h1, h2, h3, h4⟩ := h
  have hl : (rows.take m).length = m := by rw [List.length_take]; omega
  refine ⟨us.take m, by rw [List.length_take, List.length_take, h1], ?_, by omega, fun i u x hu hx => ?_⟩
  · rw [hl]
    refine ⟨by rw [List.length_take]; omega, .inr ?_⟩
    rcases h2.2 with ⟨e, -⟩ | ⟨g', cap, cur, e, hg, hh, hc, hmx, ht⟩
    · cases e
    · injection e with e1 e2 e3
      injection e1 with e1
      injection e1 with e1 _ _
      subst e1
      refine ⟨g, m, cur, rfl, hg, hh, Nat.le_refl _, by omega, ?_⟩
      simp only [Nat.mul_one] at ht ⊢
      rw [← ht, List.take_take]
      congr 1
      omega
  · have hi := (List.getElem?_eq_some_iff.1 hx).1
    rw [List.length_take] at hi
    rw [List.getElem?_take_of_lt (by omega)] at hu hx
    exact h4 i u x hu hx
end
/-- A copied store; its levels may be cut. -/
def CStoH (w : World) (base : Nat) (us : List Value) (s : Sto) (D : List (Nat × Nat)) (xs : List CC) (rows : List (List Int × List (Nat × Nat))) : Prop := ∃ dv cv lv, us = [dv, cv, lv] ∧ CMod w base [dv, cv] s.model D xs ∧ HRsH w base lv rows ∧ rows.map Prod.fst = s.levels ∧ rows.length ≤ 1048576
theorem CSto.toH {w : World} {base : Nat} {us : List Value} {s : Sto} {D : List (Nat × Nat)} {xs : List CC} {rows : List (List Int × List (Nat × Nat))} (h : CSto w base us s D xs rows) : CStoH w base us s D xs rows := by
  obtain ⟨dv, cv, lv, e, h1, h2, r⟩ := h
  exact ⟨dv, cv, lv, e, h1, HRs.toH h2, r⟩
section
variable {w w' : World} {base : Nat} {us : List Value} {s : Sto} {D : List (Nat × Nat)} {xs : List CC} {rows : List (List Int × List (Nat × Nat))}
theorem CStoH.below (h : CStoH w base us s D xs rows) (hb : Below w.heap.size w w') : CStoH w' base us s D xs rows := by
  obtain ⟨dv, cv, lv, e, h1, h2, r⟩ := h
  exact ⟨dv, cv, lv, e, h1.below hb, h2.below hb, r⟩
theorem CStoH.base_ {base' : Nat} (h : CStoH w base us s D xs rows) (hb : base' ≤ base) : CStoH w base' us s D xs rows := by
  obtain ⟨dv, cv, lv, e, h1, h2, r⟩ := h
  exact ⟨dv, cv, lv, e, h1.base_ hb, h2.base_ hb, r⟩
theorem CStoH.apart (h : CStoH w base us s D xs rows) (ha : Apart base w w') : CStoH w' base us s D xs rows := by
  obtain ⟨dv, cv, lv, e, h1, h2, r⟩ := h
  exact ⟨dv, cv, lv, e, h1.apart ha, h2.apart ha, r⟩
theorem CStoH.read (h : CStoH w base us s D xs rows) : StoR w w.heap.size us s := by
  obtain ⟨dv, cv, lv, e, h1, h2, h3, -⟩ := h
  have hl : rows.length = s.levels.length := by rw [← h3, List.length_map]
  obtain ⟨A, c, rfl, hcap⟩ := h2.form
  have r3 := h2.read
  rw [h3, hl] at r3
  exact ⟨dv, cv, A, c, by rw [e, hl], h1.read, r3, by omega⟩
theorem CStoH.zero (w : World) (B : Nat) : CStoH w B [.slice none 0 0, .slice none 0 0, .slice none 0 0] ⟨⟨[], []⟩, []⟩ [] [] [] :=
  ⟨_, _, _, rfl, CMod.zero _ _, ⟨[], rfl, HoldR.nil _ _ _ _, by simp, fun i u x hu => by simp at hu⟩, rfl, by simp⟩
theorem flatS_take (D : List (Nat × Nat)) (xs : List CC) (rows : List (List Int × List (Nat × Nat))) (m : Nat) : ∃ R, flatS D xs rows = flatS D xs (rows.take m) ++ R := by
  refine ⟨((rows.drop m).map Prod.snd).flatten, ?_⟩
  unfold flatS
  rw [List.append_assoc, ← List.flatten_append, ← List.map_append, List.take_append_drop]
theorem Fr.left {lo hi : Nat} {L R : List (Nat × Nat)} (h : Fr lo hi (L ++ R)) : Fr lo hi L := by
  refine ⟨?_, fun p hp => h.2 p (List.mem_append_left _ hp)⟩
  have := h.1
  rw [List.map_append, List.nodup_append] at this
  exact this.1
end
theorem clipRows (A : Option Addr) (n c : Nat) (w : World) (hnc : n ≤ c) :
    Calls Try.prog 16 #[.slice A n c] w fun e w' => e = .returned (.slice A n n) ∧ w = w' := by
  have hnc2 : (n : Int) ≤ (c : Int) := by omega
  go_enter Try.func16, Try.ntmps16
  go_wp2_with fail
  go_ret
  exact ⟨rfl, rfl⟩
set_option maxHeartbeats 8000000 in
theorem sBackjump (us : List Value) (s : Sto) (l : Int) (w : World) (hst : StoR w w.heap.size us s) (sm : SmSto s) :
    Calls Try.prog 6 #[.agg us.toArray, .int .i64 l] w fun e w' => ∃ rs : List Value, e = .returned (.tuple #[.agg rs.toArray, .bool (jumpOk s l)]) ∧ StoR w' w'.heap.size rs (jumpS s l) ∧ Below w.heap.size w w' := by
  have SM := Lib.hid sm
  have s2 : s.levels.length ≤ 1048576 := sm.2.1
  have hwr : IntKind.i64.wrap ((s.levels.length : Int) - 1) = (s.levels.length : Int) - 1 := by rw [IntKind.wrap_i64]; omega
  clear sm
  have HS0 := Lib.hid hst
  obtain ⟨da, nd, cd, ca, nc, cc, la, nl, lc, rfl⟩ : ∃ (da : Option Addr) (nd cd : Nat) (ca : Option Addr) (nc cc : Nat) (la : Option Addr) (nl lc : Nat), us = [.slice da nd cd, .slice ca nc cc, .slice la nl lc] := by
    obtain ⟨u, v, la, lc, rfl, hm, -⟩ := hst
    obtain ⟨da, ca, nd, cd, nc, cc, e⟩ := hm.two
    simp only [List.cons.injEq, and_true] at e
    obtain ⟨rfl, rfl⟩ := e
    exact ⟨_, _, _, _, _, _, _, _, _, rfl⟩
  have hnl : s.levels.length = nl := by
    obtain ⟨u, v, la, lc, e, -⟩ := hst
    simp only [List.cons.injEq, Value.slice.injEq, and_true] at e
    omega
  have HNL := Lib.hid hnl
  rw [hnl] at s2 hwr
  clear hnl hst
  obtain ⟨wa, hwa⟩ : ∃ wa, wa = w.alloc (.cells #[.slice da nd cd, .slice ca nc cc, .slice la nl lc] 29) := ⟨_, rfl⟩
  obtain ⟨wb, hwb⟩ : ∃ wb, wb = wa.alloc (.cells #[.slice none 0 0, .slice none 0 0, .slice none 0 0] 29) := ⟨_, rfl⟩
  have hsa : wa.heap.size = w.heap.size + 1 := by rw [hwa, size_alloc_]
  have hsb : wb.heap.size = w.heap.size + 1 + 1 := by rw [hwb, size_alloc_, hsa]
  have hb0 : Below w.heap.size w wa := by rw [hwa]; exact b_alloc _ _
  have hb1 : Below wa.heap.size wa wb := by rw [hwb]; exact b_alloc _ _
  have hb01 := bgo hb0 hb1
  have HA : Hid (TBlk 29 wb w.heap.size #[.slice da nd cd, .slice ca nc cc, .slice la nl lc]) := TBlk.below_ (by rw [hwa]; exact TBlk.new _ _ _) hb1 (by omega)
  have HR : Hid (TBlk 29 wb (w.heap.size + 1) #[.slice none 0 0, .slice none 0 0, .slice none 0 0]) := by rw [hwb, ← hsa]; exact TBlk.new _ _ _
  have GM := Lib.hid (StoR.widens _ _ _ _ _ hb01.size (StoR.keeps _ _ _ _ _ (fun p hp => hb01.cell hp) HS0.out))
  have a0 : wb.cell? ⟨w.heap.size, 0, none⟩ = some (.slice da nd cd) := HA.out.at_ 0 rfl
  have a1 : wb.cell? ⟨w.heap.size, 1, none⟩ = some (.slice ca nc cc) := HA.out.at_ 1 rfl
  have a2 : wb.cell? ⟨w.heap.size, 2, none⟩ = some (.slice la nl lc) := HA.out.at_ 2 rfl
  clear hb0 hb1
  go_enter Try.func6, Try.ntmps6
  go_wp2_with fail
  rw [← hwa, ← hwb]
  clear hwa hwb
  have HSB := Lib.hid hsb
  clear hsb hsa
  -- the end: what is in the result's box
  have KEND : Hid (∀ W, Below wb.heap.size wb W → ∀ x0 x1 x2, Below w.heap.size w (((W.setCell ⟨w.heap.size + 1, 0, none⟩ x0).setCell ⟨w.heap.size + 1, 1, none⟩ x1).setCell ⟨w.heap.size + 1, 2, none⟩ x2) ∧ Apart wb.heap.size W (((W.setCell ⟨w.heap.size + 1, 0, none⟩ x0).setCell ⟨w.heap.size + 1, 1, none⟩ x1).setCell ⟨w.heap.size + 1, 2, none⟩ x2) ∧ (((W.setCell ⟨w.heap.size + 1, 0, none⟩ x0).setCell ⟨w.heap.size + 1, 1, none⟩ x1).setCell ⟨w.heap.size + 1, 2, none⟩ x2).heap.size = W.heap.size ∧ TBlk 29 (((W.setCell ⟨w.heap.size + 1, 0, none⟩ x0).setCell ⟨w.heap.size + 1, 1, none⟩ x1).setCell ⟨w.heap.size + 1, 2, none⟩ x2) (w.heap.size + 1) #[x0, x1, x2]) := by
    intro W hb x0 x1 x2
    have hz := HSB.out
    have hr := HR.out.below_ hb (by omega)
    refine ⟨?_, ((((Apart.refl _ _).set (by omega) 0 _).set (by omega) 1 _).set (by omega) 2 _), by simp [World.setCell], ((hr.store 0 _).store 1 _).store 2 _⟩
    refine (hb01.trans (hb.mono (by omega))).trans ?_
    repeat' (first | exact Below.refl _ _ | refine Below.setCell ?_ (by simp) _)
  go_wp2_with fail
  refine (svalidStore _ s _ GM.out).mono ?_
  rintro e W9 ⟨rfl, b9⟩
  have hA := HA.out.below_ b9 (by have := HSB.out; omega)
  have a0 := hA.at_ 0 rfl
  have a1 := hA.at_ 1 rfl
  have a2 := hA.at_ 2 rfl
  have hr := HR.out.below_ b9 (by have := HSB.out; omega)
  have p0 := hr.at_ 0 rfl
  have p1 := hr.at_ 1 rfl
  have p2 := hr.at_ 2 rfl
  have f0 := hr.frozen 0
  have f1 := hr.frozen 1
  have f2 := hr.frozen 2
  cases tv : vstoF s
  · have HO := Lib.hid (show jumpOk s l = false by unfold jumpOk; rw [tv]; rfl)
    have HE := Lib.hid (show jumpS s l = ⟨⟨[], []⟩, []⟩ by unfold jumpS; rw [tv]; rfl)
    clear tv hwr
    go_wp2_with fail
    obtain ⟨e1, e2, e3, e4⟩ := KEND.out W9 b9 (.slice none 0 0) (.slice none 0 0) (.slice none 0 0)
    obtain ⟨WF, hWF⟩ : ∃ WF, WF = ((W9.setCell ⟨w.heap.size + 1, 0, none⟩ (.slice none 0 0)).setCell ⟨w.heap.size + 1, 1, none⟩ (.slice none 0 0)).setCell ⟨w.heap.size + 1, 2, none⟩ (.slice none 0 0) := ⟨_, rfl⟩
    rw [← hWF] at e1 e2 e3 e4 ⊢
    have r0 := e4.at_ 0 rfl
    have r1 := e4.at_ 1 rfl
    have r2 := e4.at_ 2 rfl
    clear hWF hr e2 e3 e4
    go_wp2_with fail
    exact bodyPost_ret (v := .tuple #[.agg #[.slice none 0 0, .slice none 0 0, .slice none 0 0], .bool false]) (by simp [results, Try.results6, go_sem, r0, r1, r2]) rfl ⟨[.slice none 0 0, .slice none 0 0, .slice none 0 0], by rw [HO.out], by rw [HE.out]; exact StoR.zero _ _, e1⟩
  · have TV := Lib.hid tv
    clear tv p0 p1 p2 f0 f1 f2
    go_wp2_with fail
    refine (scopySto _ s _ (StoR.widens _ _ _ _ _ b9.size (StoR.keeps _ _ _ _ _ (fun p hp => b9.cell hp) GM.out)) SM.out).mono ?_
    rintro e W8 ⟨rs8, rfl, h8, hB8⟩
    obtain ⟨A, n, c, B, kk, d, L, q, rfl⟩ : ∃ (A : Option Addr) (n c : Nat) (B : Option Addr) (kk d : Nat) (L : Option Addr) (q : Nat), rs8 = [.slice A n c, .slice B kk d, .slice L nl q] := by
      obtain ⟨u, v, la, lc, e, hm, -⟩ := OwnSto.readL h8
      obtain ⟨da, ca, nd, cd, nc, cc, e2⟩ := hm.two
      simp only [List.cons.injEq, and_true] at e2
      obtain ⟨rfl, rfl⟩ := e2
      rw [HNL.out] at e
      exact ⟨_, _, _, _, _, _, _, _, e⟩
    have H8 := Lib.hid h8
    clear h8
    have hz9 := b9.size
    have b8 := bgo b9 hB8
    obtain ⟨g3, hg⟩ : ∃ g3, g3 = W8.heap.size := ⟨_, rfl⟩
    have hA8 := HA.out.below_ b8 (by have := HSB.out; omega)
    have a2 : (W8.alloc (.cells #[.slice A n c, .slice B kk d, .slice L nl q] 29)).cell? ⟨w.heap.size, 2, none⟩ = some (.slice la nl lc) := (hA8.on (b_alloc _ _)).at_ 2 rfl
    clear hA8
    go_wp2_with fail
    obtain ⟨W, hW⟩ : ∃ W, W = W8.alloc (.cells #[.slice A n c, .slice B kk d, .slice L nl q] 29) := ⟨_, rfl⟩
    have HT : Hid (TBlk 29 W g3 #[.slice A n c, .slice B kk d, .slice L nl q]) := by rw [hW, hg]; exact TBlk.new _ _ _
    have hbW : Below wb.heap.size wb W := by rw [hW]; exact bgo b8 (b_alloc _ _)
    skip
    have hg3 : wb.heap.size ≤ g3 := by rw [hg]; exact b8.size
    have HWD := Lib.hid hW
    rw [← hW, ← hg]
    have hgd : W8.heap.size ≤ g3 := by rw [hg]; exact Nat.le_refl _
    clear hW hg
    refine (inRange_b l 0 ((nl : Int) - 1) _ _ rfl).mono ?_
    rintro e w3 ⟨rfl, rfl⟩
    have m0 := HT.out.at_ 0 rfl
    have m1 := HT.out.at_ 1 rfl
    have m2 := HT.out.at_ 2 rfl
    have hzw : w.heap.size + 1 < W9.heap.size := by have := HSB.out; omega
    have hr := HR.out.below_ hbW (by have := HSB.out; omega)
    cases ti : inB l 0 ((nl : Int) - 1)
    · have HO := Lib.hid (show jumpOk s l = false by unfold jumpOk; rw [TV.out, HNL.out, ti]; rfl)
      have HE := Lib.hid (show jumpS s l = s by unfold jumpS; rw [TV.out, HNL.out, ti]; rfl)
      have p0 := hr.at_ 0 rfl
      have p1 := hr.at_ 1 rfl
      have p2 := hr.at_ 2 rfl
      have f0 := hr.frozen 0
      have f1 := hr.frozen 1
      have f2 := hr.frozen 2
      clear ti hwr
      go_wp2_with fail
      obtain ⟨e1, -, e3, e4⟩ := KEND.out W hbW (.slice A n c) (.slice B kk d) (.slice L nl q)
      obtain ⟨WF, hWF⟩ : ∃ WF, WF = ((W.setCell ⟨w.heap.size + 1, 0, none⟩ (.slice A n c)).setCell ⟨w.heap.size + 1, 1, none⟩ (.slice B kk d)).setCell ⟨w.heap.size + 1, 2, none⟩ (.slice L nl q) := ⟨_, rfl⟩
      have hap : Apart W9.heap.size W8 WF := by
        rw [hWF, HWD.out]
        exact ((((Apart.refl _ _).alloc _).set2 (.inl hzw) 0 _).set2 (.inl hzw) 1 _).set2 (.inl hzw) 2 _
      rw [← hWF] at e1 e3 e4 ⊢
      have r0 := e4.at_ 0 rfl
      have r1 := e4.at_ 1 rfl
      have r2 := e4.at_ 2 rfl
      have hz8 : W8.heap.size ≤ WF.heap.size := hap.1
      have FIN := Lib.hid (And.intro (OwnSto.readL (OwnSto.apart H8.out hap)) e1)
      clear hWF hr e3 e4 hap e1
      go_wp2_with fail
      exact bodyPost_ret (v := .tuple #[.agg #[.slice A n c, .slice B kk d, .slice L nl q], .bool false]) (by simp [results, Try.results6, go_sem, r0, r1, r2]) rfl ⟨[.slice A n c, .slice B kk d, .slice L nl q], by rw [HO.out], by rw [HE.out]; exact FIN.out.1, FIN.out.2⟩
    · have HO := Lib.hid (show jumpOk s l = true by unfold jumpOk; rw [TV.out, HNL.out, ti]; rfl)
      have hl0 : ((l.toNat : Nat) : Int) = l ∧ l.toNat < nl := by unfold inB at ti; simp at ti; omega
      have HE := Lib.hid (show jumpS s l = ⟨s.model, s.levels.take (l.toNat + 1)⟩ by unfold jumpS; rw [TV.out, HNL.out, ti]; rfl)
      obtain ⟨j, hj⟩ : ∃ j : Nat, l.toNat = j := ⟨_, rfl⟩
      rw [hj] at hl0 HE
      obtain ⟨hl0, hjn⟩ := hl0
      subst hl0
      have hwj : IntKind.i64.wrap ((j : Int) + 1) = (j : Int) + 1 := by rw [IntKind.wrap_i64]; omega
      obtain ⟨gL, rfl, hnq⟩ : ∃ gL, L = some ⟨gL, 0, none⟩ ∧ nl ≤ q := by
        obtain ⟨dv, cv, lv, e, -, us, -, ho, -⟩ := id H8.out
        injection e with e
        have e2 := List.toArray_inj e
        simp only [List.cons.injEq, and_true] at e2
        rw [← e2.2.2, HNL.out] at ho
        obtain ⟨g, cap, e3, -, -, h5, -⟩ := own_pos ho (by omega)
        injection e3 with e4 e5 e6
        exact ⟨g, e4, by omega⟩
      have hjq : j + 1 ≤ q := by omega
      have hjqI : (j : Int) + 1 ≤ (q : Int) := by omega
      have hjT : ((j : Int) + 1).toNat = j + 1 := by omega
      have hj0 : (0 : Int) ≤ (j : Int) + 1 := by omega
      have ff := HT.out.frozen 2
      have hge : w.heap.size + 1 ≠ g3 := by have := HSB.out; omega
      have HT2 := Lib.hid (HT.out.store 2 (.slice (some ⟨gL, 0, none⟩) (j + 1) q))
      have hr2 := hr.far (j := 2) (u := .slice (some ⟨gL, 0, none⟩) (j + 1) q) hge
      have t0 : (W.setCell ⟨g3, 2, none⟩ (.slice (some ⟨gL, 0, none⟩) (j + 1) q)).cell? ⟨g3, 0, none⟩ = some (.slice A n c) := HT2.out.at_ 0 rfl
      have t1 : (W.setCell ⟨g3, 2, none⟩ (.slice (some ⟨gL, 0, none⟩) (j + 1) q)).cell? ⟨g3, 1, none⟩ = some (.slice B kk d) := HT2.out.at_ 1 rfl
      have t2 : (W.setCell ⟨g3, 2, none⟩ (.slice (some ⟨gL, 0, none⟩) (j + 1) q)).cell? ⟨g3, 2, none⟩ = some (.slice (some ⟨gL, 0, none⟩) (j + 1) q) := HT2.out.at_ 2 rfl
      have p0 := hr2.at_ 0 rfl
      have p1 := hr2.at_ 1 rfl
      have p2 := hr2.at_ 2 rfl
      have f0 := hr2.frozen 0
      have f1 := hr2.frozen 1
      have f2 := hr2.frozen 2
      have hb2 : Below wb.heap.size wb (W.setCell ⟨g3, 2, none⟩ (.slice (some ⟨gL, 0, none⟩) (j + 1) q)) := hbW.setCell hg3 _
      clear ti hwr hj m0 m1 hr
      go_wp2_with fail
      obtain ⟨e1, -, e3, e4⟩ := KEND.out _ hb2 (.slice A n c) (.slice B kk d) (.slice (some ⟨gL, 0, none⟩) (j + 1) q)
      obtain ⟨WF, hWF⟩ : ∃ WF, WF = (((W.setCell ⟨g3, 2, none⟩ (.slice (some ⟨gL, 0, none⟩) (j + 1) q)).setCell ⟨w.heap.size + 1, 0, none⟩ (.slice A n c)).setCell ⟨w.heap.size + 1, 1, none⟩ (.slice B kk d)).setCell ⟨w.heap.size + 1, 2, none⟩ (.slice (some ⟨gL, 0, none⟩) (j + 1) q) := ⟨_, rfl⟩
      have hap : Apart W9.heap.size W8 WF := by
        rw [hWF, HWD.out]
        exact (((((Apart.refl _ _).alloc _).set2 (.inr hgd) 2 _).set2 (.inl hzw) 0 _).set2 (.inl hzw) 1 _).set2 (.inl hzw) 2 _
      rw [← hWF] at e1 e3 e4 ⊢
      have r0 := e4.at_ 0 rfl
      have r1 := e4.at_ 1 rfl
      have r2 := e4.at_ 2 rfl
      have hz8 : W8.heap.size ≤ WF.heap.size := hap.1
      have hrd : StoR WF WF.heap.size [.slice A n c, .slice B kk d, .slice (some ⟨gL, 0, none⟩) (j + 1) q] ⟨s.model, s.levels.take (j + 1)⟩ := by
        obtain ⟨u, v, la, lc, e, k1, k2, -⟩ := OwnSto.readL (OwnSto.apart H8.out hap)
        simp only [List.cons.injEq, Value.slice.injEq, and_true] at e
        obtain ⟨rfl, rfl, rfl, e5, rfl⟩ := e
        have hlt : (s.levels.take (j + 1)).length = j + 1 := by rw [List.length_take, HNL.out]; omega
        refine ⟨_, _, some ⟨gL, 0, none⟩, q, ?_, k1, ?_, ?_⟩
        · show _ = [_, _, Value.slice _ (s.levels.take (j + 1)).length q]
          rw [hlt]
        · show SlR _ _ _ _ (s.levels.take (j + 1)).length _
          rw [hlt]
          exact SlR.cut k2 (by rw [HNL.out]; omega)
        · show (s.levels.take (j + 1)).length ≤ q
          rw [hlt]; exact hjq
      have FIN := Lib.hid (And.intro hrd e1)
      clear hrd
      clear hWF hr2 e3 e4 hap e1 t0 t1 t2 p0 p1 p2 f0 f1 f2 hb2
      go_wp2_with fail
      exact bodyPost_ret (v := .tuple #[.agg #[.slice A n c, .slice B kk d, .slice (some ⟨gL, 0, none⟩) (j + 1) q], .bool true]) (by simp [results, Try.results6, go_sem, r0, r1, r2]) rfl ⟨[.slice A n c, .slice B kk d, .slice (some ⟨gL, 0, none⟩) (j + 1) q], by rw [HO.out], by rw [HE.out]; exact FIN.out.1, FIN.out.2⟩
set_option maxHeartbeats 8000000 in
theorem iBackjump (us : List Value) (s : Sto) (l : Int) (w : World) (hst : StoR w w.heap.size us s) (sm : SmSto s) :
    Calls Try.prog 5 #[.agg us.toArray, .int .i64 l] w fun e w' => ∃ (rs : List Value) (D : List (Nat × Nat)) (xs : List CC) (rows : List (List Int × List (Nat × Nat))), e = .returned (.tuple #[.agg rs.toArray, .bool (jumpOk s l)]) ∧ CStoH w' w.heap.size rs (jumpS s l) D xs rows ∧ Fr w.heap.size w'.heap.size (flatS D xs rows) ∧ Below w.heap.size w w' := by
  have SM := Lib.hid sm
  have s2 : s.levels.length ≤ 1048576 := sm.2.1
  have hwr : IntKind.i64.wrap ((s.levels.length : Int) - 1) = (s.levels.length : Int) - 1 := by rw [IntKind.wrap_i64]; omega
  clear sm
  have HS0 := Lib.hid hst
  obtain ⟨da, nd, cd, ca, nc, cc, la, nl, lc, rfl⟩ : ∃ (da : Option Addr) (nd cd : Nat) (ca : Option Addr) (nc cc : Nat) (la : Option Addr) (nl lc : Nat), us = [.slice da nd cd, .slice ca nc cc, .slice la nl lc] := by
    obtain ⟨u, v, la, lc, rfl, hm, -⟩ := hst
    obtain ⟨da, ca, nd, cd, nc, cc, e⟩ := hm.two
    simp only [List.cons.injEq, and_true] at e
    obtain ⟨rfl, rfl⟩ := e
    exact ⟨_, _, _, _, _, _, _, _, _, rfl⟩
  have hnl : s.levels.length = nl := by
    obtain ⟨u, v, la, lc, e, -⟩ := hst
    simp only [List.cons.injEq, Value.slice.injEq, and_true] at e
    omega
  have HNL := Lib.hid hnl
  rw [hnl] at s2 hwr
  clear hnl hst
  obtain ⟨wa, hwa⟩ : ∃ wa, wa = w.alloc (.cells #[.slice da nd cd, .slice ca nc cc, .slice la nl lc] 29) := ⟨_, rfl⟩
  obtain ⟨wb, hwb⟩ : ∃ wb, wb = wa.alloc (.cells #[.slice none 0 0, .slice none 0 0, .slice none 0 0] 29) := ⟨_, rfl⟩
  have hsa : wa.heap.size = w.heap.size + 1 := by rw [hwa, size_alloc_]
  have hsb : wb.heap.size = w.heap.size + 1 + 1 := by rw [hwb, size_alloc_, hsa]
  have hb0 : Below w.heap.size w wa := by rw [hwa]; exact b_alloc _ _
  have hb1 : Below wa.heap.size wa wb := by rw [hwb]; exact b_alloc _ _
  have hb01 := bgo hb0 hb1
  have HA : Hid (TBlk 29 wb w.heap.size #[.slice da nd cd, .slice ca nc cc, .slice la nl lc]) := TBlk.below_ (by rw [hwa]; exact TBlk.new _ _ _) hb1 (by omega)
  have HR : Hid (TBlk 29 wb (w.heap.size + 1) #[.slice none 0 0, .slice none 0 0, .slice none 0 0]) := by rw [hwb, ← hsa]; exact TBlk.new _ _ _
  have GM := Lib.hid (StoR.widens _ _ _ _ _ hb01.size (StoR.keeps _ _ _ _ _ (fun p hp => hb01.cell hp) HS0.out))
  have a0 : wb.cell? ⟨w.heap.size, 0, none⟩ = some (.slice da nd cd) := HA.out.at_ 0 rfl
  have a1 : wb.cell? ⟨w.heap.size, 1, none⟩ = some (.slice ca nc cc) := HA.out.at_ 1 rfl
  have a2 : wb.cell? ⟨w.heap.size, 2, none⟩ = some (.slice la nl lc) := HA.out.at_ 2 rfl
  clear hb0 hb1
  go_enter Try.func5, Try.ntmps5
  go_wp2_with fail
  rw [← hwa, ← hwb]
  clear hwa hwb
  have HSB := Lib.hid hsb
  clear hsb hsa
  -- the end: what is in the result's box
  have KEND : Hid (∀ W, Below wb.heap.size wb W → ∀ x0 x1 x2, Below w.heap.size w (((W.setCell ⟨w.heap.size + 1, 0, none⟩ x0).setCell ⟨w.heap.size + 1, 1, none⟩ x1).setCell ⟨w.heap.size + 1, 2, none⟩ x2) ∧ Apart wb.heap.size W (((W.setCell ⟨w.heap.size + 1, 0, none⟩ x0).setCell ⟨w.heap.size + 1, 1, none⟩ x1).setCell ⟨w.heap.size + 1, 2, none⟩ x2) ∧ (((W.setCell ⟨w.heap.size + 1, 0, none⟩ x0).setCell ⟨w.heap.size + 1, 1, none⟩ x1).setCell ⟨w.heap.size + 1, 2, none⟩ x2).heap.size = W.heap.size ∧ TBlk 29 (((W.setCell ⟨w.heap.size + 1, 0, none⟩ x0).setCell ⟨w.heap.size + 1, 1, none⟩ x1).setCell ⟨w.heap.size + 1, 2, none⟩ x2) (w.heap.size + 1) #[x0, x1, x2]) := by
    intro W hb x0 x1 x2
    have hz := HSB.out
    have hr := HR.out.below_ hb (by omega)
    refine ⟨?_, ((((Apart.refl _ _).set (by omega) 0 _).set (by omega) 1 _).set (by omega) 2 _), by simp [World.setCell], ((hr.store 0 _).store 1 _).store 2 _⟩
    refine (hb01.trans (hb.mono (by omega))).trans ?_
    repeat' (first | exact Below.refl _ _ | refine Below.setCell ?_ (by simp) _)
  go_wp2_with fail
  refine (iValidStore _ s _ GM.out).mono ?_
  rintro e W9 ⟨rfl, b9⟩
  have hA := HA.out.below_ b9 (by have := HSB.out; omega)
  have a0 := hA.at_ 0 rfl
  have a1 := hA.at_ 1 rfl
  have a2 := hA.at_ 2 rfl
  have hr := HR.out.below_ b9 (by have := HSB.out; omega)
  have p0 := hr.at_ 0 rfl
  have p1 := hr.at_ 1 rfl
  have p2 := hr.at_ 2 rfl
  have f0 := hr.frozen 0
  have f1 := hr.frozen 1
  have f2 := hr.frozen 2
  cases tv : vstoF s
  · have HO := Lib.hid (show jumpOk s l = false by unfold jumpOk; rw [tv]; rfl)
    have HE := Lib.hid (show jumpS s l = ⟨⟨[], []⟩, []⟩ by unfold jumpS; rw [tv]; rfl)
    clear tv hwr
    go_wp2_with fail
    obtain ⟨e1, e2, e3, e4⟩ := KEND.out W9 b9 (.slice none 0 0) (.slice none 0 0) (.slice none 0 0)
    obtain ⟨WF, hWF⟩ : ∃ WF, WF = ((W9.setCell ⟨w.heap.size + 1, 0, none⟩ (.slice none 0 0)).setCell ⟨w.heap.size + 1, 1, none⟩ (.slice none 0 0)).setCell ⟨w.heap.size + 1, 2, none⟩ (.slice none 0 0) := ⟨_, rfl⟩
    rw [← hWF] at e1 e2 e3 e4 ⊢
    have r0 := e4.at_ 0 rfl
    have r1 := e4.at_ 1 rfl
    have r2 := e4.at_ 2 rfl
    clear hWF hr e2 e3 e4
    go_wp2_with fail
    exact bodyPost_ret (v := .tuple #[.agg #[.slice none 0 0, .slice none 0 0, .slice none 0 0], .bool false]) (by simp [results, Try.results5, go_sem, r0, r1, r2]) rfl ⟨[.slice none 0 0, .slice none 0 0, .slice none 0 0], [], [], [], by rw [HO.out], by rw [HE.out]; exact CStoH.zero _ _, Fr.nil _ _, e1⟩
  · have TV := Lib.hid tv
    clear tv p0 p1 p2 f0 f1 f2
    go_wp2_with fail
    refine (istoCopied _ s _ (StoR.widens _ _ _ _ _ b9.size (StoR.keeps _ _ _ _ _ (fun p hp => b9.cell hp) GM.out)) SM.out).mono ?_
    rintro e W8 ⟨rs8, D, xs, rows, rfl, h8, F8, hB8⟩
    obtain ⟨A, n, c, B, kk, d, L, q, rfl⟩ : ∃ (A : Option Addr) (n c : Nat) (B : Option Addr) (kk d : Nat) (L : Option Addr) (q : Nat), rs8 = [.slice A n c, .slice B kk d, .slice L nl q] := by
      obtain ⟨u, v, la, lc, e, hm, -⟩ := CSto.read h8
      obtain ⟨da, ca, nd, cd, nc, cc, e2⟩ := hm.two
      simp only [List.cons.injEq, and_true] at e2
      obtain ⟨rfl, rfl⟩ := e2
      rw [HNL.out] at e
      exact ⟨_, _, _, _, _, _, _, _, e⟩
    have H8 := Lib.hid h8
    clear h8
    have hz9 := b9.size
    have b8 := bgo b9 hB8
    obtain ⟨g3, hg⟩ : ∃ g3, g3 = W8.heap.size := ⟨_, rfl⟩
    have hA8 := HA.out.below_ b8 (by have := HSB.out; omega)
    have a2 : (W8.alloc (.cells #[.slice A n c, .slice B kk d, .slice L nl q] 29)).cell? ⟨w.heap.size, 2, none⟩ = some (.slice la nl lc) := (hA8.on (b_alloc _ _)).at_ 2 rfl
    clear hA8
    go_wp2_with fail
    obtain ⟨W, hW⟩ : ∃ W, W = W8.alloc (.cells #[.slice A n c, .slice B kk d, .slice L nl q] 29) := ⟨_, rfl⟩
    have HT : Hid (TBlk 29 W g3 #[.slice A n c, .slice B kk d, .slice L nl q]) := by rw [hW, hg]; exact TBlk.new _ _ _
    have hbW : Below wb.heap.size wb W := by rw [hW]; exact bgo b8 (b_alloc _ _)
    skip
    have hg3 : wb.heap.size ≤ g3 := by rw [hg]; exact b8.size
    have HWD := Lib.hid hW
    rw [← hW, ← hg]
    have hgd : W8.heap.size ≤ g3 := by rw [hg]; exact Nat.le_refl _
    clear hW hg
    refine (within_b0 l 0 ((nl : Int) - 1) _ _ rfl).mono ?_
    rintro e w3 ⟨rfl, rfl⟩
    have m0 := HT.out.at_ 0 rfl
    have m1 := HT.out.at_ 1 rfl
    have m2 := HT.out.at_ 2 rfl
    have hzw : w.heap.size + 1 < W9.heap.size := by have := HSB.out; omega
    have hr := HR.out.below_ hbW (by have := HSB.out; omega)
    cases ti : inB l 0 ((nl : Int) - 1)
    · have HO := Lib.hid (show jumpOk s l = false by unfold jumpOk; rw [TV.out, HNL.out, ti]; rfl)
      have HE := Lib.hid (show jumpS s l = s by unfold jumpS; rw [TV.out, HNL.out, ti]; rfl)
      have p0 := hr.at_ 0 rfl
      have p1 := hr.at_ 1 rfl
      have p2 := hr.at_ 2 rfl
      have f0 := hr.frozen 0
      have f1 := hr.frozen 1
      have f2 := hr.frozen 2
      clear ti hwr
      go_wp2_with fail
      obtain ⟨e1, -, e3, e4⟩ := KEND.out W hbW (.slice A n c) (.slice B kk d) (.slice L nl q)
      obtain ⟨WF, hWF⟩ : ∃ WF, WF = ((W.setCell ⟨w.heap.size + 1, 0, none⟩ (.slice A n c)).setCell ⟨w.heap.size + 1, 1, none⟩ (.slice B kk d)).setCell ⟨w.heap.size + 1, 2, none⟩ (.slice L nl q) := ⟨_, rfl⟩
      have hap : Apart W9.heap.size W8 WF := by
        rw [hWF, HWD.out]
        exact ((((Apart.refl _ _).alloc _).set2 (.inl hzw) 0 _).set2 (.inl hzw) 1 _).set2 (.inl hzw) 2 _
      rw [← hWF] at e1 e3 e4 ⊢
      have r0 := e4.at_ 0 rfl
      have r1 := e4.at_ 1 rfl
      have r2 := e4.at_ 2 rfl
      have hz8 : W8.heap.size ≤ WF.heap.size := hap.1
      have FIN := Lib.hid (And.intro (CStoH.base_ (CSto.toH (CSto.apart H8.out hap)) (show w.heap.size ≤ W9.heap.size by omega)) (And.intro (show Fr w.heap.size WF.heap.size (flatS D xs rows) from F8.wide (by omega) hz8) e1))
      clear hWF hr e3 e4 hap e1
      go_wp2_with fail
      exact bodyPost_ret (v := .tuple #[.agg #[.slice A n c, .slice B kk d, .slice L nl q], .bool false]) (by simp [results, Try.results5, go_sem, r0, r1, r2]) rfl ⟨[.slice A n c, .slice B kk d, .slice L nl q], D, xs, rows, by rw [HO.out], by rw [HE.out]; exact FIN.out.1, FIN.out.2.1, FIN.out.2.2⟩
    · have HO := Lib.hid (show jumpOk s l = true by unfold jumpOk; rw [TV.out, HNL.out, ti]; rfl)
      have hl0 : ((l.toNat : Nat) : Int) = l ∧ l.toNat < nl := by unfold inB at ti; simp at ti; omega
      have HE := Lib.hid (show jumpS s l = ⟨s.model, s.levels.take (l.toNat + 1)⟩ by unfold jumpS; rw [TV.out, HNL.out, ti]; rfl)
      obtain ⟨j, hj⟩ : ∃ j : Nat, l.toNat = j := ⟨_, rfl⟩
      rw [hj] at hl0 HE
      obtain ⟨hl0, hjn⟩ := hl0
      subst hl0
      have hwj : IntKind.i64.wrap ((j : Int) + 1) = (j : Int) + 1 := by rw [IntKind.wrap_i64]; omega
      obtain ⟨gL, rfl, hnq⟩ : ∃ gL, L = some ⟨gL, 0, none⟩ ∧ nl ≤ q := by
        obtain ⟨dv, cv, lv, e, -, ⟨us, -, ho, -⟩, h6, -⟩ := id H8.out
        simp only [List.cons.injEq, and_true] at e
        have hlr : rows.length = nl := by rw [← HNL.out, ← h6, List.length_map]
        rw [← e.2.2, hlr] at ho
        obtain ⟨g, cap, e3, -, -, h5, -⟩ := own_pos ho (by omega)
        injection e3 with e4 e5 e6
        exact ⟨g, e4, by omega⟩
      have hjq : j + 1 ≤ q := by omega
      have hjqI : (j : Int) + 1 ≤ (q : Int) := by omega
      have hjT : ((j : Int) + 1).toNat = j + 1 := by omega
      have hj0 : (0 : Int) ≤ (j : Int) + 1 := by omega
      have ff := HT.out.frozen 2
      have hge : w.heap.size + 1 ≠ g3 := by have := HSB.out; omega
      have HT2 := Lib.hid (HT.out.store 2 (.slice (some ⟨gL, 0, none⟩) (j + 1) (j + 1)))
      have hr2 := hr.far (j := 2) (u := .slice (some ⟨gL, 0, none⟩) (j + 1) (j + 1)) hge
      have t0 : (W.setCell ⟨g3, 2, none⟩ (.slice (some ⟨gL, 0, none⟩) (j + 1) (j + 1))).cell? ⟨g3, 0, none⟩ = some (.slice A n c) := HT2.out.at_ 0 rfl
      have t1 : (W.setCell ⟨g3, 2, none⟩ (.slice (some ⟨gL, 0, none⟩) (j + 1) (j + 1))).cell? ⟨g3, 1, none⟩ = some (.slice B kk d) := HT2.out.at_ 1 rfl
      have t2 : (W.setCell ⟨g3, 2, none⟩ (.slice (some ⟨gL, 0, none⟩) (j + 1) (j + 1))).cell? ⟨g3, 2, none⟩ = some (.slice (some ⟨gL, 0, none⟩) (j + 1) (j + 1)) := HT2.out.at_ 2 rfl
      have p0 := hr2.at_ 0 rfl
      have p1 := hr2.at_ 1 rfl
      have p2 := hr2.at_ 2 rfl
      have f0 := hr2.frozen 0
      have f1 := hr2.frozen 1
      have f2 := hr2.frozen 2
      have hb2 : Below wb.heap.size wb (W.setCell ⟨g3, 2, none⟩ (.slice (some ⟨gL, 0, none⟩) (j + 1) (j + 1))) := hbW.setCell hg3 _
      clear ti hwr hj m0 m1 hr
      go_wp2_with fail
      refine (clipRows _ _ _ _ hjq).mono ?_
      rintro e w4 ⟨rfl, rfl⟩
      go_wp2_with fail
      obtain ⟨e1, -, e3, e4⟩ := KEND.out _ hb2 (.slice A n c) (.slice B kk d) (.slice (some ⟨gL, 0, none⟩) (j + 1) (j + 1))
      obtain ⟨WF, hWF⟩ : ∃ WF, WF = (((W.setCell ⟨g3, 2, none⟩ (.slice (some ⟨gL, 0, none⟩) (j + 1) (j + 1))).setCell ⟨w.heap.size + 1, 0, none⟩ (.slice A n c)).setCell ⟨w.heap.size + 1, 1, none⟩ (.slice B kk d)).setCell ⟨w.heap.size + 1, 2, none⟩ (.slice (some ⟨gL, 0, none⟩) (j + 1) (j + 1)) := ⟨_, rfl⟩
      have hap : Apart W9.heap.size W8 WF := by
        rw [hWF, HWD.out]
        exact (((((Apart.refl _ _).alloc _).set2 (.inr hgd) 2 _).set2 (.inl hzw) 0 _).set2 (.inl hzw) 1 _).set2 (.inl hzw) 2 _
      rw [← hWF] at e1 e3 e4 ⊢
      have r0 := e4.at_ 0 rfl
      have r1 := e4.at_ 1 rfl
      have r2 := e4.at_ 2 rfl
      have hz8 : W8.heap.size ≤ WF.heap.size := hap.1
      have hlr : rows.length = nl := by
        obtain ⟨dv, cv, lv, e, -, -, h6, -⟩ := id H8.out
        rw [← HNL.out, ← h6, List.length_map]
      obtain ⟨R, hR⟩ := flatS_take D xs rows (j + 1)
      have hcs : CStoH WF W9.heap.size [.slice A n c, .slice B kk d, .slice (some ⟨gL, 0, none⟩) (j + 1) (j + 1)] ⟨s.model, s.levels.take (j + 1)⟩ D xs (rows.take (j + 1)) := by
        obtain ⟨dv, cv, lv, e, k1, k2, k3, k4⟩ := CSto.apart H8.out hap
        simp only [List.cons.injEq, and_true] at e
        obtain ⟨rfl, rfl, rfl⟩ := e
        exact ⟨_, _, _, rfl, k1, (HRs.toH k2).cut (by omega), by rw [List.map_take, k3], by rw [List.length_take]; omega⟩
      have FIN := Lib.hid (And.intro (CStoH.base_ hcs (show w.heap.size ≤ W9.heap.size by omega)) (And.intro (show Fr w.heap.size WF.heap.size (flatS D xs (rows.take (j + 1))) from Fr.left (R := R) (by rw [← hR]; exact F8.wide (by omega) hz8)) e1))
      clear hcs
      clear hWF hr2 e3 e4 hap e1 t0 t1 t2 p0 p1 p2 f0 f1 f2 hb2
      go_wp2_with fail
      exact bodyPost_ret (v := .tuple #[.agg #[.slice A n c, .slice B kk d, .slice (some ⟨gL, 0, none⟩) (j + 1) (j + 1)], .bool true]) (by simp [results, Try.results5, go_sem, r0, r1, r2]) rfl ⟨[.slice A n c, .slice B kk d, .slice (some ⟨gL, 0, none⟩) (j + 1) (j + 1)], D, xs, rows.take (j + 1), by rw [HO.out], by rw [HE.out]; exact FIN.out.1, FIN.out.2.1, FIN.out.2.2⟩
end Go.Proofs.Ytjpcdbdaimonlaa
