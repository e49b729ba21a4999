/- impl's Resolve. -/
import Derived.Test.YtjkgndedffildaaResK
import Derived.Test.YtjkgndedffildaaSubs
namespace Go.Proofs.Ytjkgndedffildaa
open Go.ChangeShapes Go.WideShapes Go.ChangeAt Go.RowKit
open Go.Shelf
set_option linter.unusedVariables false
set_option maxRecDepth 100000

theorem HoldR.grown2 {w w' : World} {base n size g c g2 : Nat} {e : TypeId} {xs : List Value} (h : HoldR w base e size (.slice (some ⟨g, 0, none⟩) n c) n xs) (hg : w.grownBy w' (some g2)) (hne : g ≠ g2) : HoldR w' base e size (.slice (some ⟨g, 0, none⟩) n c) n xs := by
  refine ⟨h.1, h.2.imp id fun ⟨g', cap, cur, h1, h2, h3, r⟩ => ⟨g', cap, cur, h1, h2, ?_, r⟩⟩
  injection h1 with e1
  injection e1 with e1
  injection e1 with e1
  subst e1
  exact (hg.block g (Array.getElem?_eq_some_iff.1 h3).1 (fun e => hne (by injection e))).trans h3
theorem HoldR.some_ {w : World} {base n size : Nat} {e : TypeId} {v : Value} {xs : List Value} (h : HoldR w base e size v n xs) (hn : 0 < n) : ∃ g c, v = .slice (some ⟨g, 0, none⟩) n c ∧ base ≤ g ∧ g < w.heap.size := by
  rcases h.2 with ⟨_, h2⟩ | ⟨g, cap, cur, h1, h2, h3, _⟩
  · omega
  · exact ⟨g, cap, h1, h2, (Array.getElem?_eq_some_iff.1 h3).1⟩
set_option maxHeartbeats 8000000 in
theorem iResolve (b1 b2 n m : Nat) (k : Int) (v u : Value) (xs ys : List Ltl) (l : Ltl) (w : World) (hx : HoldR w b1 30 3 v n (xs.flatMap ltlCs)) (hlx : xs.length = n) (hy : HoldR w b2 30 3 u m (ys.flatMap ltlCs)) (hly : ys.length = m) (hn : n ≤ 9223372036854775807) (hm : m ≤ 9223372036854775807) :
    Calls Try.prog 9 #[.int .i64 k, v, u, .agg #[.int .i64 l.var, .int .i64 l.val, .bool l.neg]] w fun e w' => ∃ v', e = .returned (.tuple #[v', .bool (rsB k xs ys l)]) ∧ HoldR w' w.heap.size 30 3 v' (rsF k xs ys l).length ((rsF k xs ys l).flatMap ltlCs) ∧ Below w.heap.size w w' := by
  have HX := Lib.hid hx
  have HY := Lib.hid hy
  have hlx := Lib.hid hlx
  have hly := Lib.hid hly
  obtain ⟨A, c, rfl, rx⟩ := LitR.of_hold hlx.out hx hn
  obtain ⟨B, d, rfl, ry⟩ := LitR.of_hold hly.out hy hm
  have RX := Lib.hid rx
  have RY := Lib.hid ry
  obtain ⟨W1, hW1⟩ : ∃ W1, W1 = w.alloc (.cells #[.int .i64 l.var, .int .i64 l.val, .bool l.neg] 30) := ⟨_, rfl⟩
  have hB1 : Below w.heap.size w W1 := by rw [hW1]; exact b_alloc _ _
  have hT1 : TBlk 30 W1 w.heap.size #[.int .i64 l.var, .int .i64 l.val, .bool l.neg] := by rw [hW1]; exact TBlk.new _ _ _
  have HC : Hid (∀ w', Below W1.heap.size W1 w' → w'.cell? ⟨w.heap.size, 0, none⟩ = some (.int .i64 l.var) ∧ w'.cell? ⟨w.heap.size, 1, none⟩ = some (.int .i64 l.val) ∧ w'.cell? ⟨w.heap.size, 2, none⟩ = some (.bool l.neg)) := Lib.hid fun w' hb => by
    have k1 := hT1.below_ hb hT1.lt
    exact ⟨k1.at_ 0 rfl, k1.at_ 1 rfl, k1.at_ 2 rfl⟩
  clear hx hy rx ry hT1
  go_enter Try.func9, Try.ntmps9
  go_wp2_with fail
  rw [← hW1]
  clear hW1
  have hno : rsB k xs ys l = false → Hid (rsF k xs ys l = []) := fun h => Lib.hid (by unfold rsF; rw [h]; rfl)
  have HNO := Lib.hid hno
  clear hno
  refine (iValidClause _ _ _ _ _ _ (RX.out.on hB1)).mono ?_
  rintro e W3 ⟨rfl, hB3⟩
  cases h1 : vcF xs k
  · have hr : rsB k xs ys l = false := by unfold rsB rsOk; rw [h1]; rfl
    have HR := Lib.hid hr
    have HE := HNO.out hr
    clear h1 hr
    go_wp2_with fail
    refine bodyPost_ret (v := .tuple #[.slice none 0 0, .bool false]) ?_ rfl ?_
    · simp [results, Try.results9, go_sem]
    rw [HR.out, HE.out]
    exact ⟨_, rfl, HoldR.nil _ _ _ _, bgo hB1 hB3⟩
  have H1 := Lib.hid h1
  have hn12 : n ≤ 12 := by have := vcF_len h1; have := hlx.out; omega
  clear h1
  go_wp2_with fail
  refine (iValidClause _ _ _ _ _ _ (RY.out.on (bgo hB1 hB3))).mono ?_
  rintro e W4 ⟨rfl, hB4⟩
  have hB34 := bgo hB3 hB4
  have hB24 := bgo hB1 hB34
  cases h2 : vcF ys k
  · have hr : rsB k xs ys l = false := by unfold rsB rsOk; rw [h2]; simp
    have HR := Lib.hid hr
    have HE := HNO.out hr
    clear h2 hr
    go_wp2_with fail
    refine bodyPost_ret (v := .tuple #[.slice none 0 0, .bool false]) ?_ rfl ?_
    · simp [results, Try.results9, go_sem]
    rw [HR.out, HE.out]
    exact ⟨_, rfl, HoldR.nil _ _ _ _, hB24⟩
  have H2 := Lib.hid h2
  have hm12 : m ≤ 12 := by have := vcF_len h2; have := hly.out; omega
  obtain ⟨c1, c2, c3⟩ := HC.out W4 hB34
  clear h2 hB3 hB4
  go_wp2_with fail
  clear c1 c2 c3
  refine (containsLitV _ _ _ _ l _ (RX.out.on hB24)).mono ?_
  by_cases hm1 : l ∈ xs
  · rw [decide_eq_true hm1]
    rintro e W5 ⟨rfl, hB5⟩
    have hB35 := bgo hB34 hB5
    have hB25 := bgo hB24 hB5
    obtain ⟨c1, c2, c3⟩ := HC.out W5 hB35
    have HM1 := Lib.hid hm1
    clear hm1 hB34 hB24 hB5
    go_wp2_with fail
    clear c1 c2 c3
    refine (inegated l _).mono ?_
    rintro e W6 ⟨rfl, hB6⟩
    have hB36 := bgo hB35 hB6
    have hB26 := bgo hB25 hB6
    clear hB35 hB25 hB6
    go_wp2_with fail
    refine (containsLitV _ _ _ _ (negL l) _ (RY.out.on hB26)).mono ?_
    by_cases hm2 : negL l ∈ ys
    · rw [decide_eq_true hm2]
      rintro e W7 ⟨rfl, hB7⟩
      have hB37 := bgo hB36 hB7
      have hB27 := bgo hB26 hB7
      have hok : rsOk k xs ys l = true := by unfold rsOk; rw [H1.out, H2.out, decide_eq_true HM1.out, decide_eq_true hm2]; rfl
      have HOK := Lib.hid hok
      have hn0 : 0 < n := by rw [← hlx.out]; exact List.length_pos_of_mem HM1.out
      have hm0 : 0 < m := by rw [← hly.out]; exact List.length_pos_of_mem hm2
      clear hm2 hok hB36 hB26 hB7
      go_wp2_with fail
      have eg := enters_of Try.func24 (by kernel_rfl) rfl
      have hbd := bgo hB37 (below_drewN (Below.refl _ _) 1)
      have hbw := bgo hB27 (below_drewN (Below.refl _ _) 1)
      have hS0 := HC.out W7.drew hbd
      have HX7 := Lib.hid (HoldR.below HX.out hbw)
      have HY7 := Lib.hid HY.out
      have Hbw := Lib.hid hbw
      go_region_held3 (fun w' => w'.cell? ⟨w.heap.size, 0, none⟩ = some (.int .i64 l.var) ∧ w'.cell? ⟨w.heap.size, 1, none⟩ = some (.int .i64 l.val) ∧ w'.cell? ⟨w.heap.size, 2, none⟩ = some (.bool l.neg))
        (first | with_reducible exact hS0 | with_reducible exact HC.out _ hbJ | with_reducible exact HC.out _ hbI | with_reducible exact HC.out _ hbH2 | with_reducible exact HC.out _ hbH | with_reducible exact HC.out _ (bgo hbG (b_alloc _ _)) | with_reducible exact HC.out _ hbG | with_reducible exact HC.out _ hbF | with_reducible exact HC.out _ hbE | with_reducible exact HC.out _ hbD | with_reducible exact HC.out _ hbC | with_reducible exact HC.out _ hbB | with_reducible exact HC.out _ hbA)
        (first
          | (go_at_call 25
             refine (isorted _ _ _ (exF xs l ++ exF ys (negL l)) _ (HoldR.of_own hoI) List.length_append (by have := exF_len xs l; have := exF_len ys (negL l); have := hlx.out; have := hly.out; omega)).mono ?_
             rintro e WJ ⟨vJ, zs, rfl, hperm, hsort, hJ, hBq⟩
             have hbJ := bgo hbI hBq
             have hbwJ := bgo hbwI hBq
             clear hBq)
          | (go_at_call 26
             have hbAl := b_alloc WG (.cells #[.slice (some ⟨gA, 0, none⟩) (exF xs l).length cA, .slice (some ⟨gD, 0, none⟩) (exF ys (negL l)).length cD] 26)
             refine (concatLit W7.drew.heap.size WC.heap.size WG.heap.size (exF xs l).length (exF ys (negL l)).length _ _ (exF xs l) (exF ys (negL l)) _ (by rw [size_alloc_]; omega) (by rw [World.cell?_alloc_at _ _ _ _ rfl]; rfl) (by rw [World.cell?_alloc_at _ _ _ _ rfl]; rfl) (HoldR.below hG1 hbAl) rfl (HoldR.below hG2 hbAl) rfl (by have := exF_len xs l; have := exF_len ys (negL l); have := hlx.out; have := hly.out; omega)).mono ?_
             rintro e WI ⟨vI, rfl, hoI, hBq⟩
             obtain ⟨AI, cI, rfl⟩ := own_form hoI
             have hbI := bgo hbG (bgo hbAl hBq)
             have hbwI := bgo hbwG (bgo hbAl hBq)
             clear hBq hbAl)
          | (go_at_call 27
             have hq := hbF
             clear hq
             refine (deleteLit WC.heap.size gD m cD ys _ #[.pointer (some ⟨WE.heap.size, 0, none⟩)] (fun x => decide (x = negL l)) WF eg (HoldR.below hD (bgo hBDE hBEF)) hly.out (by omega) (fun x W hgW => iother1 x (negL l) WE.heap.size W ((hgW.block _ hTF.lt (fun e => by injection e with e; have := hBDE.size; omega)).trans hTF))).mono ?_
             rintro e WG ⟨rfl, hG2, hgG⟩
             have hG1 := (HoldR.below hC1 (bgo hBCD (bgo hBDE hBEF))).grown2 hgG (by omega)
             have hzF := hbF.size
             have hsCD := hBCD.size
             have hsDF := (bgo hBDE hBEF).size
             have hbG := hbF.trans (gro_down hgG (by have := hbC.size; omega) hzF)
             have hbwG := hbwF.trans (gro_down hgG (by have := hbwC.size; omega) hbwF.size))
          | (go_at_call 27
             refine (deleteLit W7.drew.heap.size gA n cA xs _ #[.pointer (some ⟨WA.heap.size, 0, none⟩)] (fun x => decide (x = l)) WB eg (HoldR.below hA hBAB) hlx.out (by omega) (fun x W hgW => iother1 x l WA.heap.size W ((hgW.block _ hTB.lt (fun e => by injection e with e; omega)).trans hTB))).mono ?_
             rintro e WC ⟨rfl, hC1, hgC⟩
             have hzB := hbB.size
             have hbC := hbB.trans (gro_down hgC (by have := hbd.size; omega) hzB)
             have hbwC := hbwB.trans (gro_down hgC (by have := Hbw.out.size; omega) hbwB.size)
             have hsBC := hgC.size
             have hsAB := hBAB.size)
          | (go_at_call 23
             have hq := hbE
             clear hq
             refine (iother (negL l) _).mono ?_
             rintro e WF ⟨rfl, hWF⟩
             have hBEF : Below WE.heap.size WE WF := by rw [hWF]; exact b_alloc _ _
             have hTF : TBlk 30 WF WE.heap.size #[.int .i64 (negL l).var, .int .i64 (negL l).val, .bool (negL l).neg] := by rw [hWF]; exact TBlk.new _ _ _
             have hbF := bgo hbE hBEF
             have hbwF := bgo hbwE hBEF
             clear hWF)
          | (go_at_call 23
             refine (iother l _).mono ?_
             rintro e WB ⟨rfl, hWB⟩
             have hBAB : Below WA.heap.size WA WB := by rw [hWB]; exact b_alloc _ _
             have hTB : TBlk 30 WB WA.heap.size #[.int .i64 l.var, .int .i64 l.val, .bool l.neg] := by rw [hWB]; exact TBlk.new _ _ _
             have hbB := bgo hbA hBAB
             have hbwB := bgo hbwA hBAB
             clear hWB)
          | (go_at_call 22
             refine (inegated l _).mono ?_
             rintro e WE ⟨rfl, hBDE⟩
             have hbE := bgo hbD hBDE
             have hbwE := bgo hbwD hBDE)
          | (go_at_call 28
             have hq := hbC
             clear hq
             refine (cloneLit _ _ _ _ _ (HoldR.below HY7.out hbwC) (by omega)).mono ?_
             rintro e WD ⟨vD, rfl, hD, hBCD⟩
             obtain ⟨gD, cD, rfl, hgD1, hgD2⟩ := hD.some_ hm0
             have hbD := bgo hbC hBCD
             have hbwD := bgo hbwC hBCD)
          | (go_at_call 28
             refine (cloneLit _ _ _ _ _ HX7.out (by omega)).mono ?_
             rintro e WA ⟨vA, rfl, hA, hBq⟩
             obtain ⟨gA, cA, rfl, hgA1, hgA2⟩ := hA.some_ hn0
             have hbA := bgo hbd hBq
             have hbwA := bgo hbw hBq
             clear hBq))
      have hzl : zs.length = (exF xs l).length + (exF ys (negL l)).length := by rw [hperm.length_eq, List.length_append]
      have hdd : ddTo zs ((exF xs l).length + (exF ys (negL l)).length) = rsM xs ys l := by
        rw [← hzl]; exact dd_merge (exF_asc (asc_of_vcF H1.out) l) hsort hperm
      rw [hdd] at hJ
      have hJ2 := Lib.hid (hJ.base_ (show w.heap.size ≤ WI.heap.size from hbwI.size))
      obtain ⟨AJ, cJ, rfl⟩ := hJ.form
      clear hA hD hC1 hG1 hG2 hoI hTB hTF hgC hgG hperm hsort hJ hdd hzl hS0 hbd hbA hbB hbC hbD hbE hbF hbG hbI hbJ hbw hbwA hbwB hbwC hbwD hbwE hbwF hbwG hbwI hBAB hBCD hBDE hBEF eg
      by_cases hlen : (rsM xs ys l).length ≤ 12
      · have hr : rsB k xs ys l = true := by unfold rsB; rw [HOK.out, decide_eq_true hlen]; rfl
        have hF : rsF k xs ys l = rsM xs ys l := by unfold rsF; rw [hr]; rfl
        have HR := Lib.hid hr
        have HF := Lib.hid hF
        have hdl : decide ((12 : Int) < ((rsM xs ys l).length : Int)) = false := decide_eq_false (by omega)
        clear hr hF
        go_wp2_with fail
        refine bodyPost_ret (v := .tuple #[.slice AJ (rsM xs ys l).length cJ, .bool true]) ?_ rfl ?_
        · simp [results, Try.results9, go_sem]
        rw [HR.out, HF.out]
        exact ⟨_, rfl, hJ2.out, hbwJ⟩
      · have hr : rsB k xs ys l = false := by unfold rsB; rw [decide_eq_false hlen]; simp
        have HR := Lib.hid hr
        have HE := HNO.out hr
        have hdl : decide ((12 : Int) < ((rsM xs ys l).length : Int)) = true := decide_eq_true (by omega)
        clear hr
        go_wp2_with fail
        refine bodyPost_ret (v := .tuple #[.slice none 0 0, .bool false]) ?_ rfl ?_
        · simp [results, Try.results9, go_sem]
        rw [HR.out, HE.out]
        exact ⟨_, rfl, HoldR.nil _ _ _ _, hbwJ⟩
    · rw [decide_eq_false hm2]
      rintro e W7 ⟨rfl, hB7⟩
      have hB27 := bgo hB26 hB7
      have hr : rsB k xs ys l = false := by unfold rsB rsOk; rw [decide_eq_false hm2]; simp
      have HR := Lib.hid hr
      have HE := HNO.out hr
      clear hm2 hr
      go_wp2_with fail
      refine bodyPost_ret (v := .tuple #[.slice none 0 0, .bool false]) ?_ rfl ?_
      · simp [results, Try.results9, go_sem]
      rw [HR.out, HE.out]
      exact ⟨_, rfl, HoldR.nil _ _ _ _, hB27⟩
  · rw [decide_eq_false hm1]
    rintro e W5 ⟨rfl, hB5⟩
    have hB25 := bgo hB24 hB5
    have hr : rsB k xs ys l = false := by unfold rsB rsOk; rw [decide_eq_false hm1]; simp
    have HR := Lib.hid hr
    have HE := HNO.out hr
    clear hm1 hr
    go_wp2_with fail
    refine bodyPost_ret (v := .tuple #[.slice none 0 0, .bool false]) ?_ rfl ?_
    · simp [results, Try.results9, go_sem]
    rw [HR.out, HE.out]
    exact ⟨_, rfl, HoldR.nil _ _ _ _, hB25⟩
theorem open_lit {H : Type} {enc : TypeId × Value → H} {W : World} {base : Nat} {v : Value} {d : DataW H} {p : List MemPlace} (hv : Value.okWide Try.prog W .any base 24 v) (h : DataW.Trod enc Try.prog W 0 (fun _ => true) true 24 v d p) :
    ∃ (us : List Value) (y : Ltl), v = .agg us.toArray ∧ LitC W W.heap.size us y := by
  obtain ⟨cs, rfl, hsz⟩ := okWide_struct Try.underlying24 hv
  obtain ⟨fuel, hf⟩ := h
  obtain ⟨y, hy⟩ := gives_litA _ _ _ _ _ _ _ hf
  exact ⟨cs.toList, y, by simp, hy⟩
end Go.Proofs.Ytjkgndedffildaa
