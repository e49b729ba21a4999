/- Diagrams: the program's validity, and acceptance by both. -/
import Derived.Test.YtfmdgdamelkelaaDiag
namespace Go.Proofs.Ytfmdgdamelkelaa
open Go.ChangeShapes Go.WideShapes Go.ChangeAt Go.RowKit
open Go.Shelf
set_option linter.unusedVariables false
set_option maxRecDepth 100000

theorem iValidDiagramC (A : Option Addr) (c : Nat) (r : List Int) (last : Int) (b1 : Nat) (w : World) (h : IntR w w.heap.size A r.length r) (hc : w.cell? ⟨b1, 0, none⟩ = some (.int .i64 last)) :
    Calls Try.prog 75 (#[.slice A r.length c] ++ #[.pointer (some ⟨b1, 0, none⟩)]) w fun e w' => e = .returned (.bool (!rowOk last r)) ∧ Below w.heap.size w w' := by
  have hr := h.le
  by_cases h6 : r.length = 6
  · have h6' : ((r.length : Int) != 6) = false := by simp; omega
    have e : (!rowOk last r) = !(r.all fun x => inB x (-1) last) := by unfold rowOk; rw [decide_eq_true h6]; rfl
    rw [e]
    clear e h6
    go_enter Try.func75, Try.ntmps75
    go_wp2_with fail
    refine (allIn _ _ _ r (-1) _ _ h).mono ?_
    rintro e w2 ⟨rfl, hb2⟩
    go_wp2_with fail
    go_ret
    exact ⟨rfl, hb2⟩
  · have h6' : ((r.length : Int) != 6) = true := by simp; omega
    have e : (!rowOk last r) = true := by unfold rowOk; rw [decide_eq_false h6]; rfl
    rw [e]
    clear e h6
    go_enter Try.func75, Try.ntmps75
    go_wp2_with fail
    go_ret
    exact ⟨rfl, Below.refl _ _⟩
set_option maxHeartbeats 1000000 in
theorem iValidDiagram (A : Option Addr) (n c : Nat) (d : List (List (List Int))) (w : World) (h : LayersR w w.heap.size A n d) :
    Calls Try.prog 33 #[.slice A n c] w fun e w' => e = .returned (.bool (vdgF d)) ∧ Below w.heap.size w w' := by
  have hn := h.le
  have hl := Lib.hid h.len
  cases h14 : inB (n : Int) 1 4
  · have e : vdgF d = false := by unfold vdgF; rw [hl.out, h14]; rfl
    rw [e]
    have H1 := Lib.hid h14
    clear h14 e
    go_enter Try.func33, Try.ntmps33
    go_wp2_with fail
    refine (within _ _ _ _).mono ?_
    rw [H1.out]
    rintro e w2 ⟨rfl, rfl⟩
    go_wp2_with fail
    go_ret
    exact ⟨rfl, Below.refl _ _⟩
  · have hk0 := (inB_true h14).1
    obtain ⟨ab0, ao0, l0, u0, e0, hab0, hxk0, hcx0, A0, c0, rfl, hl0⟩ := SlR.at_ (k := 0) h (by omega)
    rw [Nat.add_zero] at hcx0
    subst e0
    have hll0 := hl0.le
    have hf : firstOne d = decide (l0.length = 1) := by unfold firstOne; rw [hxk0]
    clear hl0 hxk0
    by_cases h1 : l0.length = 1
    · have h1' : ((l0.length : Int) != 1) = false := by simp; omega
      have H1 := Lib.hid h14
      have HF : Hid (firstOne d = true) := hf.trans (decide_eq_true h1)
      clear h14 hf h1
      go_enter Try.func33, Try.ntmps33
      go_wp2_with fail
      refine (within _ _ _ _).mono ?_
      rw [H1.out]
      rintro e w2 ⟨rfl, rfl⟩
      go_wp2_with fail
      clear hcx0 h1'
      go_loopw [19] (fun i wr => ∃ k : Nat, k ≤ n ∧ i = .int .i64 k ∧ Hid (UpTo (layerOk d) k) ∧ Below w.heap.size w wr) (fun i _ => n - (intOf i).toNat)
      case atStart => exact ⟨0, by omega, rfl, UpTo.zero _, Below.refl _ _⟩
      case round =>
        obtain ⟨k, hk, rfl, hq, hb⟩ := hrel
        by_cases hlt : k < n
        · obtain ⟨ab, ao, l, u, e1, hab, hxk, hcx, A1, c1, rfl, hl0'⟩ := SlR.at_ (h.below (RowC.keeps (RowC.keeps IntC.keeps)) hb) hlt
          injection e1 with e1
          injection e1 with e1 e3
          subst e1 e3
          have hl0 := hl0'.more (RowC.widens IntC.widens) hb.size
          have HX := Lib.hid hxk
          have hll := hl0.le
          clear hxk hl0'
          by_cases hk1 : k + 1 < n
          · obtain ⟨ab', ao', l2, u, e1, -, hx2, hc2, A3, c3, rfl, hl2⟩ := SlR.at_ (h.below (RowC.keeps (RowC.keeps IntC.keeps)) hb) hk1
            injection e1 with e1
            injection e1 with e1 e3
            subst e1 e3
            have hl2l := hl2.le
            have HLA := Lib.hid (lastF_some hx2)
            have hc2' : ∀ o : Obj, (wr.alloc o).cell? ⟨ab0, ao0 + (k + 1), none⟩ = some (.slice A3 l2.length c3) := fun o => by rw [World.cell?_alloc_past _ _ _ (by have := hb.size; omega)]; exact hc2
            clear hx2 hl2
            have hb1 := b_alloc wr (.cells #[.int .i64 ((l2.length : Int) - 1)] 3)
            have hcl : (wr.alloc (.cells #[.int .i64 ((l2.length : Int) - 1)] 3)).cell? ⟨wr.heap.size, 0, none⟩ = some (.int .i64 ((l2.length : Int) - 1)) := by rw [World.cell?_alloc_at _ _ _ _ rfl]; rfl
            have hs1 : wr.heap.size < (wr.alloc (.cells #[.int .i64 ((l2.length : Int) - 1)] 3)).heap.size := by rw [size_alloc_]; omega
            have HL1 := Lib.hid (SlR.on (RowC.keeps IntC.keeps) (RowC.widens IntC.widens) hl0 hb1)
            cases h216 : inB (l.length : Int) 1 216
            · have H2 := Lib.hid h216
              clear h216 hcl
              go_wp2_with fail
              refine (within _ _ _ _).mono ?_
              rw [H2.out]
              rintro e w2 ⟨rfl, rfl⟩
              go_wp2_with fail
              go_ret
              exact ⟨ret_bool (vdgF_no hl.out hlt ((layerOk_eq HX.out HLA.out).trans (by rw [H2.out]; rfl))).symm, hb.trans (hb1.mono hb.size)⟩
            · have H2 := Lib.hid h216
              clear h216
              have HC := Lib.hid hcl
              cases ha : l.any fun r => !rowOk ((l2.length : Int) - 1) r
              · have HA := Lib.hid ha
                clear ha hcl
                go_wp2_with fail
                refine (within _ _ _ _).mono ?_
                rw [H2.out]
                rintro e w2 ⟨rfl, rfl⟩
                go_wp2_with fail
                refine (containsFuncRow _ _ _ l 75 _ (fun r => !rowOk ((l2.length : Int) - 1) r) _ (enters_of Try.func75 (by kernel_rfl) rfl) HL1.out (fun k x W A1 c1 hx hW hr => ?_)).mono ?_
                · exact iValidDiagramC A1 c1 x ((l2.length : Int) - 1) _ W hr ((hW.cell (p := ⟨wr.heap.size, 0, none⟩) hs1).trans HC.out)
                · rw [HA.out]
                  rintro e w2 ⟨rfl, hb2⟩
                  have hall : l.all (rowOk ((l2.length : Int) - 1)) = true := by rw [List.all_eq_not_any_not, HA.out]; rfl
                  have HALL := Lib.hid hall
                  clear hall
                  go_wp2_with fail
                  go_roundw
                  case rel => exact ⟨k + 1, by omega, by go_num, UpTo.succ hq.out ((layerOk_eq HX.out HLA.out).trans (by rw [H2.out, HALL.out]; rfl)), hb.trans ((bgo hb1 hb2).mono hb.size)⟩
                  case measure => simp [intOf]; omega
              · have HA := Lib.hid ha
                clear ha hcl
                go_wp2_with fail
                refine (within _ _ _ _).mono ?_
                rw [H2.out]
                rintro e w2 ⟨rfl, rfl⟩
                go_wp2_with fail
                refine (containsFuncRow _ _ _ l 75 _ (fun r => !rowOk ((l2.length : Int) - 1) r) _ (enters_of Try.func75 (by kernel_rfl) rfl) HL1.out (fun k x W A1 c1 hx hW hr => ?_)).mono ?_
                · exact iValidDiagramC A1 c1 x ((l2.length : Int) - 1) _ W hr ((hW.cell (p := ⟨wr.heap.size, 0, none⟩) hs1).trans HC.out)
                · rw [HA.out]
                  rintro e w2 ⟨rfl, hb2⟩
                  have hall : l.all (rowOk ((l2.length : Int) - 1)) = false := by rw [List.all_eq_not_any_not, HA.out]; rfl
                  have HALL := Lib.hid hall
                  clear hall
                  go_wp2_with fail
                  go_ret
                  exact ⟨ret_bool (vdgF_no hl.out hlt ((layerOk_eq HX.out HLA.out).trans (by rw [H2.out, HALL.out]; rfl))).symm, hb.trans ((bgo hb1 hb2).mono hb.size)⟩

          · have HLA := Lib.hid (lastF_none hl.out hk1)
            have hb1 := b_alloc wr (.cells #[.int .i64 0] 3)
            have hcl : (wr.alloc (.cells #[.int .i64 0] 3)).cell? ⟨wr.heap.size, 0, none⟩ = some (.int .i64 0) := by rw [World.cell?_alloc_at _ _ _ _ rfl]; rfl
            have hs1 : wr.heap.size < (wr.alloc (.cells #[.int .i64 0] 3)).heap.size := by rw [size_alloc_]; omega
            have HL1 := Lib.hid (SlR.on (RowC.keeps IntC.keeps) (RowC.widens IntC.widens) hl0 hb1)
            cases h216 : inB (l.length : Int) 1 216
            · have H2 := Lib.hid h216
              clear h216 hcl
              go_wp2_with fail
              refine (within _ _ _ _).mono ?_
              rw [H2.out]
              rintro e w2 ⟨rfl, rfl⟩
              go_wp2_with fail
              go_ret
              exact ⟨ret_bool (vdgF_no hl.out hlt ((layerOk_eq HX.out HLA.out).trans (by rw [H2.out]; rfl))).symm, hb.trans (hb1.mono hb.size)⟩
            · have H2 := Lib.hid h216
              clear h216
              have HC := Lib.hid hcl
              cases ha : l.any fun r => !rowOk 0 r
              · have HA := Lib.hid ha
                clear ha hcl
                go_wp2_with fail
                refine (within _ _ _ _).mono ?_
                rw [H2.out]
                rintro e w2 ⟨rfl, rfl⟩
                go_wp2_with fail
                refine (containsFuncRow _ _ _ l 75 _ (fun r => !rowOk 0 r) _ (enters_of Try.func75 (by kernel_rfl) rfl) HL1.out (fun k x W A1 c1 hx hW hr => ?_)).mono ?_
                · exact iValidDiagramC A1 c1 x 0 _ W hr ((hW.cell (p := ⟨wr.heap.size, 0, none⟩) hs1).trans HC.out)
                · rw [HA.out]
                  rintro e w2 ⟨rfl, hb2⟩
                  have hall : l.all (rowOk 0) = true := by rw [List.all_eq_not_any_not, HA.out]; rfl
                  have HALL := Lib.hid hall
                  clear hall
                  go_wp2_with fail
                  go_roundw
                  case rel => exact ⟨k + 1, by omega, by go_num, UpTo.succ hq.out ((layerOk_eq HX.out HLA.out).trans (by rw [H2.out, HALL.out]; rfl)), hb.trans ((bgo hb1 hb2).mono hb.size)⟩
                  case measure => simp [intOf]; omega
              · have HA := Lib.hid ha
                clear ha hcl
                go_wp2_with fail
                refine (within _ _ _ _).mono ?_
                rw [H2.out]
                rintro e w2 ⟨rfl, rfl⟩
                go_wp2_with fail
                refine (containsFuncRow _ _ _ l 75 _ (fun r => !rowOk 0 r) _ (enters_of Try.func75 (by kernel_rfl) rfl) HL1.out (fun k x W A1 c1 hx hW hr => ?_)).mono ?_
                · exact iValidDiagramC A1 c1 x 0 _ W hr ((hW.cell (p := ⟨wr.heap.size, 0, none⟩) hs1).trans HC.out)
                · rw [HA.out]
                  rintro e w2 ⟨rfl, hb2⟩
                  have hall : l.all (rowOk 0) = false := by rw [List.all_eq_not_any_not, HA.out]; rfl
                  have HALL := Lib.hid hall
                  clear hall
                  go_wp2_with fail
                  go_ret
                  exact ⟨ret_bool (vdgF_no hl.out hlt ((layerOk_eq HX.out HLA.out).trans (by rw [H2.out, HALL.out]; rfl))).symm, hb.trans ((bgo hb1 hb2).mono hb.size)⟩

        · obtain rfl : k = n := by omega
          have he := hq.out.done
          have HE := Lib.hid he
          clear he
          go_wp2_with fail
          go_ret
          refine ⟨ret_bool ?_, hb⟩
          unfold vdgF layersOk
          rw [hl.out, H1.out, HF.out, HE.out]
          rfl
    · have h1' : ((l0.length : Int) != 1) = true := by simp; omega
      have e : vdgF d = false := by unfold vdgF; rw [hf, decide_eq_false h1]; simp
      rw [e]
      have H1 := Lib.hid h14
      clear h14 e hf h1
      go_enter Try.func33, Try.ntmps33
      go_wp2_with fail
      refine (within _ _ _ _).mono ?_
      rw [H1.out]
      rintro e w2 ⟨rfl, rfl⟩
      go_wp2_with fail
      go_ret
      exact ⟨rfl, Below.refl _ _⟩
theorem sValidDiagram (A : Option Addr) (n c : Nat) (d : List (List (List Int))) (w : World) (h : LayersR w w.heap.size A n d) :
    Calls Try.prog 34 #[.slice A n c] w fun e w' => e = .returned (.bool (vdgF d)) ∧ Below w.heap.size w w' := by
  go_enter Try.func34, Try.ntmps34
  go_wp2_with (go_at_call 71; refine (svalidDiagram _ _ _ _ _ h).mono ?_; rintro e w' ⟨rfl, hb⟩)
  go_ret
  exact ⟨rfl, hb⟩
end Go.Proofs.Ytfmdgdamelkelaa
