/- Clauses: validity, truth, containment: the program's functions and the reference's. -/
import Derived.Test.YtjkgndedffildaaLits
namespace Go.Proofs.Ytjkgndedffildaa
open Go.ChangeShapes Go.WideShapes Go.ChangeAt Go.RowKit
open Go.Shelf
set_option linter.unusedVariables false
set_option maxRecDepth 100000

theorem within_b (n lo hi : Int) (w : World) (b : Bool) (h : inB n lo hi = b) : Calls Try.prog 33 #[.int .i64 n, .int .i64 lo, .int .i64 hi] w fun e w' => e = .returned (.bool b) ∧ w = w' := by
  subst h; exact within n lo hi w
theorem valueOk_b (n : Int) (w : World) (b : Bool) (h : inB n 0 5 = b) : Calls Try.prog 34 #[.int .i64 n] w fun e w' => e = .returned (.bool b) ∧ w = w' := by
  subst h; exact valueOk n w
theorem iValidClause (A : Option Addr) (n c : Nat) (m : Int) (xs : List Ltl) (w : World) (h : LitR w w.heap.size A n xs) :
    Calls Try.prog 16 #[.slice A n c, .int .i64 m] w fun e w' => e = .returned (.bool (vcF xs m)) ∧ Below w.heap.size w w' := by
  have hn := h.le
  have hl := Lib.hid h.len
  go_enter Try.func16, Try.ntmps16
  go_wp2_with fail
  go_loopw [9] (fun i wr => ∃ k : Nat, k ≤ n ∧ i = .int .i64 k ∧ Hid (OkTo xs (wrap64 (m - 1)) k) ∧ Below w.heap.size w wr) (fun i _ => n - (intOf i).toNat)
  case atStart => exact ⟨0, by omega, rfl, OkTo.zero _ _, Below.refl _ _⟩
  case round =>
    obtain ⟨k, hk, rfl, hq, hb⟩ := hrel
    by_cases hlt : k < n
    · obtain ⟨ab, ao, x, rfl, hab, hxk, hc0, hc1, hc2⟩ := LitR.at_ (h.below LitC.keeps hb) hlt
      have HX := Lib.hid hxk
      clear hxk
      have hw := hb.size
      have q0 : ∀ p : Later (wr.alloc (.cells #[.int .i64 x.var, .int .i64 x.val, .bool x.neg] 30)), p.val.cell? ⟨wr.heap.size, 0, none⟩ = some (.int .i64 x.var) := fun p => p.cell (by rw [size_alloc_]; omega) (by rw [World.cell?_alloc_at _ _ _ _ rfl]; rfl)
      have q1 : ∀ p : Later (wr.alloc (.cells #[.int .i64 x.var, .int .i64 x.val, .bool x.neg] 30)), p.val.cell? ⟨wr.heap.size, 1, none⟩ = some (.int .i64 x.val) := fun p => p.cell (by rw [size_alloc_]; omega) (by rw [World.cell?_alloc_at _ _ _ _ rfl]; rfl)
      have q2 : ∀ p : Later (wr.alloc (.cells #[.int .i64 x.var, .int .i64 x.val, .bool x.neg] 30)), p.val.cell? ⟨wr.heap.size, 2, none⟩ = some (.bool x.neg) := fun p => p.cell (by rw [size_alloc_]; omega) (by rw [World.cell?_alloc_at _ _ _ _ rfl]; rfl)
      cases h1 : inB x.var 0 (wrap64 (m - 1))
      · have H1 := Lib.hid h1
        clear h1
        go_wp2_with fail
        refine wp_region_later (by kernel_rfl) (by kernel_rfl) ?_
        repeat (go_big_quiet_step (first | (go_at_call 33; exact calls_later_same (within_b _ _ _ _ _ H1.out))))
        refine wpQuiet_nil ?_
        intro w5 hw'
        obtain ⟨⟨w6, hb5⟩, hw''⟩ := hw'
        subst hw''
        go_wp2_with fail
        go_ret
        exact ⟨ret_bool (by rw [vcF_no hl.out hlt (okAt_f HX.out (by rw [H1.out]; rfl))]), hb.trans ((bgo (b_alloc _ _) hb5).mono hb.size)⟩
      · have H1 := Lib.hid h1
        clear h1
        cases h2 : inB x.val 0 5
        · have H2 := Lib.hid h2
          clear h2
          go_wp2_with fail
          refine wp_region_later (by kernel_rfl) (by kernel_rfl) ?_
          repeat (go_big_quiet_step (first | (go_at_call 33; exact calls_later_same (within_b _ _ _ _ _ H1.out)) | (go_at_call 34; exact calls_later_same (valueOk_b _ _ _ H2.out))))
          refine wpQuiet_nil ?_
          intro w5 hw'
          obtain ⟨⟨w6, hb5⟩, hw''⟩ := hw'
          subst hw''
          go_wp2_with fail
          go_ret
          exact ⟨ret_bool (by rw [vcF_no hl.out hlt (okAt_f HX.out (by rw [H1.out, H2.out]; rfl))]), hb.trans ((bgo (b_alloc _ _) hb5).mono hb.size)⟩
        · have H2 := Lib.hid h2
          clear h2
          by_cases hk0 : k = 0
          · have hd : decide ((0 : Int) < (k : Int)) = false := by simp; omega
            have hd2 : decide (0 < k) = false := by simp; omega
            have H0 := Lib.hid hk0
            clear hk0
            go_wp2_with fail
            refine wp_region_later (by kernel_rfl) (by kernel_rfl) ?_
            repeat (go_big_quiet_step (first | (go_at_call 33; exact calls_later_same (within_b _ _ _ _ _ H1.out)) | (go_at_call 34; exact calls_later_same (valueOk_b _ _ _ H2.out))))
            refine wpQuiet_nil ?_
            intro w5 hw'
            obtain ⟨⟨w6, hb5⟩, hw''⟩ := hw'
            subst hw''
            go_wp2_with fail
            go_roundw
            case rel => exact ⟨k + 1, by omega, by go_num, OkTo.succ hq.out ((okAt_z H0.out HX.out).trans (by rw [H1.out, H2.out]; rfl)), hb.trans ((bgo (b_alloc _ _) hb5).mono hb.size)⟩
            case measure => simp [intOf]; omega
          · have hd : decide ((0 : Int) < (k : Int)) = true := by simp; omega
            have hd2 : decide (0 < k) = true := by simp; omega
            obtain ⟨ab', ao', y, he, -, hyk, hy0, hy1, hy2⟩ := LitR.at_ (i := k - 1) (h.below LitC.keeps hb) (by omega)
            injection he with he
            injection he with e1 e2
            subst e1 e2
            have HY := Lib.hid hyk
            clear hyk
            have r0 : ∀ p : Later (wr.alloc (.cells #[.int .i64 x.var, .int .i64 x.val, .bool x.neg] 30)), p.val.cell? ⟨ab, ao + (k - 1) * 3, none⟩ = some (.int .i64 y.var) := fun p => p.cell (by rw [size_alloc_]; omega) (by rw [World.cell?_alloc_past _ _ _ (by omega)]; exact hy0)
            have r1 : ∀ p : Later (wr.alloc (.cells #[.int .i64 x.var, .int .i64 x.val, .bool x.neg] 30)), p.val.cell? ⟨ab, ao + (k - 1) * 3 + 1, none⟩ = some (.int .i64 y.val) := fun p => p.cell (by rw [size_alloc_]; omega) (by rw [World.cell?_alloc_past _ _ _ (by omega)]; exact hy1)
            have r2 : ∀ p : Later (wr.alloc (.cells #[.int .i64 x.var, .int .i64 x.val, .bool x.neg] 30)), p.val.cell? ⟨ab, ao + (k - 1) * 3 + 2, none⟩ = some (.bool y.neg) := fun p => p.cell (by rw [size_alloc_]; omega) (by rw [World.cell?_alloc_past _ _ _ (by omega)]; exact hy2)
            have hcl := cmpL_less y x
            cases h4 : ltlLess y x
            · have H4 := Lib.hid h4
              rw [h4] at hcl
              have hcl1 : decide (0 ≤ cmpL y x) = true := hcl
              clear h4 hcl
              go_wp2_with fail
              refine wp_region_later (by kernel_rfl) (by kernel_rfl) ?_
              repeat (go_big_quiet_step (first | (go_at_call 33; exact calls_later_same (within_b _ _ _ _ _ H1.out)) | (go_at_call 34; exact calls_later_same (valueOk_b _ _ _ H2.out)) | (go_at_call 35; exact calls_later (icompare _ _ _))))
              refine wpQuiet_nil ?_
              intro w5 hw'
              obtain ⟨⟨w6, hb5⟩, hw''⟩ := hw'
              subst hw''
              go_wp2_with fail
              go_ret
              exact ⟨ret_bool (by rw [vcF_no hl.out hlt ((okAt_p (by omega) HX.out HY.out).trans (by rw [H1.out, H2.out, H4.out]; rfl))]), hb.trans ((bgo (b_alloc _ _) hb5).mono hb.size)⟩
            · have H4 := Lib.hid h4
              rw [h4] at hcl
              have hcl1 : decide (0 ≤ cmpL y x) = false := hcl
              clear h4 hcl
              go_wp2_with fail
              refine wp_region_later (by kernel_rfl) (by kernel_rfl) ?_
              repeat (go_big_quiet_step (first | (go_at_call 33; exact calls_later_same (within_b _ _ _ _ _ H1.out)) | (go_at_call 34; exact calls_later_same (valueOk_b _ _ _ H2.out)) | (go_at_call 35; exact calls_later (icompare _ _ _))))
              refine wpQuiet_nil ?_
              intro w5 hw'
              obtain ⟨⟨w6, hb5⟩, hw''⟩ := hw'
              subst hw''
              go_wp2_with fail
              go_roundw
              case rel => exact ⟨k + 1, by omega, by go_num, OkTo.succ hq.out ((okAt_p (by omega) HX.out HY.out).trans (by rw [H1.out, H2.out, H4.out]; rfl)), hb.trans ((bgo (b_alloc _ _) hb5).mono hb.size)⟩
              case measure => simp [intOf]; omega
    · obtain rfl : k = n := by omega
      have he := OkTo.done hq.out hl.out
      cases hm : inB m 1 4
      · have HM := Lib.hid hm
        clear hm
        go_wp2_with (go_at_call 33; refine (within_b _ _ _ _ _ HM.out).mono ?_; rintro e w' ⟨rfl, rfl⟩)
        go_ret
        refine ⟨ret_bool ?_, hb⟩
        unfold vcF
        rw [HM.out]
        rfl
      · have HM := Lib.hid hm
        clear hm
        have HE := Lib.hid he
        clear he
        go_wp2_with (go_at_call 33; refine (within_b _ _ _ _ _ HM.out).mono ?_; rintro e w' ⟨rfl, rfl⟩)
        go_ret
        refine ⟨ret_bool ?_, hb⟩
        unfold vcF vclF
        rw [HM.out, HE.out, hl.out]
        simp
        omega
theorem sValidClause (A : Option Addr) (n c : Nat) (m : Int) (xs : List Ltl) (w : World) (h : LitR w w.heap.size A n xs) :
    Calls Try.prog 18 #[.slice A n c, .int .i64 m] w fun e w' => e = .returned (.bool (vcF xs m)) ∧ Below w.heap.size w w' := by
  cases hm : inB m 1 4
  · have e : vcF xs m = false := by unfold vcF; rw [hm]; rfl
    rw [e]
    have HM := Lib.hid hm
    clear hm e
    go_enter Try.func18, Try.ntmps18
    go_wp2_with (go_at_call 41; refine (inRange_b _ _ _ _ _ HM.out).mono ?_; rintro e w' ⟨rfl, rfl⟩)
    go_ret
    exact ⟨rfl, Below.refl _ _⟩
  · have e : vcF xs m = vclF xs m := by unfold vcF; rw [hm]; rfl
    rw [e]
    have HM := Lib.hid hm
    clear hm e
    go_enter Try.func18, Try.ntmps18
    go_wp2_with (first | (go_at_call 41; refine (inRange_b _ _ _ _ _ HM.out).mono ?_; rintro e w' ⟨rfl, rfl⟩) | (go_at_call 42; refine (svalidClause _ _ _ _ _ _ h).mono ?_; rintro e w' ⟨rfl, hb⟩))
    go_ret
    exact ⟨rfl, hb⟩
end Go.Proofs.Ytjkgndedffildaa
