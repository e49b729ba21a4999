/- Whether a clause holds. -/
import Derived.Test.YtjkgndedffildaaClause
namespace Go.Proofs.Ytjkgndedffildaa
open Go.ChangeShapes Go.WideShapes Go.ChangeAt Go.RowKit
open Go.Shelf
set_option linter.unusedVariables false
set_option maxRecDepth 100000

theorem indexLit (A : Option Addr) (n c : Nat) (xs : List Ltl) (g : Nat) (lb : Array Value) (p : Ltl → Bool) (w : World) (eg : ∀ args w, (callFunc g args).run Try.prog w = .ok (.enter g args) w)
    (h : LitR w w.heap.size A n xs) (hp : ∀ (k : Nat) x W, xs[k]? = some x → Below w.heap.size w W → Calls Try.prog g (#[.agg #[.int .i64 x.var, .int .i64 x.val, .bool x.neg]] ++ lb) W fun e W' => e = .returned (.bool (p x)) ∧ Below W.heap.size W W') :
    Calls Try.prog 49 #[.slice A n c, .func (.func g) #[] lb] w fun e w' => ∃ j : Int, e = .returned (.int .i64 j) ∧ decide (0 ≤ j) = xs.any p ∧ Below w.heap.size w w' := by
  have hn := h.le
  have hl := Lib.hid h.len
  have HP := Lib.hid hp
  clear hp
  go_enter Try.func49, Try.ntmps49
  go_wp2_with fail
  go_loopw [8] (fun i wr => ∃ k : Nat, k ≤ n ∧ i = .int .i64 k ∧ Hid (AllB (fun x => !p x) xs k) ∧ Below w.heap.size w wr) (fun i _ => n - (intOf i).toNat)
  case atStart => exact ⟨0, by omega, rfl, AllB.zero _ _, Below.refl _ _⟩
  case round =>
    obtain ⟨k, hk, rfl, hq, hb⟩ := hrel
    by_cases hlt : k < n
    · obtain ⟨ab, ao, x, rfl, hab, hxk, hc0, hc1, hc2⟩ := LitR.at_ (h.below LitC.keeps hb) hlt
      have HX := Lib.hid hxk
      clear hxk
      cases hpx : p x
      · have HF := Lib.hid hpx
        clear hpx
        go_wp2_with fail
        refine (HP.out k x _ HX.out hb).mono ?_
        rw [HF.out]
        rintro e w1 ⟨rfl, hb1⟩
        go_wp2_with fail
        go_roundw
        case rel => exact ⟨k + 1, by omega, by go_num, AllB.succ hq.out HX.out (by simp [HF.out]), bgo hb hb1⟩
        case measure => simp [intOf]; omega
      · have HF := Lib.hid hpx
        clear hpx
        go_wp2_with fail
        refine (HP.out k x _ HX.out hb).mono ?_
        rw [HF.out]
        rintro e w1 ⟨rfl, hb1⟩
        go_wp2_with fail
        go_ret
        refine ⟨k, rfl, ?_, bgo hb hb1⟩
        have : xs.any p = true := List.any_eq_true.2 ⟨x, List.mem_of_getElem? HX.out, HF.out⟩
        rw [this]
        simp
    · obtain rfl : k = n := by omega
      go_wp2_with fail
      go_ret
      refine ⟨-1, rfl, ?_, hb⟩
      have := AllB.done hq.out (Nat.le_of_eq hl.out)
      rw [List.all_eq_not_any_not] at this
      simp only [Bool.not_not] at this
      have h2 : xs.any p = false := by simpa using this
      rw [h2]
      decide
theorem containsFuncLit (A : Option Addr) (n c : Nat) (xs : List Ltl) (g : Nat) (lb : Array Value) (p : Ltl → Bool) (w : World) (eg : ∀ args w, (callFunc g args).run Try.prog w = .ok (.enter g args) w)
    (h : LitR w w.heap.size A n xs) (hp : ∀ (k : Nat) x W, xs[k]? = some x → Below w.heap.size w W → Calls Try.prog g (#[.agg #[.int .i64 x.var, .int .i64 x.val, .bool x.neg]] ++ lb) W fun e W' => e = .returned (.bool (p x)) ∧ Below W.heap.size W W') :
    Calls Try.prog 37 #[.slice A n c, .func (.func g) #[] lb] w fun e w' => e = .returned (.bool (xs.any p)) ∧ Below w.heap.size w w' := by
  have HP := Lib.hid hp
  have HE := Lib.hid eg
  clear hp eg
  go_enter Try.func37, Try.ntmps37
  go_wp2_with fail
  refine (indexLit A n c xs g lb p w HE.out h HP.out).mono ?_
  rintro e w1 ⟨j, rfl, hj, hb⟩
  have HJ := Lib.hid hj
  clear hj
  go_wp2_with fail
  go_ret
  exact ⟨ret_bool HJ.out, hb⟩
theorem itrues (x : Ltl) (w : World) (h0 : 0 ≤ x.val) (h1 : x.val ≤ 5) : Calls Try.prog 40 #[.agg #[.int .i64 x.var, .int .i64 x.val, .bool x.neg]] w fun e w' => e = .returned (.int .i64 (truesF x)) ∧ Below w.heap.size w w' := by
  obtain ⟨k, hk, hkv⟩ : ∃ k : Nat, k < 6 ∧ x.val = (k : Int) := ⟨x.val.toNat, by omega, by omega⟩
  rw [hkv]
  have hp := pow_le5 k hk
  cases hn : x.neg
  · have e : truesF x = 2 ^ k := by simp [truesF, hn, hkv]
    rw [e]
    clear e hkv h0 h1
    go_enter Try.func40, Try.ntmps40
    go_wp2
    go_ret
    exact ⟨rfl, b_alloc _ _⟩
  · have e : truesF x = bits .andNot .i64 63 (2 ^ k) := by simp [truesF, hn, hkv]
    rw [e]
    clear e hkv h0 h1
    go_enter Try.func40, Try.ntmps40
    go_wp2
    go_ret
    exact ⟨rfl, b_alloc _ _⟩
theorem iClauseHoldsC (x : Ltl) (B : Option Addr) (m d : Nat) (ys : List Int) (b1 : Nat) (w : World) (hb1 : b1 < w.heap.size) (hy : IntR w w.heap.size B m ys) (hc : w.cell? ⟨b1, 0, none⟩ = some (.slice B m d)) (hx0 : 0 ≤ x.var) (hxm : x.var < m) (hv0 : 0 ≤ x.val) (hv1 : x.val ≤ 5) (hys : ys.all (fun v => inB v 0 5) = true) :
    Calls Try.prog 38 (#[.agg #[.int .i64 x.var, .int .i64 x.val, .bool x.neg]] ++ #[.pointer (some ⟨b1, 0, none⟩)]) w fun e w' => e = .returned (.bool (litH ys x)) ∧ Below w.heap.size w w' := by
  obtain ⟨j, hj⟩ : ∃ j : Nat, x.var = (j : Int) := ⟨x.var.toNat, by omega⟩
  have hjm : j < m := by omega
  obtain ⟨bb, bo, y, rfl, hbb, hyk, hcy⟩ := IntR.at_ hy hjm
  have hyb := inB_true (List.all_eq_true.1 hys y (List.mem_of_getElem? hyk))
  have hlh : hasB (truesF x) y = litH ys x := by unfold litH; rw [trues_has x y hv0 hv1 hyb.1 hyb.2, hj, Int.toNat_natCast, hyk]; rfl
  have htb := trues_bd x hv0 hv1
  have hm := hy.le
  have HLH := Lib.hid hlh
  obtain ⟨hy0, hy5⟩ := hyb
  clear hlh hys hyk hx0 hxm
  rw [hj]
  have e0 : Calls Try.prog 38 (#[.agg #[.int .i64 (j : Int), .int .i64 x.val, .bool x.neg]] ++ #[.pointer (some ⟨b1, 0, none⟩)]) w fun e w' => e = .returned (.bool (hasB (truesF x) y)) ∧ Below w.heap.size w w' := by
    have q0 : ∀ p : Later (w.alloc (.cells #[.int .i64 (j : Int), .int .i64 x.val, .bool x.neg] 30)), p.val.cell? ⟨w.heap.size, 0, none⟩ = some (.int .i64 (j : Int)) := fun p => p.cell (by rw [size_alloc_]; omega) (by rw [World.cell?_alloc_at _ _ _ _ rfl]; rfl)
    have q1 : ∀ p : Later (w.alloc (.cells #[.int .i64 (j : Int), .int .i64 x.val, .bool x.neg] 30)), p.val.cell? ⟨w.heap.size, 1, none⟩ = some (.int .i64 x.val) := fun p => p.cell (by rw [size_alloc_]; omega) (by rw [World.cell?_alloc_at _ _ _ _ rfl]; rfl)
    have q2 : ∀ p : Later (w.alloc (.cells #[.int .i64 (j : Int), .int .i64 x.val, .bool x.neg] 30)), p.val.cell? ⟨w.heap.size, 2, none⟩ = some (.bool x.neg) := fun p => p.cell (by rw [size_alloc_]; omega) (by rw [World.cell?_alloc_at _ _ _ _ rfl]; rfl)
    have q3 : ∀ p : Later (w.alloc (.cells #[.int .i64 (j : Int), .int .i64 x.val, .bool x.neg] 30)), p.val.cell? ⟨b1, 0, none⟩ = some (.slice (some ⟨bb, bo, none⟩) m d) := fun p => p.cell (by rw [size_alloc_]; omega) (by rw [World.cell?_alloc_past _ _ _ hb1]; exact hc)
    have q4 : ∀ p : Later (w.alloc (.cells #[.int .i64 (j : Int), .int .i64 x.val, .bool x.neg] 30)), p.val.cell? ⟨bb, bo + j, none⟩ = some (.int .i64 y) := fun p => p.cell (by rw [size_alloc_]; omega) (by rw [World.cell?_alloc_past _ _ _ hbb]; exact hcy)
    have HT : ∀ W : World, Calls Try.prog 40 #[.agg #[.int .i64 (j : Int), .int .i64 x.val, .bool x.neg]] W fun e w' => e = .returned (.int .i64 (truesF x)) ∧ Below W.heap.size W w' := fun W => by
      have := itrues x W hv0 hv1
      rw [hj] at this
      exact this
    have HTT := Lib.hid HT
    clear HT hc hcy hj
    go_enter Try.func38, Try.ntmps38
    go_wp2_with fail
    refine wp_region_later (by kernel_rfl) (by kernel_rfl) ?_
    repeat (go_big_quiet_step (first | (go_at_call 40; exact calls_later (HTT.out _)) | (go_at_call 39; exact calls_later_same (ihas _ _ (by omega) (by omega) (by omega) _))))
    refine wpQuiet_nil ?_
    intro w5 hw'
    obtain ⟨⟨w6, hb5⟩, hw''⟩ := hw'
    subst hw''
    go_wp2_with fail
    go_ret
    exact ⟨rfl, bgo (b_alloc _ _) hb5⟩
  rw [← HLH.out]
  exact e0
theorem iClauseHolds (A B : Option Addr) (n m c d : Nat) (xs : List Ltl) (ys : List Int) (w : World) (h : LitR w w.heap.size A n xs) (hy : IntR w w.heap.size B m ys) :
    Calls Try.prog 17 #[.slice A n c, .slice B m d] w fun e w' => e = .returned (.bool (chF xs ys m)) ∧ Below w.heap.size w w' := by
  have hm := hy.le
  have hb0 := b_alloc w (.cells #[.slice B m d] 39)
  have HY := Lib.hid (hy.on hb0)
  have HL := Lib.hid (h.on hb0)
  have hcell : (w.alloc (.cells #[.slice B m d] 39)).cell? ⟨w.heap.size, 0, none⟩ = some (.slice B m d) := by rw [World.cell?_alloc_at _ _ _ _ rfl]; rfl
  have hs0 : w.heap.size < (w.alloc (.cells #[.slice B m d] 39)).heap.size := by rw [size_alloc_]; omega
  cases h1 : inB (m : Int) 1 4
  · have e : chF xs ys m = false := by unfold chF; rw [h1]; rfl
    rw [e]
    have H1 := Lib.hid h1
    clear h1 e hs0
    go_enter Try.func17, Try.ntmps17
    go_wp2_with (go_at_call 33; refine (within_b _ _ _ _ _ H1.out).mono ?_; rintro e w' ⟨rfl, rfl⟩)
    go_ret
    exact ⟨rfl, hb0⟩
  · cases h2 : ys.all fun v => inB v 0 5
    · have e : chF xs ys m = false := by unfold chF; rw [h1, h2]; rfl
      rw [e]
      have H1 := Lib.hid h1
      have H2 := Lib.hid h2
      clear h1 h2 e hs0
      go_enter Try.func17, Try.ntmps17
      go_wp2_with fail
      refine (within_b _ _ _ _ _ H1.out).mono ?_
      rintro e w' ⟨rfl, rfl⟩
      go_wp2_with fail
      refine (allIn _ _ _ _ _ _ _ HY.out).mono ?_
      rw [H2.out]
      rintro e w2 ⟨rfl, hb2⟩
      go_wp2_with fail
      go_ret
      exact ⟨rfl, bgo hb0 hb2⟩
    · cases h3 : vcF xs m
      · have e : chF xs ys m = false := by unfold chF; rw [h1, h2, h3]; rfl
        rw [e]
        have H1 := Lib.hid h1
        have H2 := Lib.hid h2
        have H3 := Lib.hid h3
        clear h1 h2 h3 e
        go_enter Try.func17, Try.ntmps17
        go_wp2_with fail
        refine (within_b _ _ _ _ _ H1.out).mono ?_
        rintro e w' ⟨rfl, rfl⟩
        go_wp2_with fail
        refine (allIn _ _ _ _ _ _ _ HY.out).mono ?_
        rw [H2.out]
        rintro e w2 ⟨rfl, hb2⟩
        have hcell2 := (hb2.cell (p := ⟨w.heap.size, 0, none⟩) hs0).trans hcell
        clear hcell hs0
        go_wp2_with fail
        refine (iValidClause _ _ _ _ _ _ (HL.out.on hb2)).mono ?_
        rw [H3.out]
        rintro e w3 ⟨rfl, hb3⟩
        go_wp2_with fail
        go_ret
        exact ⟨rfl, bgo (bgo hb0 hb2) hb3⟩
      · have e : chF xs ys m = xs.any (litH ys) := by unfold chF; rw [h1, h2, h3]; rfl
        rw [e]
        have hvs := vcF_vals h3
        have H1 := Lib.hid h1
        have H2 := Lib.hid h2
        have H3 := Lib.hid h3
        have HV := Lib.hid hvs
        clear h1 h2 h3 e hvs
        go_enter Try.func17, Try.ntmps17
        go_wp2_with fail
        refine (within_b _ _ _ _ _ H1.out).mono ?_
        rintro e w' ⟨rfl, rfl⟩
        go_wp2_with fail
        refine (allIn _ _ _ _ _ _ _ HY.out).mono ?_
        rw [H2.out]
        rintro e w2 ⟨rfl, hb2⟩
        have hcell2 := (hb2.cell (p := ⟨w.heap.size, 0, none⟩) hs0).trans hcell
        go_wp2_with fail
        refine (iValidClause _ _ _ _ _ _ (HL.out.on hb2)).mono ?_
        rw [H3.out]
        rintro e w3 ⟨rfl, hb3⟩
        have hb4 := bgo hb2 hb3
        have hcell3 := (hb4.cell (p := ⟨w.heap.size, 0, none⟩) hs0).trans hcell
        have hs3 := hb4.size
        clear hcell hcell2
        go_wp2_with fail
        refine (containsFuncLit _ _ _ xs 38 _ (litH ys) _ (enters_of Try.func38 (by kernel_rfl) rfl) (HL.out.on hb4) (fun k x W hx hW => ?_)).mono ?_
        · have hv := HV.out x (List.mem_of_getElem? hx)
          exact iClauseHoldsC x B m d ys _ W (by have := hW.size; omega) ((HY.out.on hb4).on hW) ((hW.cell (p := ⟨w.heap.size, 0, none⟩) (by show w.heap.size < _; omega)).trans hcell3) hv.1 hv.2.1 hv.2.2.1 hv.2.2.2 H2.out
        · rintro e w5 ⟨rfl, hb5⟩
          go_wp2_with fail
          go_ret
          exact ⟨rfl, bgo (bgo hb0 hb4) hb5⟩
end Go.Proofs.Ytjkgndedffildaa
