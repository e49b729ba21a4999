/- The size and the values of a domain. -/
import Derived.Test.YtfmdgdamelkelaaInts
import Derived.Maps.AppendAt
namespace Go.Proofs.Ytfmdgdamelkelaa
open Go.ChangeShapes Go.WideShapes Go.ChangeAt Go.RowKit
open Go.Shelf
set_option linter.unusedVariables false
set_option maxRecDepth 100000

set_option maxRecDepth 100000 in
theorem onesCount64 (n : Fin 64) (w : World) : Calls Try.prog 129 #[.int .u64 (n.val : Int)] w fun e w' => e = .returned (.int .i64 (szD n.val)) ∧ w = w' := by
  have h0 : (0 : Int) ≤ (n.val : Int) := by omega
  have h1 : (n.val : Int) ≤ 63 := by omega
  go_enter Try.func129, Try.ntmps129
  go_wp2
  go_ret
  refine ⟨ret_int ?_, rfl⟩
  clear h0 h1
  revert n
  decide +kernel
theorem onesCount (n : Fin 64) (w : World) : Calls Try.prog 109 #[.int .u64 (n.val : Int)] w fun e w' => e = .returned (.int .i64 (szD n.val)) ∧ w = w' := by
  go_enter Try.func109, Try.ntmps109
  go_wp2_with (go_at_call 129; refine (onesCount64 _ _).mono ?_; rintro e w' ⟨rfl, rfl⟩)
  go_ret
  exact ⟨rfl, rfl⟩
theorem isize (n : Fin 64) (w : World) : Calls Try.prog 66 #[.int .i64 (n.val : Int)] w fun e w' => e = .returned (.int .i64 (szD n.val)) ∧ w = w' := by
  have h0 : (0 : Int) ≤ (n.val : Int) := by omega
  have h1 : (n.val : Int) ≤ 63 := by omega
  go_enter Try.func66, Try.ntmps66
  go_wp2_with (go_at_call 109; refine (onesCount _ _).mono ?_; rintro e w' ⟨rfl, rfl⟩)
  go_ret
  exact ⟨rfl, rfl⟩
theorem valuesOf (y : Fin 64) (w : World) :
    Calls Try.prog 100 #[.int .i64 (y.val : Int)] w fun e w' => ∃ v, e = .returned v ∧ w'.ownsRow w.heap.size 3 1 v (valsTo y.val 6).length ((valsTo y.val 6).map (.int .i64)) ∧ Below w.heap.size w w' := by
  obtain ⟨i0, hi0, hz0, hz1, hz2⟩ := info_parts info_int
  have hy0 : (0 : Int) ≤ (y.val : Int) := by omega
  have hy1 : (y.val : Int) ≤ 63 := by omega
  have hs : szD y.val = ((valsTo y.val 6).length : Int) := rfl
  have hs6 := valsTo_len (y.val : Int) 6
  have HS := Lib.hid hs
  clear hs
  go_enter Try.func100, Try.ntmps100
  go_wp2_with fail
  refine (onesCount _ _).mono ?_
  rw [HS.out]
  rintro e w1 ⟨rfl, rfl⟩
  go_wp2_with (refine wpList_make_own _ rfl (.const (.int .i64 0)) (.tmp 7) _ rfl w.heap.size 3 i0 _ 1 Try.underlying22 hi0 hz0 hz1 .i64 .i64 _ (valsTo y.val 6).length rfl rfl rfl (by rw [hz2]; omega) (by unfold maxLen; omega) (Nat.le_refl _) ?_; intro w1 ho hgr)
  have hb0 : Below w.heap.size w w1 := (Below.refl _ _).grown hgr (Nat.le_refl _) (by simp)
  clear hgr
  obtain ⟨x, hx⟩ : ∃ x : Int, x = (y.val : Int) := ⟨_, rfl⟩
  rw [← hx] at ho hs6 HS ⊢
  rw [← hx] at hy0 hy1
  have HX := Lib.hid hx
  clear hx
  go_loopw [3, 9] (fun v i wr => ∃ (k : Nat) (v' : Value), k ≤ 6 ∧ i = .int .i64 k ∧ v' = v ∧ Hid (wr.ownsRow w.heap.size 3 1 v' (valsTo x k).length ((valsTo x k).map (.int .i64))) ∧ Below w.heap.size w wr) (fun _ i _ => 6 - (intOf i).toNat)
  case atStart => exact ⟨0, _, by omega, rfl, rfl, ho, hb0⟩
  case round =>
    obtain ⟨k, v, hk, rfl, rfl, hq, hb⟩ := hrel
    clear ho hb0
    have hlen := valsTo_len x k
    by_cases hlt : k < 6
    · cases hh : hasB x k
      · have he : valsTo x (k + 1) = valsTo x k := by rw [valsTo, hh]; simp
        have HE := Lib.hid he
        have HH := Lib.hid hh
        clear he hh
        go_wp2_with fail
        refine (ihas _ _ hy0 (by omega) (by omega) _).mono ?_
        rw [HH.out]
        rintro e w1 ⟨rfl, rfl⟩
        go_wp2_with fail
        go_roundw
        case rel => exact ⟨k + 1, v, by omega, by go_num, rfl, by rw [HE.out]; exact hq, hb⟩
        case measure => simp [intOf]; omega
      · have he : valsTo x (k + 1) = valsTo x k ++ [(k : Int)] := by rw [valsTo, hh]; simp
        have HE := Lib.hid he
        have HH := Lib.hid hh
        clear he hh
        go_wp2_with fail
        refine (ihas _ _ hy0 (by omega) (by omega) _).mono ?_
        rw [HH.out]
        rintro e w1 ⟨rfl, rfl⟩
        go_wp2_with (at_builtin; refine wpList_append_own _ rfl _ _ 22 rfl w.heap.size 3 i0 _ 1 8 Try.underlying22 hi0 hz0 hz1 hz2 rfl (by decide) v _ _ rfl (hq.out.alloc _) ⟨wr.heap.size, 0, none⟩ 1 1 [.int .i64 k] rfl rfl (cell_one_new _ _ _) (by simp [Value.oneCell']) (by unfold maxLen; omega) (by omega) (by rw [size_alloc_]; have := hb.size; omega) ?_; intro v1 w1 hown hgr _)
        have hr1 := hq.out.lt
        have hb1 : Below w.heap.size w w1 := (hb.alloc hb.size _).grown hgr (by rw [size_alloc_]; have := hb.size; omega) (fun g hg => (hr1 g hg).1)
        have hown2 : w1.ownsRow w.heap.size 3 1 v1 (valsTo x (k + 1)).length ((valsTo x (k + 1)).map (.int .i64)) := by rw [HE.out]; simpa using hown
        clear hown hgr
        go_roundw
        case rel => exact ⟨k + 1, v1, by omega, by go_num, rfl, hown2, hb1⟩
        case measure => simp [intOf]; omega
    · obtain rfl : k = 6 := by omega
      go_wp2_with fail
      go_ret
      exact ⟨_, rfl, by rw [← HX.out]; exact hq.out, hb⟩
theorem iDomainSize (d : Int) (w : World) : Calls Try.prog 28 #[.int .i64 d] w fun e w' => e = .returned (.int .i64 (dsF d)) ∧ Below w.heap.size w w' := by
  cases hd : vdB d
  · have e : dsF d = -1 := by simp [dsF, hd]
    rw [e]
    have HD := Lib.hid hd
    clear hd e
    go_enter Try.func28, Try.ntmps28
    go_wp2_with fail
    refine (iValidDomain _ _).mono ?_
    rw [HD.out]
    rintro e w1 ⟨rfl, rfl⟩
    go_wp2_with fail
    go_ret
    exact ⟨rfl, Below.refl _ _⟩
  · have e : dsF d = szD d := by simp [dsF, hd]
    rw [e]
    obtain ⟨y, rfl⟩ := vdB_fin hd
    have HD := Lib.hid hd
    clear hd e
    go_enter Try.func28, Try.ntmps28
    go_wp2_with fail
    refine (iValidDomain _ _).mono ?_
    rw [HD.out]
    rintro e w1 ⟨rfl, rfl⟩
    go_wp2_with fail
    refine (isize _ _).mono ?_
    rintro e w1 ⟨rfl, rfl⟩
    go_wp2_with fail
    go_ret
    exact ⟨rfl, Below.refl _ _⟩
end Go.Proofs.Ytfmdgdamelkelaa
