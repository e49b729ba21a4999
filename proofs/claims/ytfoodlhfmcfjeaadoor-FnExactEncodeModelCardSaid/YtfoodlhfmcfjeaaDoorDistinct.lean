/- 'No number is there twice', by the reference and by the program. -/
import Derived.Test.YtfoodlhfmcfjeaaDoorConP
namespace Go.Proofs.YtfoodlhfmcfjeaaDoor
open Go.ChangeShapes Go.WideShapes Go.ChangeAt Go.RowKit
open Go.Shelf
set_option linter.unusedVariables false
set_option maxRecDepth 100000

theorem SlR.first {α : Type} {R : World → Nat → Value → α → Prop} {w : World} {B n : Nat} {A : Option Addr} {xs : List α} (h : SlR R w B A n xs) (k : Nat) (hk : k ≤ n) : SlR R w B A k (xs.take k) :=
  ⟨by rw [List.length_take, h.1]; omega, by have := h.2.1; omega, fun hk0 => by
    obtain ⟨b, o, e, hb, hc⟩ := h.2.2 (by omega)
    refine ⟨b, o, e, hb, fun i x hx => hc i x ?_⟩
    rw [List.getElem?_take] at hx
    split at hx
    · exact hx
    · cases hx⟩
theorem indexInt_ (A : Option Addr) (n c : Nat) (xs : List Int) (v : Int) (w : World) (h : IntR w w.heap.size A n xs) :
    Calls Tryd.prog 67 #[.slice A n c, .int .i64 v] w fun e w' => ∃ j : Int, e = .returned (.int .i64 j) ∧ decide (0 ≤ j) = decide (v ∈ xs) ∧ Below w.heap.size w w' := by
  have hn := h.le
  have hl := Lib.hid h.len
  go_enter Tryd.func67, Tryd.ntmps67
  go_wp2_with fail
  go_loopw [8] (fun i wr => ∃ k : Nat, k ≤ n ∧ i = .int .i64 k ∧ Hid (AllB (fun x => !(v == x)) xs k) ∧ Below w.heap.size w wr) (fun i _ => n - (intOf i).toNat)
  case atStart => exact ⟨0, by omega, rfl, AllB.zero _ _, Below.refl _ _⟩
  case round =>
    obtain ⟨k, hk, rfl, hq, hb⟩ := hrel
    by_cases hlt : k < n
    · obtain ⟨ab, ao, x, rfl, hab, hxk, hcx⟩ := IntR.at_ (h.below IntC.keeps hb) hlt
      have HX := Lib.hid hxk
      clear hxk
      cases he : (v == x)
      · have HE := Lib.hid he
        go_wp2_with fail
        go_roundw
        case rel => exact ⟨k + 1, by omega, by go_num, AllB.succ hq.out HX.out (by simp only [HE.out]; rfl), hb⟩
        case measure => simp [intOf]; omega
      · have HE := Lib.hid he
        go_wp2_with fail
        go_ret
        refine ⟨k, rfl, ?_, hb⟩
        have hm : v ∈ xs := by rw [beq_iff_eq.1 HE.out]; exact List.mem_of_getElem? HX.out
        rw [decide_eq_true hm]
        simp
    · obtain rfl : k = n := by omega
      go_wp2_with fail
      go_ret
      refine ⟨-1, rfl, ?_, hb⟩
      have := AllB.done hq.out (Nat.le_of_eq hl.out)
      have h2 : ¬ v ∈ xs := fun hm => by
        rw [List.all_eq_true] at this
        have := this v hm
        simp at this
      rw [decide_eq_false h2]
      decide
theorem containsInt (A : Option Addr) (n c : Nat) (xs : List Int) (v : Int) (w : World) (h : IntR w w.heap.size A n xs) :
    Calls Tryd.prog 61 #[.slice A n c, .int .i64 v] w fun e w' => e = .returned (.bool (decide (v ∈ xs))) ∧ Below w.heap.size w w' := by
  go_enter Tryd.func61, Tryd.ntmps61
  go_wp2_with fail
  refine (indexInt_ A n c xs v _ h).mono ?_
  rintro e w1 ⟨j, rfl, hj, hb⟩
  have HJ := Lib.hid hj
  clear hj
  go_wp2_with fail
  go_ret
  exact ⟨ret_bool HJ.out, hb⟩
set_option maxHeartbeats 4000000 in
theorem idistinct (A : Option Addr) (n c : Nat) (xs : List Int) (w : World) (hc : n ≤ c) (h : IntR w w.heap.size A n xs) :
    Calls Tryd.prog 52 #[.slice A n c] w fun e w' => e = .returned (.bool (disF xs)) ∧ Below w.heap.size w w' := by
  have hn := h.le
  have hl := Lib.hid h.len
  have hnc : (n : Int) ≤ (c : Int) := by omega
  go_enter Tryd.func52, Tryd.ntmps52
  go_wp2_with fail
  go_loopw [7] (fun i wr => ∃ k : Nat, k ≤ n ∧ i = .int .i64 k ∧ Hid (UpTo (disAt xs) k) ∧ Below w.heap.size w wr) (fun i _ => n - (intOf i).toNat)
  case atStart => exact ⟨0, by omega, rfl, UpTo.zero _, Below.refl _ _⟩
  case round =>
    obtain ⟨k, hk, rfl, hq, hb⟩ := hrel
    by_cases hlt : k < n
    · obtain ⟨ab, ao, x, rfl, hab, hxk, hcx⟩ := IntR.at_ (h.below IntC.keeps hb) hlt
      have hda := disAt_eq hxk
      have HDA := Lib.hid hda
      have hkc : (k : Int) ≤ (c : Int) := by omega
      have hk0 : (0 : Int) ≤ (k : Int) := by omega
      have HF := Lib.hid (SlR.first (SlR.on IntC.keeps IntC.widens h hb) k hk)
      clear hxk hda
      go_wp2_with fail
      refine (containsInt _ _ _ _ _ _ HF.out).mono ?_
      rintro e w1 ⟨rfl, hb1⟩
      cases hc2 : decide (x ∈ xs.take k)
      · have HC2 := Lib.hid hc2
        clear hc2
        go_wp2_with fail
        go_roundw
        case rel => exact ⟨k + 1, by omega, by go_num, UpTo.succ hq.out (by rw [HDA.out, HC2.out]; rfl), bgo hb hb1⟩
        case measure => simp [intOf]; omega
      · have HC2 := Lib.hid hc2
        clear hc2
        go_wp2_with fail
        go_ret
        exact ⟨ret_bool (disF_no (by rw [hl.out]; exact hlt) (by rw [HDA.out, HC2.out]; rfl)).symm, bgo hb hb1⟩
    · obtain rfl : k = n := by omega
      go_wp2_with fail
      go_ret
      exact ⟨ret_bool (disF_yes hl.out hq.out).symm, hb⟩
set_option maxHeartbeats 4000000 in
theorem sdistinct (A : Option Addr) (n c : Nat) (xs : List Int) (w : World) (h : IntR w w.heap.size A n xs) :
    Calls Tryd.prog 42 #[.slice A n c] w fun e w' => e = .returned (.bool (disF xs)) ∧ Below w.heap.size w w' := by
  have hn := h.le
  have hl := Lib.hid h.len
  go_enter Tryd.func42, Tryd.ntmps42
  go_wp2_with fail
  go_loopw [3] (fun i wr => ∃ k : Nat, k ≤ n ∧ i = .int .i64 k ∧ Hid (UpTo (disAt xs) k) ∧ Below w.heap.size w wr) (fun i _ => n - (intOf i).toNat)
  case atStart => exact ⟨0, by omega, rfl, UpTo.zero _, Below.refl _ _⟩
  case round =>
    obtain ⟨k, hk, rfl, hq, hb⟩ := hrel
    rename World => wo
    by_cases hlt : k < n
    · go_wp2_with fail
      go_loopw [4] (fun i wr => ∃ j : Nat, j ≤ k ∧ i = .int .i64 j ∧ Hid (∀ x, xs[k]? = some x → ¬ x ∈ xs.take j) ∧ Below wo.heap.size wo wr) (fun i _ => k - (intOf i).toNat)
      case atStart => exact ⟨0, by omega, rfl, Lib.hid (fun x _ => by simp), Below.refl _ _⟩
      case round =>
        obtain ⟨j, hj, rfl, hq2, hb2⟩ := hrel
        have hbb := bgo hb hb2
        by_cases hlt2 : j < k
        · obtain ⟨ab, ao, x, rfl, hab, hxk, hcx⟩ := IntR.at_ (h.below IntC.keeps hbb) hlt
          obtain ⟨bb, bo, y, e', hbb', hyk, hcy⟩ := IntR.at_ (k := j) (h.below IntC.keeps hbb) (by omega)
          injection e' with e'
          injection e' with e1 e2
          subst e1 e2
          have HX := Lib.hid hxk
          have HY := Lib.hid hyk
          clear hxk hyk
          cases he : (x == y)
          · have HE := Lib.hid he
            go_wp2_with fail
            try (go_quiet (fail))
            try (go_wp2_with fail)
            go_roundw
            case rel =>
              refine ⟨j + 1, by omega, by go_num, Lib.hid (fun z hz => ?_), by first | exact hb2 | exact below_drewN hb2 _⟩
              have hzx : z = x := by rw [HX.out] at hz; injection hz with hz; exact hz.symm
              subst hzx
              rw [List.take_add_one, HY.out]
              intro hm
              rcases List.mem_append.1 hm with h1 | h1
              · exact hq2.out z hz h1
              · have : z = y := by simpa using h1
                subst this
                have := HE.out
                simp at this
            case measure => simp [intOf]; omega
          · have HE := Lib.hid he
            go_wp2_with fail
            try (go_quiet (fail))
            try (go_wp2_with fail)
            go_ret
            refine ⟨ret_bool ?_, by first | exact hbb | exact below_drewN hbb _⟩
            have : disAt xs k = false := by
              rw [disAt_eq HX.out, beq_iff_eq.1 HE.out]
              have : y ∈ xs.take k := List.mem_iff_getElem?.2 ⟨j, by rw [List.getElem?_take, if_pos hlt2]; exact HY.out⟩
              simp [this]
            exact (disF_no (by rw [hl.out]; exact hlt) this).symm
        · obtain rfl : j = k := by omega
          go_wp2_with fail
          go_roundw
          case rel =>
            refine ⟨j + 1, by omega, by go_num, UpTo.succ hq.out ?_, hbb⟩
            obtain ⟨x, hx⟩ : ∃ x, xs[j]? = some x := ⟨_, List.getElem?_eq_getElem (by rw [hl.out]; exact hlt)⟩
            rw [disAt_eq hx]
            simp [hq2.out x hx]
          case measure => simp [intOf]; omega
    · obtain rfl : k = n := by omega
      go_wp2_with fail
      go_ret
      exact ⟨ret_bool (disF_yes hl.out hq.out).symm, hb⟩
end Go.Proofs.YtfoodlhfmcfjeaaDoor
