/- Functions over slices of ints return what plain Lean functions say; the copies lie in memory of the call's own. -/
import Derived.Test.YtfoodlhfmcfjeaaDoorMem
import Derived.Test.YtfoodlhfmcfjeaaDoorDom
import Derived.BigQuiet
import Derived.Deep.QuietTactic
import Derived.OwnWalk
import Derived.Shelf.Abstract
import Derived.Outline
namespace Go.Proofs.YtfoodlhfmcfjeaaDoor
open Go.ChangeShapes Go.WideShapes Go.ChangeAt Go.RowKit
open Go.Shelf
set_option linter.unusedVariables false
set_option maxRecDepth 100000

theorem info_int : (Tryd.prog.info? 3).map (fun i => (i.zero, i.size, i.bytes)) = some (some (.int .i64 0), 1, 8) := by kernel_rfl

theorem toIntS (A : Option Addr) (n c : Nat) (xs : List Int) (w : World) (h : IntA w w.heap.size A n xs) (hn : n ≤ 1048576) :
    Calls Tryd.prog 13 #[.slice A n c] w fun e w' => ∃ v, e = .returned v ∧ w'.ownsRow w.heap.size 3 1 v n (xs.map (.int .i64)) ∧ Below w.heap.size w w' := by
  obtain ⟨i0, hi0, hz0, hz1, hz2⟩ := info_parts info_int
  go_enter Tryd.func13, Tryd.ntmps13
  go_wp2_with (refine wpList_make_full _ rfl (.tmp 6) (.tmp 6) _ rfl w.heap.size 3 i0 _ 1 Tryd.underlying22 hi0 hz0 hz1 .i64 .i64 n n n rfl rfl rfl rfl (by rw [hz2]; omega) (by unfold maxLen; omega) (Nat.le_refl _) ?_; intro w1 hown hgr)
  have hb1 : Below w.heap.size w w1 := (Below.refl _ _).grown hgr (Nat.le_refl _) (by simp)
  have hsz : w.heap.size < w1.heap.size := (hown.lt _ rfl).2
  have hlen := Lib.hid h.len
  have hown' : w1.ownsRow w.heap.size 3 1 (.slice (some ⟨w.heap.size, 0, none⟩) n n) n (fillTo (.int .i64) (.int .i64 0) xs n 0) := by
    rw [fillTo_zero]
    have e : (madeCells (Value.int IntKind.i64 0).cells (n * 1)).toList = List.replicate n (.int .i64 0) := by rw [Nat.mul_one]; exact toList_madeCells_one _ _
    rw [← e]; exact hown
  clear hown hgr
  go_loopw [4] (fun i wr => ∃ k : Nat, k ≤ n ∧ i = .int .i64 k ∧ Hid (wr.ownsRow w.heap.size 3 1 (.slice (some ⟨w.heap.size, 0, none⟩) n n) n (fillTo (.int .i64) (.int .i64 0) xs n k)) ∧ Below w.heap.size w wr) (fun i _ => n - (intOf i).toNat)
  case atStart => exact ⟨0, by omega, rfl, hown', hb1⟩
  case round =>
    obtain ⟨k, hk, rfl, hq, hb⟩ := hrel
    clear hown' hb1
    by_cases hlt : k < n
    · obtain ⟨ad, x, rfl, hab, hxk, hcx⟩ := IntA.at_ (h.below IntC.keeps hb) hlt
      have HX := Lib.hid hxk
      clear hxk
      have hco := hq.out.cellAt k (by omega)
      rw [fillTo_at _ _ hlen.out hlt] at hco
      have hfo := hq.out.frozenAt k
      go_wp2_with fail
      go_roundw
      case rel => exact ⟨k + 1, by omega, by go_num, by have := (hq.out.stored k (.int .i64 x)).1; rw [fillTo_set _ _ hlen.out HX.out] at this; exact this, hb.setCell (by simp) _⟩
      case measure => simp [intOf]; omega
    · obtain rfl : k = n := by omega
      go_wp2_with fail
      go_ret
      exact ⟨_, rfl, by rw [← fillTo_done (.int .i64) (.int .i64 0) hlen.out]; exact hq.out, hb⟩
theorem eqIntS (A B : Option Addr) (n m c d : Nat) (xs ys : List Int) (w : World) (hx : IntR w w.heap.size A n xs) (hy : IntR w w.heap.size B m ys) :
    Calls Tryd.prog 20 #[.slice A n c, .slice B m d] w fun e w' => e = .returned (.bool (decide (xs = ys))) ∧ Below w.heap.size w w' := by
  have hn := hx.le
  have hm := hy.le
  have hlx := Lib.hid hx.len
  have hly := Lib.hid hy.len
  by_cases hnm : n = m
  · subst hnm
    have hne : ((n : Int) != (n : Int)) = false := by simp
    go_enter Tryd.func20, Tryd.ntmps20
    go_wp2_with fail
    go_loopw [5] (fun i wr => ∃ k : Nat, k ≤ n ∧ i = .int .i64 k ∧ Hid (EqB xs ys k) ∧ Below w.heap.size w wr) (fun i _ => n - (intOf i).toNat)
    case atStart => exact ⟨0, by omega, rfl, EqB.zero _ _, Below.refl _ _⟩
    case round =>
      obtain ⟨k, hk, rfl, hq, hb⟩ := hrel
      by_cases hlt : k < n
      · obtain ⟨ab, ao, x, rfl, hab, hxk, hcx⟩ := IntR.at_ (hx.below IntC.keeps hb) hlt
        obtain ⟨bb, bo, y, rfl, hbb, hyk, hcy⟩ := IntR.at_ (hy.below IntC.keeps hb) hlt
        have HX := Lib.hid hxk
        have HY := Lib.hid hyk
        clear hxk hyk
        by_cases hxy : x = y
        · subst hxy
          have hne2 : (x != x) = false := by simp
          go_wp2_with fail
          go_quiet (fail)
          go_wp2_with fail
          go_roundw
          case rel => exact ⟨k + 1, by omega, by go_num, EqB.succ hq.out (by rw [HX.out, HY.out]), below_drewN hb _⟩
          case measure => simp [intOf]; omega
        · have hne2 : (x != y) = true := by simpa using hxy
          have HN := Lib.hid hxy
          clear hxy
          go_wp2_with fail
          go_quiet (fail)
          go_wp2_with fail
          go_ret
          exact ⟨ret_bool (decide_eq_false (ne_of_at HX.out HY.out HN.out)).symm, below_drewN hb _⟩
      · obtain rfl : k = n := by omega
        go_wp2_with fail
        go_ret
        exact ⟨ret_bool (decide_eq_true (EqB.done hq.out hlx.out hly.out)).symm, hb⟩
  · have hne : ((n : Int) != (m : Int)) = true := by simp; omega
    have HN := Lib.hid hnm
    clear hnm
    go_enter Tryd.func20, Tryd.ntmps20
    go_wp2_with fail
    go_ret
    exact ⟨ret_bool (decide_eq_false (fun h => HN.out (by rw [← hlx.out, ← hly.out, h]))).symm, Below.refl _ _⟩
theorem indexInt (A : Option Addr) (n c : Nat) (xs : List Int) (g : Nat) (lb : Array Value) (p : Int → Bool) (w : World) (eg : ∀ args w, (callFunc g args).run Tryd.prog w = .ok (.enter g args) w)
    (h : IntR w w.heap.size A n xs) (hp : ∀ (k : Nat) x W, xs[k]? = some x → Below w.heap.size w W → Calls Tryd.prog g (#[.int .i64 x] ++ lb) W fun e W' => e = .returned (.bool (p x)) ∧ Below W.heap.size W W') :
    Calls Tryd.prog 66 #[.slice A n c, .func (.func g) #[] lb] w fun e w' => ∃ j : Int, e = .returned (.int .i64 j) ∧ decide (0 ≤ j) = xs.any p ∧ Below w.heap.size w w' := by
  have hn := h.le
  have hl := Lib.hid h.len
  have HP := Lib.hid hp
  clear hp
  go_enter Tryd.func66, Tryd.ntmps66
  go_wp2_with fail
  go_loopw [8] (fun i wr => ∃ k : Nat, k ≤ n ∧ i = .int .i64 k ∧ Hid (AllB (fun x => !p x) xs k) ∧ Below w.heap.size w wr) (fun i _ => n - (intOf i).toNat)
  case atStart => exact ⟨0, by omega, rfl, AllB.zero _ _, Below.refl _ _⟩
  case round =>
    obtain ⟨k, hk, rfl, hq, hb⟩ := hrel
    by_cases hlt : k < n
    · obtain ⟨ab, ao, x, rfl, hab, hxk, hcx⟩ := IntR.at_ (h.below IntC.keeps hb) hlt
      have HX := Lib.hid hxk
      clear hxk
      cases hpx : p x
      · have HF := Lib.hid hpx
        clear hpx
        go_wp2_with fail
        refine (HP.out k x _ HX.out hb).mono ?_
        rw [HF.out]
        rintro e w1 ⟨rfl, hb1⟩
        go_wp2_with fail
        go_roundw
        case rel => exact ⟨k + 1, by omega, by go_num, AllB.succ hq.out HX.out (by simp [HF.out]), bgo hb hb1⟩
        case measure => simp [intOf]; omega
      · have HF := Lib.hid hpx
        clear hpx
        go_wp2_with fail
        refine (HP.out k x _ HX.out hb).mono ?_
        rw [HF.out]
        rintro e w1 ⟨rfl, hb1⟩
        go_wp2_with fail
        go_ret
        refine ⟨k, rfl, ?_, bgo hb hb1⟩
        have : xs.any p = true := List.any_eq_true.2 ⟨x, List.mem_of_getElem? HX.out, HF.out⟩
        rw [this]
        simp
    · obtain rfl : k = n := by omega
      go_wp2_with fail
      go_ret
      refine ⟨-1, rfl, ?_, hb⟩
      have := AllB.done hq.out (Nat.le_of_eq hl.out)
      rw [List.all_eq_not_any_not] at this
      simp only [Bool.not_not] at this
      have h2 : xs.any p = false := by simpa using this
      rw [h2]
      decide
theorem containsFuncInt (A : Option Addr) (n c : Nat) (xs : List Int) (g : Nat) (lb : Array Value) (p : Int → Bool) (w : World) (eg : ∀ args w, (callFunc g args).run Tryd.prog w = .ok (.enter g args) w)
    (h : IntR w w.heap.size A n xs) (hp : ∀ (k : Nat) x W, xs[k]? = some x → Below w.heap.size w W → Calls Tryd.prog g (#[.int .i64 x] ++ lb) W fun e W' => e = .returned (.bool (p x)) ∧ Below W.heap.size W W') :
    Calls Tryd.prog 59 #[.slice A n c, .func (.func g) #[] lb] w fun e w' => e = .returned (.bool (xs.any p)) ∧ Below w.heap.size w w' := by
  have HP := Lib.hid hp
  have HE := Lib.hid eg
  clear hp eg
  go_enter Tryd.func59, Tryd.ntmps59
  go_wp2_with fail
  refine (indexInt A n c xs g lb p w HE.out h HP.out).mono ?_
  rintro e w1 ⟨j, rfl, hj, hb⟩
  have HJ := Lib.hid hj
  clear hj
  go_wp2_with fail
  go_ret
  exact ⟨ret_bool HJ.out, hb⟩
theorem allInC (x lo hi : Int) (b1 b2 : Nat) (w : World) (h1 : w.cell? ⟨b1, 0, none⟩ = some (.int .i64 lo)) (h2 : w.cell? ⟨b2, 0, none⟩ = some (.int .i64 hi)) :
    Calls Tryd.prog 60 (#[.int .i64 x] ++ #[.pointer (some ⟨b1, 0, none⟩), .pointer (some ⟨b2, 0, none⟩)]) w fun e w' => e = .returned (.bool (!inB x lo hi)) ∧ w = w' := by
  go_enter Tryd.func60, Tryd.ntmps60
  go_wp2_with (go_at_call 49; refine (within _ _ _ _).mono ?_; rintro e w' ⟨rfl, rfl⟩)
  go_ret
  exact ⟨rfl, rfl⟩
theorem allIn (A : Option Addr) (n c : Nat) (xs : List Int) (lo hi : Int) (w : World) (h : IntR w w.heap.size A n xs) :
    Calls Tryd.prog 50 #[.slice A n c, .int .i64 lo, .int .i64 hi] w fun e w' => e = .returned (.bool (xs.all fun x => inB x lo hi)) ∧ Below w.heap.size w w' := by
  go_enter Tryd.func50, Tryd.ntmps50
  go_wp2_with fail
  have hb : Below w.heap.size w ((w.alloc (.cells #[.int .i64 lo] 3)).alloc (.cells #[.int .i64 hi] 3)) := b_alloc2 _ _ _
  have HA := Lib.hid (h.on hb)
  have hc1 : ((w.alloc (.cells #[.int .i64 lo] 3)).alloc (.cells #[.int .i64 hi] 3)).cell? ⟨w.heap.size, 0, none⟩ = some (.int .i64 lo) := by rw [World.cell?_alloc_past _ _ _ (by rw [size_alloc_]; omega), World.cell?_alloc_at _ _ _ _ rfl]; rfl
  have hc2 : ((w.alloc (.cells #[.int .i64 lo] 3)).alloc (.cells #[.int .i64 hi] 3)).cell? ⟨w.heap.size + 1, 0, none⟩ = some (.int .i64 hi) := by rw [World.cell?_alloc_at _ _ _ _ (size_alloc_ _ _).symm]; rfl
  refine (containsFuncInt A n c xs 60 _ (fun x => !inB x lo hi) _ (enters_of Tryd.func60 (by kernel_rfl) rfl) HA.out (fun k x W _ hW => ((allInC x lo hi _ _ W ((hW.cell (p := ⟨_, _, none⟩) (by rw [size_alloc_, size_alloc_]; show w.heap.size < _; omega)).trans hc1) ((hW.cell (p := ⟨_, _, none⟩) (by rw [size_alloc_, size_alloc_]; show w.heap.size + 1 < _; omega)).trans hc2)).mono ?_))).mono ?_
  · rintro e w' ⟨rfl, rfl⟩
    exact ⟨rfl, Below.refl _ _⟩
  · rintro e w' ⟨rfl, hb2⟩
    have e1 : (!(xs.any fun x => !inB x lo hi)) = xs.all fun x => inB x lo hi := (List.all_eq_not_any_not).symm
    have HE := Lib.hid e1
    clear e1 hc1 hc2
    go_wp2_with fail
    go_ret
    exact ⟨ret_bool HE.out, bgo hb hb2⟩
theorem allInRange (A : Option Addr) (n c : Nat) (xs : List Int) (lo hi : Int) (w : World) (h : IntR w w.heap.size A n xs) :
    Calls Tryd.prog 41 #[.slice A n c, .int .i64 lo, .int .i64 hi] w fun e w' => e = .returned (.bool (xs.all fun x => inB x lo hi)) ∧ Below w.heap.size w w' := by
  have hn := h.le
  have hl := Lib.hid h.len
  go_enter Tryd.func41, Tryd.ntmps41
  go_wp2_with fail
  go_loopw [7] (fun i wr => ∃ k : Nat, k ≤ n ∧ i = .int .i64 k ∧ Hid (AllB (fun x => inB x lo hi) xs k) ∧ w = wr) (fun i _ => n - (intOf i).toNat)
  case atStart => exact ⟨0, by omega, rfl, AllB.zero _ _, rfl⟩
  case round =>
    obtain ⟨k, hk, rfl, hq, rfl⟩ := hrel
    by_cases hlt : k < n
    · obtain ⟨ab, ao, x, rfl, hab, hxk, hcx⟩ := IntR.at_ h hlt
      have HX := Lib.hid hxk
      clear hxk
      cases hpx : inB x lo hi
      · have HF := Lib.hid hpx
        clear hpx
        go_wp2_with fail
        refine (inRange _ _ _ _).mono ?_
        rw [HF.out]
        rintro e w1 ⟨rfl, rfl⟩
        go_wp2_with fail
        go_ret
        exact ⟨ret_bool (all_no (f := fun x => inB x lo hi) HX.out HF.out).symm, Below.refl _ _⟩
      · have HF := Lib.hid hpx
        clear hpx
        go_wp2_with fail
        refine (inRange _ _ _ _).mono ?_
        rw [HF.out]
        rintro e w1 ⟨rfl, rfl⟩
        go_wp2_with fail
        go_roundw
        case rel => exact ⟨k + 1, by omega, by go_num, AllB.succ hq.out HX.out HF.out, trivial⟩
        case measure => simp [intOf]; omega
    · obtain rfl : k = n := by omega
      go_wp2_with fail
      go_ret
      exact ⟨ret_bool (AllB.done hq.out (Nat.le_of_eq hl.out)).symm, Below.refl _ _⟩
end Go.Proofs.YtfoodlhfmcfjeaaDoor
