/- The bounds of a domain; the table that TrailingZeros reads. -/
import Derived.Test.YtamhmomonfcffaaDoorDvals
import Derived.Lib.BitFns
namespace Go.Proofs.YtamhmomonfcffaaDoor
open Go.ChangeShapes Go.WideShapes Go.ChangeAt Go.RowKit
open Go.Shelf
set_option linter.unusedVariables false
set_option maxRecDepth 100000

/-- the table of TrailingZeros64. -/
def dbTab : List Int := [0, 1, 56, 2, 57, 49, 28, 3, 61, 58, 42, 50, 38, 29, 17, 4, 62, 47, 59, 36, 45, 43, 51, 22, 53, 39, 33, 30, 24, 18, 12, 5, 63, 55, 48, 27, 60, 41, 37, 16, 46, 35, 44, 21, 52, 32, 23, 11, 54, 26, 40, 15, 34, 20, 31, 10, 25, 14, 19, 9, 13, 8, 7, 6]
/-- the least value of a domain. -/
def leastF (d : Int) : Int := match valsTo d 6 with | x :: _ => x | [] => -1
/-- the greatest value of a domain. -/
def mostF (d : Int) : Int := (valsTo d 6).getLast?.getD (-1)
theorem len8_get (y : Int) (h : y.toNat < Lib.len8tab.size) : ((Lib.len8tab[y.toNat]'h).toNat : Int) = Lib.len8 y := by
  unfold Lib.len8
  rw [getElem?_pos Lib.len8tab y.toNat h]
  rfl
set_option maxHeartbeats 4000000 in
theorem len64 (x : Int) (w : World) (h0 : 0 ≤ x) (h1 : x ≤ 63) : Calls Tryd.prog 38 #[.int .u64 x] w fun e w' => e = .returned (.int .i64 (Lib.bitLen x.toNat)) ∧ w = w' := by
  go_enter Tryd.func38, Tryd.ntmps38
  go_wp2
  go_ret
  refine ⟨ret_int ?_, rfl⟩
  rw [len8_get x, Lib.len8_of x (by omega) (by omega)]
  have hl := Lib.bitLen_le8' x (by omega) (by omega)
  unfold wrap64
  omega
theorem mostF_eq : ∀ n : Fin 64, 0 < n.val → (Lib.bitLen ((n.val : Int)).toNat : Int) = mostF n.val + 1 ∧ 0 ≤ mostF n.val ∧ mostF n.val ≤ 5 := by decide +kernel
theorem len (x : Int) (w : World) (h0 : 0 ≤ x) (h1 : x ≤ 63) : Calls Tryd.prog 28 #[.int .u64 x] w fun e w' => e = .returned (.int .i64 (Lib.bitLen x.toNat)) ∧ w = w' := by
  go_enter Tryd.func28, Tryd.ntmps28
  go_wp2_with (go_at_call 38; refine (len64 _ _ h0 h1).mono ?_; rintro e w' ⟨rfl, rfl⟩)
  go_ret
  exact ⟨rfl, rfl⟩
theorem imost (n : Fin 64) (h : 0 < n.val) (w : World) : Calls Tryd.prog 17 #[.int .i64 (n.val : Int)] w fun e w' => e = .returned (.int .i64 (mostF n.val)) ∧ w = w' := by
  obtain ⟨k0, k1, k2⟩ := mostF_eq n h
  have h0 : (0 : Int) ≤ (n.val : Int) := by omega
  have h1 : (n.val : Int) ≤ 63 := by omega
  generalize mostF (n.val : Int) = z at *
  generalize (n.val : Int) = x at *
  have K0 := Lib.hid k0
  have hy0 : (0 : Int) ≤ (Lib.bitLen x.toNat : Int) := by omega
  have hy1 : (Lib.bitLen x.toNat : Int) ≤ 6 := by omega
  clear k0
  go_enter Tryd.func17, Tryd.ntmps17
  go_wp2_with (go_at_call 28; refine (len _ _ h0 h1).mono ?_; rintro e w' ⟨rfl, rfl⟩)
  go_ret
  exact ⟨ret_int (by have := K0.out; omega), rfl⟩
/-- the place in the table. -/
def tzI (n : Int) : Int := IntKind.u64.wrap (bits BinOp.and IntKind.u64 n (IntKind.u64.wrap (-n)) * 285870213051353865) / 288230376151711744
theorem tzI_ok : ∀ n : Fin 64, 0 < n.val → 0 ≤ tzI (n.val : Int) ∧ tzI (n.val : Int) < 64 ∧ dbTab.getD (tzI (n.val : Int)).toNat 0 = leastF (n.val : Int) ∧ 0 ≤ leastF (n.val : Int) ∧ leastF (n.val : Int) ≤ 5 := by decide +kernel
/-- The table lies in the second global variable. -/
def TabW (w : World) : Prop := (∀ i, i < 64 → w.cell? ⟨1, i, none⟩ = some (.int .u8 (dbTab.getD i 0))) ∧ 1 < w.heap.size
theorem TabW.on {w w' : World} (h : TabW w) (hb : Below w.heap.size w w') : TabW w' := ⟨fun i hi => (hb.cell (p := ⟨1, i, none⟩) h.2).trans (h.1 i hi), Nat.lt_of_lt_of_le h.2 hb.size⟩
set_option maxHeartbeats 1000000 in
theorem tz64 (n : Fin 64) (h : (0 : Int) < (n.val : Int)) (w : World) (hw : TabW w) : Calls Tryd.prog 36 #[.int .u64 (n.val : Int)] w fun e w' => e = .returned (.int .i64 (leastF n.val)) ∧ w = w' := by
  have h0 : (0 : Int) ≤ (n.val : Int) := by omega
  have h1 : (n.val : Int) ≤ 63 := by omega
  obtain ⟨k0, k1, k2, k3, k4⟩ := tzI_ok n (by omega)
  have hc := hw.1 (tzI (n.val : Int)).toNat (by omega)
  rw [k2] at hc
  unfold tzI at k0 k1 hc
  clear k2
  generalize leastF (n.val : Int) = z at *
  go_enter Tryd.func36, Tryd.ntmps36
  go_wp2
  go_ret
  exact ⟨rfl, rfl⟩
theorem tz (n : Fin 64) (h : (0 : Int) < (n.val : Int)) (w : World) (hw : TabW w) : Calls Tryd.prog 27 #[.int .u64 (n.val : Int)] w fun e w' => e = .returned (.int .i64 (leastF n.val)) ∧ w = w' := by
  go_enter Tryd.func27, Tryd.ntmps27
  go_wp2_with (go_at_call 36; refine (tz64 _ h _ hw).mono ?_; rintro e w' ⟨rfl, rfl⟩)
  go_ret
  exact ⟨rfl, rfl⟩
theorem ileast (n : Fin 64) (h : (0 : Int) < (n.val : Int)) (w : World) (hw : TabW w) : Calls Tryd.prog 16 #[.int .i64 (n.val : Int)] w fun e w' => e = .returned (.int .i64 (leastF n.val)) ∧ w = w' := by
  have h0 : (0 : Int) ≤ (n.val : Int) := by omega
  have h1 : (n.val : Int) ≤ 63 := by omega
  go_enter Tryd.func16, Tryd.ntmps16
  go_wp2_with (go_at_call 27; refine (tz _ h _ hw).mono ?_; rintro e w' ⟨rfl, rfl⟩)
  go_ret
  exact ⟨rfl, rfl⟩
/-- the bounds of a domain: least and greatest value, or -1 and -1. -/
def dbF (d : Int) : Int × Int := if vdB d && !(d == 0) then (leastF d, mostF d) else (-1, -1)
theorem vals_ends : ∀ n : Fin 64, 0 < n.val → ∃ k : Fin 6, (valsTo n.val 6).length = k.val + 1 ∧ (valsTo n.val 6)[0]? = some (leastF n.val) ∧ (valsTo n.val 6)[k.val]? = some (mostF n.val) := by decide +kernel
theorem vals_none : valsTo 0 6 = [] := by decide +kernel
theorem iDomainBounds (d : Int) (w : World) (hw : TabW w) : Calls Tryd.prog 6 #[.int .i64 d] w fun e w' => e = .returned (.tuple #[.int .i64 (dbF d).1, .int .i64 (dbF d).2]) ∧ Below w.heap.size w w' := by
  cases hd : vdB d
  · have e : dbF d = (-1, -1) := by simp [dbF, hd]
    rw [e]
    have HD := Lib.hid hd
    clear hd e
    go_enter Tryd.func6, Tryd.ntmps6
    go_wp2_with fail
    refine (iValidDomain _ _).mono ?_
    rw [HD.out]
    rintro e w1 ⟨rfl, rfl⟩
    go_wp2_with fail
    go_ret2
    exact ⟨rfl, Below.refl _ _⟩
  · by_cases h0 : d = 0
    · subst h0
      have e : dbF 0 = (-1, -1) := by simp [dbF]
      rw [e]
      have HD := Lib.hid hd
      clear hd e
      go_enter Tryd.func6, Tryd.ntmps6
      go_wp2_with fail
      refine (iValidDomain _ _).mono ?_
      rw [HD.out]
      rintro e w1 ⟨rfl, rfl⟩
      go_wp2_with fail
      go_ret2
      exact ⟨rfl, Below.refl _ _⟩
    · have e : dbF d = (leastF d, mostF d) := by simp [dbF, hd, h0]
      rw [e]
      obtain ⟨y, rfl⟩ := vdB_fin hd
      have hy : (0 : Int) < (y.val : Int) := by omega
      have hn : ((y.val : Int) == 0) = false := by simpa using h0
      have HD := Lib.hid hd
      clear hd e h0
      go_enter Tryd.func6, Tryd.ntmps6
      go_wp2_with fail
      refine (iValidDomain _ _).mono ?_
      rw [HD.out]
      rintro e w1 ⟨rfl, rfl⟩
      go_wp2_with fail
      refine (ileast y hy _ hw).mono ?_
      rintro e w1 ⟨rfl, rfl⟩
      go_wp2_with fail
      refine (imost y (by omega) _).mono ?_
      rintro e w1 ⟨rfl, rfl⟩
      go_wp2_with fail
      go_ret2
      exact ⟨rfl, Below.refl _ _⟩
theorem sDomainBounds (d : Int) (w : World) : Calls Tryd.prog 5 #[.int .i64 d] w fun e w' => e = .returned (.tuple #[.int .i64 (dbF d).1, .int .i64 (dbF d).2]) ∧ Below w.heap.size w w' := by
  by_cases hd : vdB d = true ∧ d ≠ 0
  · have e : dbF d = (leastF d, mostF d) := by simp [dbF, hd.1, hd.2]
    have e2 : dvF d = valsTo d 6 := by simp [dvF, hd.1]
    rw [e]
    obtain ⟨y, rfl⟩ := vdB_fin hd.1
    have hy : 0 < y.val := by have := hd.2; omega
    obtain ⟨k, hk, hx0, hxk⟩ := vals_ends y hy
    have E2 := Lib.hid e2
    have HK := Lib.hid hk
    have HX0 := Lib.hid hx0
    have HXK := Lib.hid hxk
    obtain ⟨m, hm⟩ : ∃ m : Nat, m = k.val := ⟨_, rfl⟩
    have hm6 : m ≤ 5 := by omega
    have HM := Lib.hid hm
    clear hd e e2 hk hx0 hxk hm
    go_enter Tryd.func5, Tryd.ntmps5
    go_wp2_with fail
    refine (sDomainValues _ _).mono ?_
    rw [E2.out, HK.out, ← HM.out]
    rintro e w1 ⟨v, rfl, ho, hb⟩
    obtain ⟨A, c, rfl, hr, -⟩ := IntR.of_own ho (by omega)
    obtain ⟨bb, bo, x0, rfl, hbb, hx, hc0⟩ := IntR.at_ hr (k := 0) (by omega)
    rw [HX0.out] at hx
    injection hx with hx
    subst hx
    obtain ⟨bb', bo', x1, e1, hbb', hx, hc1⟩ := IntR.at_ hr (k := m) (by omega)
    injection e1 with e1
    injection e1 with e1 e3
    subst e1 e3
    rw [HM.out, HXK.out] at hx
    injection hx with hx
    subst hx
    rw [Nat.add_zero] at hc0
    clear ho hr
    go_wp2_with fail
    go_quiet (fail)
    go_wp2_with fail
    go_ret2
    exact ⟨rfl, below_drewN hb _⟩
  · have e : dbF d = (-1, -1) := by
      unfold dbF
      cases h1 : vdB d
      · rfl
      · have : d = 0 := by rw [h1] at hd; simpa using hd
        subst this; rfl
    have e2 : dvF d = [] := by
      unfold dvF
      cases h1 : vdB d
      · rfl
      · have : d = 0 := by rw [h1] at hd; simpa using hd
        subst this; exact vals_none
    rw [e]
    have E2 := Lib.hid e2
    clear hd e e2
    go_enter Tryd.func5, Tryd.ntmps5
    go_wp2_with fail
    refine (sDomainValues _ _).mono ?_
    rw [E2.out]
    rintro e w1 ⟨v, rfl, ho, hb⟩
    obtain ⟨A, c, rfl, hr, -⟩ := IntR.of_own (xs := []) ho (by simp)
    go_wp2_with fail
    go_ret2
    exact ⟨rfl, hb⟩
theorem lcontains (A : Option Addr) (n c : Nat) (xs : List Int) (v : Int) (w : World) (h : IntR w w.heap.size A n xs) :
    Calls Tryd.prog 14 #[.slice A n c, .int .i64 v] w fun e w' => e = .returned (.bool (decide (v ∈ xs))) ∧ w = w' := by
  have hn := h.le
  have hl := Lib.hid h.len
  go_enter Tryd.func14, Tryd.ntmps14
  go_wp2_with fail
  go_loop [5] (fun i => ∃ k : Nat, k ≤ n ∧ i = .int .i64 k ∧ Hid (AllB (fun y => !(y == v)) xs k)) (fun i => n - (intOf i).toNat)
  case atStart => exact ⟨0, by omega, rfl, AllB.zero _ _⟩
  case round =>
    obtain ⟨k, hk, rfl, hq⟩ := hrel
    by_cases hlt : k < n
    · obtain ⟨ab, ao, x, rfl, hab, hxk, hcx⟩ := IntR.at_ h hlt
      have HX := Lib.hid hxk
      clear hxk
      by_cases hxy : x = v
      · have he : (x == v) = true := by simpa using hxy
        have HY := Lib.hid hxy
        clear hxy
        go_wp2_with fail
        go_ret
        exact ⟨ret_bool (decide_eq_true (by rw [← HY.out]; exact List.mem_of_getElem? HX.out)).symm, rfl⟩
      · have he : (x == v) = false := by simpa using hxy
        have HY := Lib.hid he
        clear hxy
        go_wp2_with fail
        go_round
        case rel => exact ⟨k + 1, by omega, by go_num, AllB.succ hq.out HX.out (by rw [HY.out]; rfl)⟩
        case measure => simp [intOf]; omega
    · obtain rfl : k = n := by omega
      go_wp2_with fail
      go_ret
      refine ⟨ret_bool (decide_eq_false fun hm => ?_).symm, rfl⟩
      have h1 := AllB.done hq.out (by rw [hl.out]; omega)
      rw [List.all_eq_true] at h1
      have h2 := h1 v hm
      simp at h2
theorem vals_has : ∀ n : Fin 64, ∀ v : Fin 8, (vdB n.val && dhB n.val ((v.val : Int) - 1)) = decide (((v.val : Int) - 1) ∈ valsTo n.val 6) := by decide +kernel
theorem vals_nil : ∀ n : Fin 64, (valsTo n.val 6).length = 0 → n.val = 0 := by decide +kernel
end Go.Proofs.YtamhmomonfcffaaDoor
