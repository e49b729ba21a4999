/- DecodeDomain, impl's and spec's. -/
import Derived.Test.YtfgdepnknagniaaDoorStrE
namespace Go.Proofs.YtfgdepnknagniaaDoor
open Go.ChangeShapes Go.WideShapes Go.ChangeAt Go.RowKit
open Go.Shelf
set_option linter.unusedVariables false
set_option maxRecDepth 100000

/-- what DecodeDomain finds. -/
def decD (s : ByteArray) : Int := (((decF s.toList 64 0).getD 0 : Nat) : Int)
def decB (s : ByteArray) : Bool := (decF s.toList 64 0).isSome
theorem decF_yes {L : List UInt8} {k : Nat} (hk : k < 64) (h : encF (k : Int) = L) : decF L (64 - k) k = some k := by
  rw [show 64 - k = (63 - k) + 1 by omega]
  unfold decF
  rw [if_pos h]
theorem decF_no {L : List UInt8} {k : Nat} (hk : k < 64) (h : encF (k : Int) ≠ L) : decF L (64 - k) k = decF L (64 - (k + 1)) (k + 1) := by
  rw [show 64 - k = (64 - (k + 1)) + 1 by omega]
  conv => lhs; unfold decF
  rw [if_neg h]
set_option maxHeartbeats 1000000 in
theorem iDecodeDomain (s : ByteArray) (w : World) :
    Calls Tryd.prog 10 #[.string s] w fun e w' => e = .returned (.tuple #[.int .i64 (decD s), .bool (decB s)]) ∧ Below w.heap.size w w' := by
  obtain ⟨L, hL⟩ : ∃ L, s.toList = L := ⟨_, rfl⟩
  have HL := Lib.hid hL
  clear hL
  go_enter Tryd.func10, Tryd.ntmps10
  go_wp2_with fail
  go_loopw [5] (fun i wr => ∃ k : Nat, k ≤ 64 ∧ i = .int .i64 k ∧ Hid (decF L 64 0 = decF L (64 - k) k) ∧ Below w.heap.size w wr) (fun i _ => 64 - (intOf i).toNat)
  case atStart => exact ⟨0, by omega, rfl, rfl, Below.refl _ _⟩
  case round =>
    obtain ⟨k, hk, rfl, hr, hb⟩ := hrel
    rename World => wr
    by_cases hlt : k < 64
    · have hl1 : decide ((k : Int) ≤ 63) = true := decide_eq_true (by omega)
      have hl2 : decide (k ≤ 63) = true := decide_eq_true (by omega)
      go_wp2_with fail
      refine (encode (k : Int) (by omega) (by omega) _).mono ?_
      rintro e w1 ⟨rfl, hb1⟩
      by_cases he : encF (k : Int) = L
      · have ht : ((bs (encF (k : Int))).toList == s.toList) = true := by rw [bs_list, HL.out]; simpa using he
        have HD := Lib.hid (show decD s = (k : Int) ∧ decB s = true by unfold decD decB; rw [HL.out, hr.out, decF_yes hlt he]; exact ⟨rfl, rfl⟩)
        clear he
        go_wp2_with fail
        refine bodyPost_ret (v := .tuple #[.int .i64 (k : Int), .bool true]) ?_ rfl ?_
        · simp [results, Tryd.results10, go_sem]
        · exact ⟨by rw [HD.out.1, HD.out.2], hb.trans (hb1.mono hb.size)⟩
      · have ht : ((bs (encF (k : Int))).toList == s.toList) = false := by rw [bs_list, HL.out]; simpa using he
        have HR := Lib.hid (hr.out.trans (decF_no hlt he))
        clear he hr
        go_wp2_with fail
        go_roundw
        case rel => exact ⟨k + 1, by omega, by go_num, HR, hb.trans (hb1.mono hb.size)⟩
        case measure => simp [intOf]; omega
    · obtain rfl : k = 64 := by omega
      have HD := Lib.hid (show decD s = 0 ∧ decB s = false by unfold decD decB; rw [HL.out, hr.out]; exact ⟨rfl, rfl⟩)
      clear hr
      go_wp2_with fail
      refine bodyPost_ret (v := .tuple #[.int .i64 0, .bool false]) ?_ rfl ?_
      · simp [results, Tryd.results10, go_sem]
      · exact ⟨by rw [HD.out.1, HD.out.2], hb⟩
set_option maxHeartbeats 1000000 in
theorem sDecodeDomain (s : ByteArray) (w : World) :
    Calls Tryd.prog 9 #[.string s] w fun e w' => e = .returned (.tuple #[.int .i64 (decD s), .bool (decB s)]) ∧ Below w.heap.size w w' := by
  obtain ⟨L, hL⟩ : ∃ L, s.toList = L := ⟨_, rfl⟩
  have HL := Lib.hid hL
  clear hL
  go_enter Tryd.func9, Tryd.ntmps9
  go_wp2_with fail
  go_loopw [4] (fun i wr => ∃ k : Nat, k ≤ 64 ∧ i = .int .i64 k ∧ Hid (decF L 64 0 = decF L (64 - k) k) ∧ Below w.heap.size w wr) (fun i _ => 64 - (intOf i).toNat)
  case atStart => exact ⟨0, by omega, rfl, rfl, Below.refl _ _⟩
  case round =>
    obtain ⟨k, hk, rfl, hr, hb⟩ := hrel
    rename World => wr
    by_cases hlt : k < 64
    · have hl1 : decide ((k : Int) ≤ 63) = true := decide_eq_true (by omega)
      have hl2 : decide (k ≤ 63) = true := decide_eq_true (by omega)
      go_wp2_with fail
      refine (format (k : Int) (by omega) (by omega) _).mono ?_
      rintro e w1 ⟨rfl, hb1⟩
      by_cases he : encF (k : Int) = L
      · have ht : ((bs (encF (k : Int))).toList == s.toList) = true := by rw [bs_list, HL.out]; simpa using he
        have HD := Lib.hid (show decD s = (k : Int) ∧ decB s = true by unfold decD decB; rw [HL.out, hr.out, decF_yes hlt he]; exact ⟨rfl, rfl⟩)
        clear he
        go_wp2_with fail
        refine bodyPost_ret (v := .tuple #[.int .i64 (k : Int), .bool true]) ?_ rfl ?_
        · simp [results, Tryd.results9, go_sem]
        · exact ⟨by rw [HD.out.1, HD.out.2], hb.trans (hb1.mono hb.size)⟩
      · have ht : ((bs (encF (k : Int))).toList == s.toList) = false := by rw [bs_list, HL.out]; simpa using he
        have HR := Lib.hid (hr.out.trans (decF_no hlt he))
        clear he hr
        go_wp2_with fail
        go_roundw
        case rel => exact ⟨k + 1, by omega, by go_num, HR, hb.trans (hb1.mono hb.size)⟩
        case measure => simp [intOf]; omega
    · obtain rfl : k = 64 := by omega
      have HD := Lib.hid (show decD s = 0 ∧ decB s = false by unfold decD decB; rw [HL.out, hr.out]; exact ⟨rfl, rfl⟩)
      clear hr
      go_wp2_with fail
      refine bodyPost_ret (v := .tuple #[.int .i64 0, .bool false]) ?_ rfl ?_
      · simp [results, Tryd.results9, go_sem]
      · exact ⟨by rw [HD.out.1, HD.out.2], hb⟩
end Go.Proofs.YtfgdepnknagniaaDoor
