/- The text of a domain: spec's formatDomain. -/
import Derived.Test.YtfoodlhfmcfjeaaDoorStr
namespace Go.Proofs.YtfoodlhfmcfjeaaDoor
open Go.ChangeShapes Go.WideShapes Go.ChangeAt Go.RowKit
open Go.Shelf
set_option linter.unusedVariables false
set_option maxRecDepth 100000

theorem bs_size (l : List UInt8) : (bs l).size = l.length := by simp [bs, ByteArray.size]
theorem bs_list (l : List UInt8) : (bs l).toList = l := Go.ByteArray.toList_mk l
theorem sdomainHas_b (d v : Int) (b : Bool) (hb : dhB d v = b) (h0 : 0 ≤ d) (w : World) :
    Calls Tryd.prog 44 #[.int .i64 d, .int .i64 v] w fun e w' => e = .returned (.bool b) ∧ w = w' := by
  subst hb; exact sdomainHas d v h0 w
theorem dh_in {d : Int} {k : Nat} (hk : k < 6) : dhB d (k : Int) = hasB d (k : Int) := by unfold dhB; rw [inB_mk ⟨by omega, by omega⟩]; rfl
theorem out_no1 {d : Int} {k : Nat} (hk : k < 6) (h : dhB d (k : Int) = false) : outF d (k + 1) = outF d k := by
  rw [dh_in hk] at h
  conv => lhs; unfold outF
  rw [if_neg (by rw [h]; simp)]
theorem out_no2 {d : Int} {k : Nat} (h : dhB d ((k : Int) - 1) = true) : outF d (k + 1) = outF d k := by
  conv => lhs; unfold outF
  rw [if_neg (by rw [h]; simp)]
theorem out_yes {d : Int} {k e : Nat} (hk : k < 6) (h1 : dhB d (k : Int) = true) (h2 : dhB d ((k : Int) - 1) = false) (he : runE d (5 - k) k = e) : outF d (k + 1) = (if outF d k = [] then [] else outF d k ++ [44]) ++ runT k e := by
  rw [dh_in hk] at h1
  conv => lhs; unfold outF
  rw [if_pos ⟨h1, h2⟩, he]
theorem out_len : ∀ d : Fin 64, ∀ k : Fin 7, (outF d.val k.val).length ≤ 64 := by decide +kernel
set_option maxHeartbeats 1500000 in
theorem format (d : Int) (h0 : 0 ≤ d) (h1 : d ≤ 63) (w : World) :
    Calls Tryd.prog 26 #[.int .i64 d] w fun e w' => e = .returned (.string (bs (encF d))) ∧ Below w.heap.size w w' := by
  have HL : Hid (∀ k, k ≤ 6 → (outF d k).length ≤ 64) := Lib.hid fun k hk => by
    have := out_len ⟨d.toNat, by omega⟩ ⟨k, by omega⟩
    rwa [show ((⟨d.toNat, by omega⟩ : Fin 64).val : Int) = d by show ((d.toNat : Nat) : Int) = d; omega] at this
  have HE := Lib.hid (show encF d = if outF d 6 = [] then [101, 109, 112, 116, 121] else outF d 6 by
    have := enc_out ⟨d.toNat, by omega⟩
    rwa [show ((⟨d.toNat, by omega⟩ : Fin 64).val : Int) = d by show ((d.toNat : Nat) : Int) = d; omega] at this)
  go_enter Tryd.func26, Tryd.ntmps26
  go_wp2_with fail
  go_loopw [3, 4] (fun v i wr => ∃ k : Nat, k ≤ 6 ∧ i = .int .i64 k ∧ v = .string (bs (outF d k)) ∧ Below w.heap.size w wr) (fun _ i _ => 6 - (intOf i).toNat)
  case atStart => exact ⟨0, by omega, rfl, rfl, Below.refl _ _⟩
  case round =>
    obtain ⟨k, hk, rfl, rfl, hb⟩ := hrel
    rename World => wr
    by_cases hlt : k < 6
    · have hlt2 : decide ((k : Int) ≤ 5) = true := decide_eq_true (by omega)
      have hlt3 : decide (k ≤ 5) = true := decide_eq_true (by omega)
      cases hh : dhB d k
      · have HP := Lib.hid (out_no1 hlt hh)
        have HH := Lib.hid hh
        clear hh
        go_wp2_with fail
        refine (sdomainHas_b _ _ _ HH.out h0 _).mono ?_
        rintro e w1 ⟨rfl, rfl⟩
        go_wp2_with fail
        go_roundw
        case rel => exact ⟨k + 1, by omega, by go_num, by rw [HP.out], hb⟩
        case measure => simp [intOf]; omega
      · have HH := Lib.hid hh
        clear hh
        go_wp2_with fail
        refine (sdomainHas_b _ _ _ HH.out h0 _).mono ?_
        rintro e w1 ⟨rfl, rfl⟩
        cases hp : dhB d ((k : Int) - 1)
        · have HQ := Lib.hid hp
          clear hp
          go_wp2_with fail
          refine (sdomainHas_b _ _ _ HQ.out h0 _).mono ?_
          rintro e w1 ⟨rfl, rfl⟩
          go_wp2_with fail
          go_loop [5] (fun i => ∃ e : Nat, k ≤ e ∧ e ≤ 5 ∧ i = .int .i64 e ∧ Hid (runE d (5 - e) e = runE d (5 - k) k)) (fun i => 5 - (intOf i).toNat)
          case atStart => exact ⟨k, Nat.le_refl _, by omega, rfl, rfl⟩
          case round =>
            obtain ⟨e, he, he5, rfl, hr⟩ := hrel
            cases hx : dhB d ((e : Int) + 1)
            · have HX := Lib.hid hx
              have HR := Lib.hid (runE_no hr.out (fun h5 => by rw [← dh_in (show e + 1 < 6 by omega)]; exact hx))
              clear hx hr
              go_wp2_with fail
              refine (sdomainHas_b _ _ _ HX.out h0 _).mono ?_
              rintro e1 w1 ⟨rfl, rfl⟩
              have hoy := out_yes hlt HH.out HQ.out HR.out
              have hs1 : (bs (outF d k)).size ≤ 64 := by rw [bs_size]; exact HL.out k hk
              have hs2 : (bs (dig k)).size = 1 := by rw [bs_size]; rfl
              have hs3 : (bs (dig e)).size = 1 := by rw [bs_size]; rfl
              by_cases hL : outF d k = []
              · have hem : (bs (outF d k)).toList.isEmpty = true := by rw [hL, bs_list]; rfl
                rw [if_pos hL, List.nil_append] at hoy
                have hnil := hL
                have HO := Lib.hid (show outF d (k + 1) = outF d k ++ runT k e by rw [hoy, hnil]; rfl)
                clear hL hoy hnil
                go_wp2_with fail
                refine (formatInt1 k (by omega) _).mono ?_
                rintro e1 w1 ⟨rfl, hb1⟩
                by_cases hke : k < e
                · have hg1 : decide ((k : Int) < (e : Int)) = true := decide_eq_true (by omega)
                  have hg2 : decide (k < e) = true := decide_eq_true hke
                  go_wp2_with fail
                  refine (formatInt1 e (by omega) _).mono ?_
                  rintro e1 w2 ⟨rfl, hb2⟩
                  have hT : Hid (bs (outF d k) ++ bs (dig k) ++ ⟨#[45]⟩ ++ bs (dig e) = bs (outF d (k + 1))) := Lib.hid (by rw [HO.out]; unfold runT; rw [if_pos hke, show (⟨#[45]⟩ : ByteArray) = bs [45] from rfl, bs_app, bs_app, bs_app]; all_goals simp [List.append_assoc])
                  go_wp2_with fail
                  go_roundw
                  case rel => exact ⟨k + 1, by omega, by go_num, by rw [← hT.out], hb.trans ((bgo hb1 hb2).mono hb.size)⟩
                  case measure => simp [intOf]; omega
                · have hg1 : decide ((k : Int) < (e : Int)) = false := decide_eq_false (by omega)
                  have hg2 : decide (k < e) = false := decide_eq_false hke
                  have hT : Hid (bs (outF d k) ++ bs (dig k) = bs (outF d (k + 1))) := Lib.hid (by rw [HO.out]; unfold runT; rw [if_neg hke, bs_app]; all_goals simp [List.append_assoc])
                  go_wp2_with fail
                  go_roundw
                  case rel => exact ⟨k + 1, by omega, by go_num, by rw [← hT.out], hb.trans (hb1.mono hb.size)⟩
                  case measure => simp [intOf]; omega
              · have hem : (bs (outF d k)).toList.isEmpty = false := by rw [bs_list]; cases h : outF d k with
                  | nil => exact absurd h hL
                  | cons _ _ => rfl
                rw [if_neg hL] at hoy
                have HO := Lib.hid hoy
                clear hL hoy
                go_wp2_with fail
                refine (formatInt1 k (by omega) _).mono ?_
                rintro e1 w1 ⟨rfl, hb1⟩
                by_cases hke : k < e
                · have hg1 : decide ((k : Int) < (e : Int)) = true := decide_eq_true (by omega)
                  have hg2 : decide (k < e) = true := decide_eq_true hke
                  go_wp2_with fail
                  refine (formatInt1 e (by omega) _).mono ?_
                  rintro e1 w2 ⟨rfl, hb2⟩
                  have hT : Hid (bs (outF d k) ++ ⟨#[44]⟩ ++ bs (dig k) ++ ⟨#[45]⟩ ++ bs (dig e) = bs (outF d (k + 1))) := Lib.hid (by rw [HO.out]; unfold runT; rw [if_pos hke, show (⟨#[44]⟩ : ByteArray) = bs [44] from rfl, show (⟨#[45]⟩ : ByteArray) = bs [45] from rfl, bs_app, bs_app, bs_app, bs_app]; all_goals simp [List.append_assoc])
                  go_wp2_with fail
                  go_roundw
                  case rel => exact ⟨k + 1, by omega, by go_num, by rw [← hT.out], hb.trans ((bgo hb1 hb2).mono hb.size)⟩
                  case measure => simp [intOf]; omega
                · have hg1 : decide ((k : Int) < (e : Int)) = false := decide_eq_false (by omega)
                  have hg2 : decide (k < e) = false := decide_eq_false hke
                  have hT : Hid (bs (outF d k) ++ ⟨#[44]⟩ ++ bs (dig k) = bs (outF d (k + 1))) := Lib.hid (by rw [HO.out]; unfold runT; rw [if_neg hke, show (⟨#[44]⟩ : ByteArray) = bs [44] from rfl, bs_app, bs_app]; all_goals simp [List.append_assoc])
                  go_wp2_with fail
                  go_roundw
                  case rel => exact ⟨k + 1, by omega, by go_num, by rw [← hT.out], hb.trans (hb1.mono hb.size)⟩
                  case measure => simp [intOf]; omega
            · have h5 : e < 5 := by
                by_cases g : e < 5
                · exact g
                · obtain rfl : e = 5 := by omega
                  have : dhB d ((5 : Nat) + 1 : Int) = false := by unfold dhB; rw [show inB (((5 : Nat) : Int) + 1) 0 5 = false by decide]; rfl
                  rw [this] at hx; cases hx
              have HX := Lib.hid hx
              have HY := Lib.hid (runE_yes he (by omega) hr.out h5 (by rw [← dh_in (show e + 1 < 6 by omega)]; exact hx))
              clear hx hr
              go_wp2_with fail
              refine (sdomainHas_b _ _ _ HX.out h0 _).mono ?_
              rintro e1 w1 ⟨rfl, rfl⟩
              go_wp2_with fail
              go_round
              case rel => exact ⟨e + 1, by omega, by omega, by go_num, HY⟩
              case measure => simp [intOf]; omega
        · have HQ := Lib.hid hp
          have HP := Lib.hid (out_no2 hp)
          clear hp
          go_wp2_with fail
          refine (sdomainHas_b _ _ _ HQ.out h0 _).mono ?_
          rintro e w1 ⟨rfl, rfl⟩
          go_wp2_with fail
          go_roundw
          case rel => exact ⟨k + 1, by omega, by go_num, by rw [HP.out], hb⟩
          case measure => simp [intOf]; omega
    · obtain rfl : k = 6 := by omega
      by_cases hL : outF d 6 = []
      · have hem : (bs (outF d 6)).toList.isEmpty = true := by rw [hL, bs_list]; rfl
        rw [if_pos hL] at HE
        clear hL
        go_wp2_with fail
        go_ret
        exact ⟨by rw [HE.out]; rfl, hb⟩
      · have hem : (bs (outF d 6)).toList.isEmpty = false := by rw [bs_list]; cases h : outF d 6 with
          | nil => exact absurd h hL
          | cons _ _ => rfl
        rw [if_neg hL] at HE
        clear hL
        go_wp2_with fail
        go_ret
        exact ⟨by first | (rw [HE.out]; done) | (rw [HE.out]; rfl) | (simp [HE.out]; done), hb⟩
end Go.Proofs.YtfoodlhfmcfjeaaDoor
