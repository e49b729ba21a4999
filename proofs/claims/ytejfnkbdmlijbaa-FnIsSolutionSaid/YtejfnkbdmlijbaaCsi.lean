/- IsConsistent. -/
import Derived.Test.YtejfnkbdmlijbaaFilS
namespace Go.Proofs.Ytejfnkbdmlijbaa
open Go.ChangeShapes Go.WideShapes Go.ChangeAt Go.RowKit
open Go.Shelf
set_option linter.unusedVariables false
set_option maxRecDepth 100000

/-- filtering with any constraint changes nothing. -/
def stillF (m : Mod) : Bool := m.cons.all fun c => decide (filF c m.doms = m.doms)
def icsF (m : Mod) : Bool := vmodF m && (!decide ((0 : Int) ∈ m.doms) && stillF m)
set_option maxHeartbeats 4000000 in
theorem shasEmpty (A : Option Addr) (n c : Nat) (xs : List Int) (w : World) (h : IntR w w.heap.size A n xs) :
    Calls Try.prog 116 #[.slice A n c] w fun e w' => e = .returned (.bool (decide ((0 : Int) ∈ xs))) ∧ w = w' := by
  have hn := h.le
  have hl := Lib.hid h.len
  go_enter Try.func116, Try.ntmps116
  go_wp2_with fail
  go_loop [3] (fun i => ∃ k : Nat, k ≤ n ∧ i = .int .i64 k ∧ Hid (AllB (fun x => !(x == 0)) xs k)) (fun i => n - (intOf i).toNat)
  case atStart => exact ⟨0, by omega, rfl, AllB.zero _ _⟩
  case round =>
    obtain ⟨k, hk, rfl, hq⟩ := hrel
    by_cases hlt : k < n
    · obtain ⟨ab, ao, x, rfl, hab, hxk, hcx⟩ := IntR.at_ h hlt
      have HXK := Lib.hid hxk
      clear hxk
      by_cases hx0 : x = 0
      · subst hx0
        have HE := Lib.hid (decide_eq_true (List.mem_of_getElem? HXK.out))
        go_wp2_with fail
        go_ret
        exact ⟨ret_bool HE.out.symm, rfl⟩
      · have hne : (x == 0) = false := by simpa using hx0
        have HV := Lib.hid (show (!(x == 0)) = true by rw [hne]; rfl)
        clear hx0
        go_wp2_with fail
        go_round
        case rel => exact ⟨k + 1, by omega, by go_num, AllB.succ hq.out HXK.out HV.out⟩
        case measure => simp [intOf]; omega
    · obtain rfl : k = n := by omega
      have HE := Lib.hid (decide_eq_false (fun h0 : (0 : Int) ∈ xs => by
        have := AllB.done hq.out (Nat.le_of_eq hl.out)
        have := List.all_eq_true.1 this 0 h0
        simp at this))
      go_wp2_with fail
      go_ret
      exact ⟨ret_bool HE.out.symm, rfl⟩
set_option maxHeartbeats 8000000 in
theorem sisConsistent (us : List Value) (m : Mod) (A : Option Addr) (n d : Nat) (w : World) (h : ModR w w.heap.size us m) (hx : IntR w w.heap.size A n m.doms) (hm : ModOk m) :
    Calls Try.prog 115 #[.agg us.toArray, .slice A n d] w fun e w' => e = .returned (.bool (stillF m)) ∧ Below w.heap.size w w' := by
  have hl := Lib.hid hx.len
  have HM := Lib.hid hm
  have hn1 : 1 ≤ n := by have := hm.one; have := hx.len; omega
  have hn4 : n ≤ 4 := by have := hm.four; have := hx.len; omega
  obtain ⟨da, ca, cd, cc, rfl, g1, g2, -⟩ := h
  obtain ⟨wa, hwa⟩ : ∃ wa, wa = w.alloc (.cells #[.slice da m.doms.length cd, .slice ca m.cons.length cc] 26) := ⟨_, rfl⟩
  have hb0 : Below w.heap.size w wa := by rw [hwa]; exact b_alloc _ _
  have ha : TBlk 26 wa w.heap.size #[.slice da m.doms.length cd, .slice ca m.cons.length cc] := by rw [hwa]; exact TBlk.new _ _ _
  have hsw : w.heap.size < wa.heap.size := ha.lt
  have HA := Lib.hid ha
  have HX0 := Lib.hid hx
  have HG2 := Lib.hid g2
  have H2 := Lib.hid (ConsR.on g2 hb0)
  obtain ⟨nc, hnc⟩ : ∃ nc, m.cons.length = nc := ⟨_, rfl⟩
  have hnc6 : nc ≤ 6 := by have := hm.six; omega
  have HNC := Lib.hid hnc
  rw [hnc] at ha H2 HA ⊢
  rw [hnc] at HG2
  clear hx g1 g2 hm ha hnc
  go_enter Try.func115, Try.ntmps115
  rw [HNC.out] at hwa
  go_wp2_with fail
  rw [← hwa]
  clear hwa
  go_loopw [5] (fun t5 wr => ∃ k : Nat, k ≤ nc ∧ t5 = .int .i64 k ∧ Hid (AllB (fun c => decide (filF c m.doms = m.doms)) m.cons k) ∧ Hid (Below wa.heap.size wa wr)) (fun t5 _ => nc - (intOf t5).toNat)
  case atStart => exact ⟨0, by omega, rfl, AllB.zero _ _, Below.refl _ _⟩
  case round =>
    obtain ⟨k, hk, rfl, hq, hbk⟩ := hrel
    have e1 := (HA.out.below_ hbk.out HA.out.lt).at_ 1 rfl
    by_cases hlt : k < nc
    · obtain ⟨ab, ao, c, va, aa, ra, cv, ca', cr, rfl, hab, hxk, c0, c1, c2, c3, c4, hc⟩ := ConR.at_ (SlK.below ConR.keeps H2.out hbk.out) hlt
      have HC := Lib.hid (ConR.widens _ _ _ _ _ hbk.out.size hc)
      have HVC := Lib.hid (show vconF c (n : Int) = true by rw [← hl.out]; exact HM.out.cons c (List.mem_of_getElem? hxk))
      have HXK := Lib.hid hxk
      have HBW := Lib.hid (bgo hb0 hbk.out)
      clear hc hxk
      go_wp2_with fail
      refine (ssupported _ c _ _ _ m.doms _ HC.out (IntR.on HX0.out HBW.out) HVC.out hn1 hn4 HM.out.doms).mono ?_
      rintro e w3 ⟨v3, rfl, hh3, hb3⟩
      obtain ⟨A3, c3', rfl, r3⟩ := IntR.of_hold hh3 (by omega)
      have HBW3 := Lib.hid (bgo HBW.out hb3)
      have HBK3 := Lib.hid (hbk.out.trans (hb3.mono hbk.out.size))
      clear hh3 hb3 c0 c1 c2 c3 c4 e1
      go_wp2_with fail
      refine (sequalInts _ _ _ _ _ _ _ _ _ r3 (IntR.on HX0.out HBW3.out)).mono ?_
      rintro e w4 ⟨rfl, hb4⟩
      have HBK4 := Lib.hid (HBK3.out.trans (hb4.mono HBK3.out.size))
      clear hb4 r3
      by_cases hs : filF c m.doms = m.doms
      · have HT := Lib.hid (decide_eq_true hs)
        rw [HT.out]
        clear hs
        go_wp2_with fail
        go_roundw
        case rel => exact ⟨k + 1, by omega, by go_num, AllB.succ hq.out HXK.out HT.out, HBK4.out⟩
        case measure => simp [intOf]; omega
      · have HT := Lib.hid (decide_eq_false hs)
        have HE := Lib.hid (show stillF m = false from all_no (f := fun c => decide (filF c m.doms = m.doms)) HXK.out HT.out)
        rw [HT.out]
        clear hs
        go_wp2_with fail
        go_ret
        exact ⟨ret_bool HE.out.symm, bgo hb0 HBK4.out⟩
    · obtain rfl : k = nc := by omega
      have HE := Lib.hid (show stillF m = true from AllB.done hq.out (Nat.le_of_eq HNC.out))
      go_wp2_with fail
      go_ret
      exact ⟨ret_bool HE.out.symm, bgo hb0 hbk.out⟩
end Go.Proofs.Ytejfnkbdmlijbaa
