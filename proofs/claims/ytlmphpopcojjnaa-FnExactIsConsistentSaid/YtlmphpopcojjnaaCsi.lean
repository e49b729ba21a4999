/- IsConsistent. -/
import Derived.Test.YtlmphpopcojjnaaFilS
namespace Go.Proofs.Ytlmphpopcojjnaa
open Go.ChangeShapes Go.WideShapes Go.ChangeAt Go.RowKit
open Go.Shelf
set_option linter.unusedVariables false
set_option maxRecDepth 100000

/-- filtering with any constraint changes nothing. -/
def stillF (m : Mod) : Bool := m.cons.all fun c => decide (filF c m.doms = m.doms)
def icsF (m : Mod) : Bool := vmodF m && (!decide ((0 : Int) ∈ m.doms) && stillF m)
set_option maxHeartbeats 4000000 in
theorem shasEmpty (A : Option Addr) (n c : Nat) (xs : List Int) (w : World) (h : IntR w w.heap.size A n xs) :
    Calls Try.prog 47 #[.slice A n c] w fun e w' => e = .returned (.bool (decide ((0 : Int) ∈ xs))) ∧ w = w' := by
  have hn := h.le
  have hl := Lib.hid h.len
  go_enter Try.func47, Try.ntmps47
  go_wp2_with fail
  go_loop [3] (fun i => ∃ k : Nat, k ≤ n ∧ i = .int .i64 k ∧ Hid (AllB (fun x => !(x == 0)) xs k)) (fun i => n - (intOf i).toNat)
  case atStart => exact ⟨0, by omega, rfl, AllB.zero _ _⟩
  case round =>
    obtain ⟨k, hk, rfl, hq⟩ := hrel
    by_cases hlt : k < n
    · obtain ⟨ab, ao, x, rfl, hab, hxk, hcx⟩ := IntR.at_ h hlt
      have HXK := Lib.hid hxk
      clear hxk
      by_cases hx0 : x = 0
      · subst hx0
        have HE := Lib.hid (decide_eq_true (List.mem_of_getElem? HXK.out))
        go_wp2_with fail
        go_ret
        exact ⟨ret_bool HE.out.symm, rfl⟩
      · have hne : (x == 0) = false := by simpa using hx0
        have HV := Lib.hid (show (!(x == 0)) = true by rw [hne]; rfl)
        clear hx0
        go_wp2_with fail
        go_round
        case rel => exact ⟨k + 1, by omega, by go_num, AllB.succ hq.out HXK.out HV.out⟩
        case measure => simp [intOf]; omega
    · obtain rfl : k = n := by omega
      have HE := Lib.hid (decide_eq_false (fun h0 : (0 : Int) ∈ xs => by
        have := AllB.done hq.out (Nat.le_of_eq hl.out)
        have := List.all_eq_true.1 this 0 h0
        simp at this))
      go_wp2_with fail
      go_ret
      exact ⟨ret_bool HE.out.symm, rfl⟩
set_option maxHeartbeats 8000000 in
theorem sisConsistent (us : List Value) (m : Mod) (A : Option Addr) (n d : Nat) (w : World) (h : ModR w w.heap.size us m) (hx : IntR w w.heap.size A n m.doms) (hm : ModOk m) :
    Calls Try.prog 48 #[.agg us.toArray, .slice A n d] w fun e w' => e = .returned (.bool (stillF m)) ∧ Below w.heap.size w w' := by
  have hl := Lib.hid hx.len
  have HM := Lib.hid hm
  have hn1 : 1 ≤ n := by have := hm.one; have := hx.len; omega
  have hn4 : n ≤ 4 := by have := hm.four; have := hx.len; omega
  obtain ⟨da, ca, cd, cc, rfl, g1, g2, -⟩ := h
  obtain ⟨wa, hwa⟩ : ∃ wa, wa = w.alloc (.cells #[.slice da m.doms.length cd, .slice ca m.cons.length cc] 44) := ⟨_, rfl⟩
  have hb0 : Below w.heap.size w wa := by rw [hwa]; exact b_alloc _ _
  have ha : TBlk 44 wa w.heap.size #[.slice da m.doms.length cd, .slice ca m.cons.length cc] := by rw [hwa]; exact TBlk.new _ _ _
  have hsw : w.heap.size < wa.heap.size := ha.lt
  have HA := Lib.hid ha
  have HX0 := Lib.hid hx
  have HG2 := Lib.hid g2
  have H2 := Lib.hid (ConsR.on g2 hb0)
  obtain ⟨nc, hnc⟩ : ∃ nc, m.cons.length = nc := ⟨_, rfl⟩
  have hnc6 : nc ≤ 6 := by have := hm.six; omega
  have HNC := Lib.hid hnc
  rw [hnc] at ha H2 HA ⊢
  rw [hnc] at HG2
  clear hx g1 g2 hm ha hnc
  go_enter Try.func48, Try.ntmps48
  rw [HNC.out] at hwa
  go_wp2_with fail
  rw [← hwa]
  clear hwa
  go_loopw [5] (fun t5 wr => ∃ k : Nat, k ≤ nc ∧ t5 = .int .i64 k ∧ Hid (AllB (fun c => decide (filF c m.doms = m.doms)) m.cons k) ∧ Hid (Below wa.heap.size wa wr)) (fun t5 _ => nc - (intOf t5).toNat)
  case atStart => exact ⟨0, by omega, rfl, AllB.zero _ _, Below.refl _ _⟩
  case round =>
    obtain ⟨k, hk, rfl, hq, hbk⟩ := hrel
    have e1 := (HA.out.below_ hbk.out HA.out.lt).at_ 1 rfl
    by_cases hlt : k < nc
    · obtain ⟨ab, ao, c, va, aa, ra, cv, ca', cr, rfl, hab, hxk, c0, c1, c2, c3, c4, hc⟩ := ConR.at_ (SlK.below ConR.keeps H2.out hbk.out) hlt
      have HC := Lib.hid (ConR.widens _ _ _ _ _ hbk.out.size hc)
      have HVC := Lib.hid (show vconF c (n : Int) = true by rw [← hl.out]; exact HM.out.cons c (List.mem_of_getElem? hxk))
      have HXK := Lib.hid hxk
      have HBW := Lib.hid (bgo hb0 hbk.out)
      clear hc hxk
      go_wp2_with fail
      refine (ssupported _ c _ _ _ m.doms _ HC.out (IntR.on HX0.out HBW.out) HVC.out hn1 hn4 HM.out.doms).mono ?_
      rintro e w3 ⟨v3, rfl, hh3, hb3⟩
      obtain ⟨A3, c3', rfl, r3⟩ := IntR.of_hold hh3 (by omega)
      have HBW3 := Lib.hid (bgo HBW.out hb3)
      have HBK3 := Lib.hid (hbk.out.trans (hb3.mono hbk.out.size))
      clear hh3 hb3 c0 c1 c2 c3 c4 e1
      go_wp2_with fail
      refine (sequalInts _ _ _ _ _ _ _ _ _ r3 (IntR.on HX0.out HBW3.out)).mono ?_
      rintro e w4 ⟨rfl, hb4⟩
      have HBK4 := Lib.hid (HBK3.out.trans (hb4.mono HBK3.out.size))
      clear hb4 r3
      by_cases hs : filF c m.doms = m.doms
      · have HT := Lib.hid (decide_eq_true hs)
        rw [HT.out]
        clear hs
        go_wp2_with fail
        go_roundw
        case rel => exact ⟨k + 1, by omega, by go_num, AllB.succ hq.out HXK.out HT.out, HBK4.out⟩
        case measure => simp [intOf]; omega
      · have HT := Lib.hid (decide_eq_false hs)
        have HE := Lib.hid (show stillF m = false from all_no (f := fun c => decide (filF c m.doms = m.doms)) HXK.out HT.out)
        rw [HT.out]
        clear hs
        go_wp2_with fail
        go_ret
        exact ⟨ret_bool HE.out.symm, bgo hb0 HBK4.out⟩
    · obtain rfl : k = nc := by omega
      have HE := Lib.hid (show stillF m = true from AllB.done hq.out (Nat.le_of_eq HNC.out))
      go_wp2_with fail
      go_ret
      exact ⟨ret_bool HE.out.symm, bgo hb0 hbk.out⟩
set_option maxHeartbeats 4000000 in
theorem sIsConsistent (us : List Value) (m : Mod) (w : World) (h : ModR w w.heap.size us m) :
    Calls Try.prog 21 #[.agg us.toArray] w fun e w' => e = .returned (.bool (icsF m)) ∧ Below w.heap.size w w' := by
  have H0 := Lib.hid h
  obtain ⟨da, ca, cd, cc, rfl, g1, g2, -⟩ := h
  obtain ⟨wa, hwa⟩ : ∃ wa, wa = w.alloc (.cells #[.slice da m.doms.length cd, .slice ca m.cons.length cc] 44) := ⟨_, rfl⟩
  have hb0 : Below w.heap.size w wa := by rw [hwa]; exact b_alloc _ _
  have ha : TBlk 44 wa w.heap.size #[.slice da m.doms.length cd, .slice ca m.cons.length cc] := by rw [hwa]; exact TBlk.new _ _ _
  have HA := Lib.hid ha
  have G1 := Lib.hid g1
  have a0 : wa.cell? ⟨w.heap.size, 0, none⟩ = some (.slice da m.doms.length cd) := ha.at_ 0 rfl
  have a1 : wa.cell? ⟨w.heap.size, 1, none⟩ = some (.slice ca m.cons.length cc) := ha.at_ 1 rfl
  clear ha g1 g2
  go_enter Try.func21, Try.ntmps21
  go_wp2_with fail
  rw [← hwa]
  clear hwa
  refine (svalidModel _ m _ (ModR.on H0.out hb0)).mono ?_
  rintro e w1 ⟨rfl, hb1⟩
  have HB1 := Lib.hid (bgo hb0 hb1)
  have HA1 := Lib.hid (HA.out.below_ hb1 HA.out.lt)
  have b0 := HA1.out.at_ 0 rfl
  have b1 := HA1.out.at_ 1 rfl
  simp only [List.getElem_toArray, List.getElem_cons_zero, List.getElem_cons_succ] at b0 b1
  clear a0 a1 hb1 hb0 HA
  cases t0 : vmodF m
  · have HE := Lib.hid (show icsF m = false by unfold icsF; rw [t0]; rfl)
    clear t0
    go_wp2_with fail
    go_ret
    exact ⟨ret_bool HE.out.symm, HB1.out⟩
  have HM := Lib.hid (ModOk.of t0)
  have HE := Lib.hid (show icsF m = (!decide ((0 : Int) ∈ m.doms) && stillF m) by unfold icsF; rw [t0]; rfl)
  clear t0
  go_wp2_with fail
  refine (shasEmpty _ _ _ _ _ (IntR.on G1.out HB1.out)).mono ?_
  rintro e w2 ⟨rfl, rfl⟩
  by_cases t1 : (0 : Int) ∈ m.doms
  · have HT := Lib.hid (decide_eq_true t1)
    rw [HT.out]
    rw [HT.out] at HE
    clear t1
    go_wp2_with fail
    go_ret
    exact ⟨ret_bool (HE.out.trans rfl).symm, HB1.out⟩
  · have HT := Lib.hid (decide_eq_false t1)
    rw [HT.out]
    rw [HT.out] at HE
    clear t1
    go_wp2_with fail
    refine (sisConsistent _ m _ _ _ _ (ModR.on H0.out HB1.out) (IntR.on G1.out HB1.out) HM.out).mono ?_
    rintro e w3 ⟨rfl, hb3⟩
    clear b0 b1
    go_wp2_with fail
    go_ret
    exact ⟨ret_bool (HE.out.trans (Bool.true_and _)).symm, bgo HB1.out hb3⟩
set_option maxHeartbeats 8000000 in
theorem consC (us : List Value) (c : Con) (b n cd : Nat) (da : Option Addr) (ds : List Int) (w : World) (h : ConR w w.heap.size us c) (hx : IntR w w.heap.size da n ds) (h0 : w.cell? ⟨b, 0, none⟩ = some (.slice da n cd)) (hbw : b < w.heap.size) (hvc : vconF c n = true) (hn1 : 1 ≤ n) (hn4 : n ≤ 4) (hdm : Doms ds) :
    Calls Try.prog 53 (#[.agg us.toArray] ++ #[.pointer (some ⟨b, 0, none⟩)]) w fun e w' => e = .returned (.bool (!decide (filF c ds = ds))) ∧ Below w.heap.size w w' := by
  have H0 := Lib.hid h
  have HX0 := Lib.hid hx
  have HDM := Lib.hid hdm
  have HVC := Lib.hid hvc
  obtain ⟨a0, d0, v1, r1, s1, n1, c1, n2, c2, n3, c3, rfl⟩ := h.five
  obtain ⟨wa, hwa⟩ : ∃ wa, wa = w.alloc (.cells #[.int .i64 a0, .slice v1 n1 c1, .slice r1 n2 c2, .int .i64 d0, .slice s1 n3 c3] 28) := ⟨_, rfl⟩
  have hb0 : Below w.heap.size w wa := by rw [hwa]; exact b_alloc _ _
  have ha : TBlk 28 wa w.heap.size #[.int .i64 a0, .slice v1 n1 c1, .slice r1 n2 c2, .int .i64 d0, .slice s1 n3 c3] := by rw [hwa]; exact TBlk.new _ _ _
  have HA := Lib.hid ha
  have h1 : wa.cell? ⟨b, 0, none⟩ = some (.slice da n cd) := (hb0.cell (p := ⟨b, 0, none⟩) hbw).trans h0
  have hbw2 : b < wa.heap.size := Nat.lt_of_lt_of_le hbw hb0.size
  have hS : ∀ w', Below wa.heap.size wa w' → (w'.cell? ⟨w.heap.size, 0, none⟩ = some (.int .i64 a0) ∧ w'.cell? ⟨w.heap.size, 1, none⟩ = some (.slice v1 n1 c1) ∧ w'.cell? ⟨w.heap.size, 2, none⟩ = some (.slice r1 n2 c2) ∧ w'.cell? ⟨w.heap.size, 3, none⟩ = some (.int .i64 d0) ∧ w'.cell? ⟨w.heap.size, 4, none⟩ = some (.slice s1 n3 c3)) ∧ w'.cell? ⟨b, 0, none⟩ = some (.slice da n cd) := by
    intro w' h
    have k := HA.out.below_ h HA.out.lt
    exact ⟨⟨k.at_ 0 rfl, k.at_ 1 rfl, k.at_ 2 rfl, k.at_ 3 rfl, k.at_ 4 rfl⟩, (h.cell (p := ⟨b, 0, none⟩) hbw2).trans h1⟩
  clear h hx hdm hvc ha h0 hbw h1 hbw2
  go_enter Try.func53, Try.ntmps53
  go_wp2_with fail
  rw [← hwa]
  clear hwa
  have hbd : Below wa.heap.size wa wa.drew := below_drewN (Below.refl _ _) 1
  have hS0 := hS _ hbd
  go_region_held3 (fun w' => (w'.cell? ⟨w.heap.size, 0, none⟩ = some (.int .i64 a0) ∧ w'.cell? ⟨w.heap.size, 1, none⟩ = some (.slice v1 n1 c1) ∧ w'.cell? ⟨w.heap.size, 2, none⟩ = some (.slice r1 n2 c2) ∧ w'.cell? ⟨w.heap.size, 3, none⟩ = some (.int .i64 d0) ∧ w'.cell? ⟨w.heap.size, 4, none⟩ = some (.slice s1 n3 c3)) ∧ w'.cell? ⟨b, 0, none⟩ = some (.slice da n cd))
    (first | exact hS0 | exact hS _ hb8 | exact hS _ hb9)
    (first
      | (go_at_call 43
         refine (ifilter _ c _ _ _ ds _ (ConR.on H0.out (bgo hb0 hbd)) (IntR.on HX0.out (bgo hb0 hbd)) HVC.out hn1 hn4 HDM.out).mono ?_
         rintro e Wq ⟨v, rfl, ow, hBq⟩
         obtain ⟨B2, d2, rfl, rw2⟩ := IntR.of_hold ow (by omega)
         have hb8 := bgo hbd hBq
         clear hBq ow)
      | (go_at_call 54
         refine (iEqual _ _ _ _ _ _ _ _ _ rw2 (IntR.on HX0.out (bgo hb0 hb8))).mono ?_
         rintro e W9 ⟨rfl, hBq⟩
         have hb9 := bgo hb8 hBq
         clear hBq))
  go_wp2_with fail
  go_ret
  exact ⟨rfl, bgo hb0 hb9⟩
theorem any_still (m : Mod) : (!(m.cons.any fun c => !decide (filF c m.doms = m.doms))) = stillF m := by
  unfold stillF
  rw [List.all_eq_not_any_not]
set_option maxHeartbeats 4000000 in
theorem iIsConsistent (us : List Value) (m : Mod) (w : World) (h : ModR w w.heap.size us m) :
    Calls Try.prog 23 #[.agg us.toArray] w fun e w' => e = .returned (.bool (icsF m)) ∧ Below w.heap.size w w' := by
  have H0 := Lib.hid h
  obtain ⟨da, ca, cd, cc, rfl, g1, g2, -⟩ := h
  obtain ⟨wa, hwa⟩ : ∃ wa, wa = w.alloc (.cells #[.slice da m.doms.length cd, .slice ca m.cons.length cc] 44) := ⟨_, rfl⟩
  have hb0 : Below w.heap.size w wa := by rw [hwa]; exact b_alloc _ _
  have ha : TBlk 44 wa w.heap.size #[.slice da m.doms.length cd, .slice ca m.cons.length cc] := by rw [hwa]; exact TBlk.new _ _ _
  have HA := Lib.hid ha
  have G1 := Lib.hid g1
  have G2 := Lib.hid g2
  have a0 : wa.cell? ⟨w.heap.size, 0, none⟩ = some (.slice da m.doms.length cd) := ha.at_ 0 rfl
  have a1 : wa.cell? ⟨w.heap.size, 1, none⟩ = some (.slice ca m.cons.length cc) := ha.at_ 1 rfl
  clear ha g1 g2
  go_enter Try.func23, Try.ntmps23
  go_wp2_with fail
  rw [← hwa]
  clear hwa
  refine (iValidModel _ m _ (ModR.on H0.out hb0)).mono ?_
  rintro e w1 ⟨rfl, hb1⟩
  have HB1 := Lib.hid (bgo hb0 hb1)
  have HA1 := Lib.hid (HA.out.below_ hb1 HA.out.lt)
  have b0 := HA1.out.at_ 0 rfl
  have b1 := HA1.out.at_ 1 rfl
  simp only [List.getElem_toArray, List.getElem_cons_zero, List.getElem_cons_succ] at b0 b1
  clear a0 a1 hb1 hb0 HA
  cases t0 : vmodF m
  · have HE := Lib.hid (show icsF m = false by unfold icsF; rw [t0]; rfl)
    clear t0
    go_wp2_with fail
    go_ret
    exact ⟨ret_bool HE.out.symm, HB1.out⟩
  have HM := Lib.hid (ModOk.of t0)
  have HE := Lib.hid (show icsF m = (!decide ((0 : Int) ∈ m.doms) && stillF m) by unfold icsF; rw [t0]; rfl)
  clear t0
  go_wp2_with fail
  refine (containsInt _ _ _ _ _ _ (IntR.on G1.out HB1.out)).mono ?_
  rintro e w2 ⟨rfl, hb2⟩
  have HB2 := Lib.hid (bgo HB1.out hb2)
  have HA2 := Lib.hid (HA1.out.below_ hb2 HA1.out.lt)
  have hlt2 := HA2.out.lt
  have d0 := HA2.out.at_ 0 rfl
  have d1 := HA2.out.at_ 1 rfl
  simp only [List.getElem_toArray, List.getElem_cons_zero, List.getElem_cons_succ] at d0 d1
  clear b0 b1 hb2 HA1 HB1
  by_cases t1 : (0 : Int) ∈ m.doms
  · have HT := Lib.hid (decide_eq_true t1)
    rw [HT.out]
    rw [HT.out] at HE
    clear t1
    go_wp2_with fail
    go_ret
    exact ⟨ret_bool (HE.out.trans rfl).symm, HB2.out⟩
  · have HT := Lib.hid (decide_eq_false t1)
    rw [HT.out]
    rw [HT.out] at HE
    clear t1
    go_wp2_with fail
    refine (containsFuncCon ca m.cons.length cc m.cons 53 _ (fun c => !decide (filF c m.doms = m.doms)) _ (enters_of Try.func53 (by kernel_rfl) rfl) (ConsR.on G2.out HB2.out) (fun k x us W hk hW hx => consC us x _ _ cd da m.doms W hx (IntR.on G1.out (bgo HB2.out hW)) ((hW.cell (p := ⟨w.heap.size, 0, none⟩) (show w.heap.size < _ from hlt2)).trans d0) (Nat.lt_of_lt_of_le hlt2 hW.size) (HM.out.cons x (List.mem_of_getElem? hk)) HM.out.one HM.out.four HM.out.doms)).mono ?_
    rintro e w3 ⟨rfl, hb3⟩
    clear d0 d1
    go_wp2_with fail
    go_ret
    exact ⟨ret_bool ((HE.out.trans (Bool.true_and _)).trans (any_still m).symm).symm, bgo HB2.out hb3⟩
end Go.Proofs.Ytlmphpopcojjnaa
