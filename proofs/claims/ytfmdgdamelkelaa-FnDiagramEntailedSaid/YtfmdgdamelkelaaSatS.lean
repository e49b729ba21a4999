/- When values satisfy a constraint, by the reference. -/
import Derived.Test.YtfmdgdamelkelaaSolI
namespace Go.Proofs.Ytfmdgdamelkelaa
open Go.ChangeShapes Go.WideShapes Go.ChangeAt Go.RowKit
open Go.Shelf
set_option linter.unusedVariables false
set_option maxRecDepth 100000

set_option maxHeartbeats 4000000 in
theorem shasRow (A B : Option Addr) (n m c d : Nat) (rows : List (List Int)) (xs : List Int) (w : World) (h : RowsR w w.heap.size A n rows) (hx : IntR w w.heap.size B m xs) (hr : ∀ r ∈ rows, r.length = m) :
    Calls Try.prog 124 #[.slice A n c, .slice B m d] w fun e w' => e = .returned (.bool (hasF rows xs)) ∧ Below w.heap.size w w' := by
  have hn := h.le
  have hm := hx.le
  have hl := Lib.hid h.len
  have hlx := Lib.hid hx.len
  have HR := Lib.hid hr
  clear hr
  go_enter Try.func124, Try.ntmps124
  go_wp2_with fail
  go_loopw [5] (fun i wr => ∃ k : Nat, k ≤ n ∧ i = .int .i64 k ∧ Hid (AllB (fun r => !decide (r = xs)) rows k) ∧ Below w.heap.size w wr) (fun i _ => n - (intOf i).toNat)
  case atStart => exact ⟨0, by omega, rfl, AllB.zero _ _, Below.refl _ _⟩
  case round =>
    obtain ⟨k, hk, rfl, hq, hb⟩ := hrel
    rename World => wo
    by_cases hlt : k < n
    · obtain ⟨rb, ro, r, u, rfl, hrb, hrk, hcr0, A1, c1, rfl, hr0⟩ := SlR.at_ (h.below (RowC.keeps IntC.keeps) hb) hlt
      have hlr := HR.out r (List.mem_of_getElem? hrk)
      have HRK := Lib.hid hrk
      have HLR := Lib.hid hlr
      have HR0 := Lib.hid (hr0.more IntC.widens hb.size)
      rw [hlr] at hcr0
      have HCR := Lib.hid hcr0
      clear hrk hlr hr0 hcr0
      go_wp2_with fail
      go_loopw [6, 7] (fun t i wr => ∃ j : Nat, j ≤ m ∧ i = .int .i64 j ∧ t = .bool (eqTo r xs j) ∧ Below wo.heap.size wo wr) (fun _ i _ => m - (intOf i).toNat)
      case atStart => exact ⟨0, by omega, rfl, rfl, Below.refl _ _⟩
      case round =>
        obtain ⟨j, hj, rfl, rfl, hb2⟩ := hrel
        have hbb := bgo hb hb2
        by_cases hlt2 : j < m
        · have hcr : wr.cell? ⟨rb, ro + k, none⟩ = some (.slice A1 m c1) := (hb2.cell (p := ⟨rb, ro + k, none⟩) (by show rb < _; have := hb.size; omega)).trans HCR.out
          obtain ⟨ab, ao, a, rfl, hab, hak, hca⟩ := IntR.at_ (k := j) (HR0.out.below IntC.keeps hb2) (by have := HLR.out; omega)
          obtain ⟨bb, bo, b, rfl, hbb2, hbk, hcb⟩ := IntR.at_ (k := j) (hx.below IntC.keeps hbb) hlt2
          have HS := Lib.hid (eqTo_eq hak hbk)
          clear hak hbk
          cases he : eqTo r xs j
          · have HE := Lib.hid he
            go_wp2_with fail
            go_quiet (fail)
            go_wp2_with fail
            go_roundw
            case rel => exact ⟨j + 1, by omega, by go_num, by rw [HS.out, HE.out]; rfl, below_drewN hb2 _⟩
            case measure => simp [intOf]; omega
          · have HE := Lib.hid he
            go_wp2_with fail
            go_quiet (fail)
            go_wp2_with fail
            go_roundw
            case rel => exact ⟨j + 1, by omega, by go_num, by rw [HS.out, HE.out]; rfl, below_drewN hb2 _⟩
            case measure => simp [intOf]; omega
        · obtain rfl : j = m := by omega
          have HD := Lib.hid (eqTo_done HLR.out hlx.out)
          cases he : eqTo r xs j
          · have HE := Lib.hid he
            go_wp2_with fail
            go_roundw
            case rel => exact ⟨k + 1, by omega, by go_num, AllB.succ hq.out HRK.out (by rw [← HD.out, HE.out]; rfl), hbb⟩
            case measure => simp [intOf]; omega
          · have HE := Lib.hid he
            go_wp2_with fail
            go_ret
            exact ⟨ret_bool (hasF_yes HRK.out (by rw [← HD.out]; exact HE.out)).symm, hbb⟩
    · obtain rfl : k = n := by omega
      have HE := Lib.hid (hasF_no hl.out hq.out)
      go_wp2_with fail
      go_ret
      exact ⟨ret_bool HE.out.symm, hb⟩
set_option maxHeartbeats 4000000 in
theorem swithin (us : List Value) (c : Con) (A : Option Addr) (n d : Nat) (xs : List Int) (w : World) (h : ConR w w.heap.size us c) (hx : IntR w w.heap.size A n xs) (hk : c.kind = 7) (ho : SatOk c xs) :
    Calls Try.prog 125 #[.agg us.toArray, .slice A n d] w fun e w' => e = .returned (.bool (roomF c xs)) ∧ Below w.heap.size w w' := by
  obtain ⟨va, aa, ra, cv, ca, cr, rfl, g1, g2, g3, cap1, cap2⟩ := h
  obtain ⟨wa, hwa⟩ : ∃ wa, wa = w.alloc (.cells #[.int .i64 c.kind, .slice va c.vars.length cv, .slice aa c.args.length ca, .int .i64 c.bound, .slice ra c.rows.length cr] 29) := ⟨_, rfl⟩
  have hb0 : Below w.heap.size w wa := by rw [hwa]; exact b_alloc _ _
  have hsz : wa.heap.size = w.heap.size + 1 := by rw [hwa, size_alloc_]
  have ha : TBlk 29 wa w.heap.size #[.int .i64 c.kind, .slice va c.vars.length cv, .slice aa c.args.length ca, .int .i64 c.bound, .slice ra c.rows.length cr] := by rw [hwa]; exact TBlk.new _ _ _
  have HA := Lib.hid ha
  have G2 := Lib.hid (IntR.on g2 hb0)
  have GX := Lib.hid (IntR.on hx hb0)
  have hl := Lib.hid hx.len
  have h7 := ho.a7 hk
  have h4 := ho.four
  rw [hx.len] at h7 h4
  have H7 := Lib.hid h7
  obtain ⟨na, hna⟩ : ∃ na, na = c.args.length := ⟨_, rfl⟩
  rw [← hna] at G2 h7 HA
  clear g1 g2 g3 cap1 cap2 hx ha hk ho
  go_enter Try.func125, Try.ntmps125
  go_wp2_with fail
  rw [← hwa]
  clear hwa hna
  go_loopw [6] (fun t wr => ∃ j : Nat, j ≤ 15 ∧ t = .int .i64 j ∧ Hid (UpTo (roomAt c xs) j) ∧ Below wa.heap.size wa wr) (fun t _ => 15 - (intOf t).toNat)
  case atStart => exact ⟨0, by omega, rfl, UpTo.zero _, Below.refl _ _⟩
  case round =>
    obtain ⟨j, hj, rfl, hq, hb⟩ := hrel
    rename World => wo
    by_cases hlt : j < 15
    · have hj14 : decide ((j : Int) ≤ 14) = true := decide_eq_true (by omega)
      go_wp2_with fail
      go_loopw [7, 8] (fun t i wr => ∃ k : Nat, k ≤ n ∧ i = .int .i64 k ∧ t = .int .i64 (loadTo c.args xs n j k) ∧ Below wa.heap.size wa wr) (fun _ i _ => n - (intOf i).toNat)
      case atStart => exact ⟨0, by omega, rfl, rfl, hb⟩
      case round =>
        obtain ⟨k, hk, rfl, rfl, hb2⟩ := hrel
        have a2 : wr.cell? ⟨w.heap.size, 2, none⟩ = some (.slice aa na ca) := (HA.out.below_ hb2 (by omega)).at_ 2 rfl
        have a3 : wr.cell? ⟨w.heap.size, 3, none⟩ = some (.int .i64 c.bound) := (HA.out.below_ hb2 (by omega)).at_ 3 rfl
        by_cases hlt2 : k < n
        · obtain ⟨xb, xo, x, rfl, hxb, hxk, hcx⟩ := IntR.at_ (GX.out.below IntC.keeps hb2) hlt2
          obtain ⟨ab, ao, a, rfl, hab, hak, hca⟩ := IntR.at_ (k := k) (G2.out.below IntC.keeps hb2) (by omega)
          obtain ⟨bb, bo, b, e2, hbb, hbk, hcb⟩ := IntR.at_ (k := n + k) (G2.out.below IntC.keeps hb2) (by omega)
          injection e2 with e2
          injection e2 with e3 e4
          subst e3 e4
          have HR := Lib.hid (runs_eq (t := j) hak hxk)
          have HBK := Lib.hid hbk
          have hkn : (k : Int) < (na : Int) := by omega
          have hadd : wrap64 ((n : Int) + (k : Int)) = ((n + k : Nat) : Int) := by rw [IntWalk.wrap64_in _ ⟨by omega, by omega⟩]; omega
          have hnk : ((n + k : Nat) : Int) < (na : Int) := by omega
          have hnk0 : (0 : Int) ≤ ((n + k : Nat) : Int) := by omega
          have n2 : ∀ nq, (wr.drewN nq).cell? ⟨w.heap.size, 2, none⟩ = some (.slice (some ⟨ab, ao, none⟩) na ca) := fun nq => a2
          have n3 : ∀ nq, (wr.drewN nq).cell? ⟨ab, ao + (n + k), none⟩ = some (.int .i64 b) := fun nq => hcb
          clear hxk hak hbk
          cases t1 : decide (x ≤ (j : Int))
          · have HS := Lib.hid (loadTo_no (m := n) (i := k) (HR.out.trans (by rw [t1]; rfl)))
            go_wp2_with fail
            go_quiet (fail)
            go_wp2_with fail
            go_roundw
            case rel => exact ⟨k + 1, by omega, by go_num, by rw [HS.out], below_drewN hb2 _⟩
            case measure => simp [intOf]; omega
          · cases t2 : decide ((j : Int) < wrap64 (x + a))
            · have HS := Lib.hid (loadTo_no (m := n) (i := k) (HR.out.trans (by rw [t1, t2]; rfl)))
              go_wp2_with fail
              go_quiet (fail)
              go_wp2_with fail
              go_roundw
              case rel => exact ⟨k + 1, by omega, by go_num, by rw [HS.out], below_drewN hb2 _⟩
              case measure => simp [intOf]; omega
            · have HS := Lib.hid (loadTo_yes (m := n) (i := k) (HR.out.trans (by rw [t1, t2]; rfl)) HBK.out)
              go_wp2_with fail
              go_quiet (fail)
              go_wp2_with fail
              go_roundw
              case rel => exact ⟨k + 1, by omega, by go_num, by rw [HS.out], below_drewN hb2 _⟩
              case measure => simp [intOf]; omega
        · obtain rfl : k = n := by omega
          cases t3 : decide (c.bound < loadTo c.args xs k j k)
          · have T3 := Lib.hid t3
            go_wp2_with fail
            go_roundw
            case rel => exact ⟨j + 1, by omega, by go_num, UpTo.succ hq.out (by unfold roomAt; rw [hl.out, T3.out]; rfl), hb2⟩
            case measure => simp [intOf]; omega
          · have T3 := Lib.hid t3
            go_wp2_with fail
            go_ret
            refine ⟨ret_bool ?_, bgo hb0 hb2⟩
            unfold roomF
            rw [all_range_no (i := j) hlt (by unfold roomAt; rw [hl.out, T3.out]; rfl)]
    · obtain rfl : j = 15 := by omega
      have HE := Lib.hid (show roomF c xs = true from UpTo.done hq.out)
      go_wp2_with fail
      go_ret
      exact ⟨ret_bool HE.out.symm, bgo hb0 hb⟩
set_option maxHeartbeats 4000000 in
theorem saccepts (us : List Value) (c : Con) (A : Option Addr) (n d : Nat) (xs : List Int) (w : World) (h : ConR w w.heap.size us c) (hx : IntR w w.heap.size A n xs) (hk : c.kind = 8) (ho : SatOk c xs) :
    Calls Try.prog 126 #[.agg us.toArray, .slice A n d] w fun e w' => e = .returned (.bool (autF c xs)) ∧ Below w.heap.size w w' := by
  obtain ⟨va, aa, ra, cv, ca, cr, rfl, g1, g2, g3, cap1, cap2⟩ := h
  obtain ⟨wa, hwa⟩ : ∃ wa, wa = w.alloc (.cells #[.int .i64 c.kind, .slice va c.vars.length cv, .slice aa c.args.length ca, .int .i64 c.bound, .slice ra c.rows.length cr] 29) := ⟨_, rfl⟩
  have hb0 : Below w.heap.size w wa := by rw [hwa]; exact b_alloc _ _
  have hsz : wa.heap.size = w.heap.size + 1 := by rw [hwa, size_alloc_]
  have ha : TBlk 29 wa w.heap.size #[.int .i64 c.kind, .slice va c.vars.length cv, .slice aa c.args.length ca, .int .i64 c.bound, .slice ra c.rows.length cr] := by rw [hwa]; exact TBlk.new _ _ _
  have HA := Lib.hid ha
  have G2 := Lib.hid (IntR.on g2 hb0)
  have G3 := Lib.hid (SlR.on (RowC.keeps IntC.keeps) (RowC.widens IntC.widens) g3 hb0)
  have GX := Lib.hid (IntR.on hx hb0)
  have hn := hx.le
  have hna := g2.le
  have hl := Lib.hid hx.len
  have h8 := Lib.hid (ho.a8 hk)
  have HO := Lib.hid ho
  have hr1 := h8.out.1
  have hr8 := h8.out.2.1
  clear g1 g2 g3 cap1 cap2 hx ha hk ho
  go_enter Try.func126, Try.ntmps126
  go_wp2_with fail
  rw [← hwa]
  clear hwa
  go_loopw [5, 6] (fun t i wr => ∃ k : Nat, k ≤ n ∧ i = .int .i64 k ∧ t = .int .i64 (autTo c.rows xs k) ∧ 0 ≤ autTo c.rows xs k ∧ autTo c.rows xs k < c.rows.length ∧ Hid (UpTo (autAt c.rows xs) k) ∧ Below wa.heap.size wa wr) (fun _ i _ => n - (intOf i).toNat)
  case atStart => exact ⟨0, by omega, rfl, rfl, Int.le_refl 0, by show (0 : Int) < _; omega, UpTo.zero _, Below.refl _ _⟩
  case round =>
    obtain ⟨k, hk, rfl, rfl, hs0, hs1, hq, hb⟩ := hrel
    have a2 : wr.cell? ⟨w.heap.size, 2, none⟩ = some (.slice aa c.args.length ca) := (HA.out.below_ hb (by omega)).at_ 2 rfl
    have a4 : wr.cell? ⟨w.heap.size, 4, none⟩ = some (.slice ra c.rows.length cr) := (HA.out.below_ hb (by omega)).at_ 4 rfl
    by_cases hlt : k < n
    · obtain ⟨ab, ao, x, rfl, hab, hxk, hcx⟩ := IntR.at_ (GX.out.below IntC.keeps hb) hlt
      have hx0 := (HO.out.val x (List.mem_of_getElem? hxk)).1
      have hx5 := (HO.out.val x (List.mem_of_getElem? hxk)).2
      obtain ⟨rb, ro, r, u, rfl, hrb, hrk, hcr, A1, c1, rfl, hr6⟩ := SlR.at_ (k := (autTo c.rows xs k).toNat) (G3.out.below (RowC.keeps IntC.keeps) hb) (by omega)
      have h6 := (h8.out.2.2 r (List.mem_of_getElem? hrk))
      have hlr := h6.1
      rw [hlr] at hcr hr6
      obtain ⟨yb, yo, y, rfl, hyb, hyk, hcy⟩ := IntR.at_ (k := x.toNat) hr6 (by omega)
      have hy := h6.2 y (List.mem_of_getElem? hyk)
      have HS := Lib.hid (autTo_eq hrk hxk hyk)
      have HY := Lib.hid hy
      clear hxk hrk hyk h6 hy
      cases ht : decide (y < 0)
      · have HT := Lib.hid ht
        go_wp2_with fail
        go_quiet (fail)
        go_wp2_with fail
        go_roundw
        case rel => exact ⟨k + 1, by omega, by go_num, by rw [HS.out], by rw [HS.out]; have := of_decide_eq_false HT.out; omega, by rw [HS.out]; exact HY.out.2, UpTo.succ hq.out (by unfold autAt; rw [HS.out, HT.out]; rfl), below_drewN hb _⟩
        case measure => simp [intOf]; omega
      · have HT := Lib.hid ht
        go_wp2_with fail
        go_quiet (fail)
        go_wp2_with fail
        go_ret
        refine ⟨ret_bool ?_, bgo hb0 (below_drewN hb _)⟩
        unfold autF
        rw [all_range_no (i := k) (by rw [hl.out]; exact hlt) (by unfold autAt; rw [HS.out, HT.out]; rfl)]; rfl
    · obtain rfl : k = n := by omega
      have HE := Lib.hid (show autF c xs = decide (autTo c.rows xs k ∈ c.args) by unfold autF; rw [hl.out, UpTo.done hq.out, Bool.true_and])
      obtain ⟨s, hs⟩ : ∃ s, s = autTo c.rows xs k := ⟨_, rfl⟩
      rw [← hs] at HE hs0 hs1 ⊢
      clear hs hq a4
      rename World => wo
      have HB := Lib.hid hb
      go_wp2_with fail
      go_loop [7] (fun i => ∃ q : Nat, q ≤ c.args.length ∧ i = .int .i64 q ∧ Hid (AllB (fun y => !(y == s)) c.args q)) (fun i => c.args.length - (intOf i).toNat)
      case atStart => exact ⟨0, by omega, rfl, AllB.zero _ _⟩
      case round =>
        obtain ⟨q, hq, rfl, hqq⟩ := hrel
        by_cases hlt3 : q < c.args.length
        · obtain ⟨ab, ao, y, rfl, hab, hyk, hcy⟩ := IntR.at_ (G2.out.below IntC.keeps HB.out) hlt3
          have HYK := Lib.hid hyk
          clear hyk
          cases he : (y == s)
          · have HE2 := Lib.hid he
            go_wp2_with fail
            go_round
            case rel => exact ⟨q + 1, by omega, by go_num, AllB.succ hqq.out HYK.out (by rw [HE2.out]; rfl)⟩
            case measure => simp [intOf]; omega
          · have HE2 := Lib.hid he
            go_wp2_with fail
            go_ret
            refine ⟨ret_bool ?_, bgo hb0 HB.out⟩
            rw [HE.out, decide_eq_true]
            rw [← beq_iff_eq.1 HE2.out]; exact List.mem_of_getElem? HYK.out
        · obtain rfl : q = c.args.length := by omega
          have HF := Lib.hid (show decide (s ∈ c.args) = false from decide_eq_false fun hm => by
            have := AllB.done hqq.out (Nat.le_refl _)
            rw [List.all_eq_true] at this
            have := this s hm
            simp at this)
          go_wp2_with fail
          go_ret
          exact ⟨ret_bool (HE.out.trans HF.out).symm, bgo hb0 HB.out⟩
set_option maxHeartbeats 4000000 in
theorem sisCircuit (A : Option Addr) (n d : Nat) (xs : List Int) (w : World) (hx : IntR w w.heap.size A n xs) (hv : ∀ v ∈ xs, 0 ≤ v ∧ v ≤ 5) (h1 : 1 ≤ n) (h4 : n ≤ 4) :
    Calls Try.prog 127 #[.slice A n d] w fun e w' => e = .returned (.bool (cycF xs)) ∧ w = w' := by
  have hl := Lib.hid hx.len
  have HV := Lib.hid hv
  have GX := Lib.hid hx
  clear hv
  go_enter Try.func127, Try.ntmps127
  go_wp2_with fail
  go_loop [3, 4] (fun a s => ∃ k : Nat, k ≤ n ∧ s = .int .i64 ((k + 1 : Nat) : Int) ∧ a = .int .i64 (itF xs k) ∧ itF xs k < n ∧ Hid (∀ j, 1 ≤ j → j ≤ k → itF xs j ≠ 0) ∧ Hid (∀ j, j < k → gat xs (itF xs j) < (n : Int))) (fun _ s => n + 1 - (intOf s).toNat)
  case atStart => exact ⟨0, by omega, rfl, rfl, by show 0 < n; omega, Lib.hid (fun j h1 h2 => by omega), Lib.hid (fun j h => by omega)⟩
  case round =>
    obtain ⟨k, hk, rfl, rfl, hin, hq, hg⟩ := hrel
    by_cases hlt : k < n
    · have t0 : decide (((k + 1 : Nat) : Int) ≤ (n : Int)) = true := decide_eq_true (by omega)
      obtain ⟨xb, xo, x, rfl, hxb, hxk, hcx⟩ := IntR.at_ (k := itF xs k) GX.out hin
      have HM := Lib.hid (List.mem_of_getElem? hxk)
      have hx0 := (HV.out x (List.mem_of_getElem? hxk)).1
      have HIT := Lib.hid (itF_eq hxk)
      have HGX := Lib.hid (gat_eq hxk)
      clear hxk
      cases t1 : decide ((n : Int) ≤ x)
      · have hxn := of_decide_eq_false t1
        have HXN := Lib.hid hxn
        cases t2 : (x == 0)
        · have T2 := Lib.hid t2
          go_wp2_with fail
          go_round
          case rel =>
            refine ⟨k + 1, by omega, by go_num, by rw [HIT.out]; congr 1; omega, by rw [HIT.out]; have := HXN.out; omega, Lib.hid (fun j h1 h2 => ?_), Lib.hid (fun j h => ?_)⟩
            · rcases Nat.lt_or_ge j (k + 1) with h | h
              · exact hq.out j h1 (by omega)
              · obtain rfl : j = k + 1 := by omega
                rw [HIT.out]
                have := beq_eq_false_iff_ne.1 T2.out
                omega
            · rcases Nat.lt_or_ge j k with h2 | h2
              · exact hg.out j h2
              · obtain rfl : j = k := by omega
                rw [HGX.out]; have := HXN.out; omega
          case measure => simp [intOf]; omega
        · have hz : itF xs (k + 1) = 0 := by rw [HIT.out, beq_iff_eq.1 t2]; rfl
          have HE := Lib.hid (show (((k + 1 : Nat) : Int) == (n : Int)) = cycF xs by
            rcases Nat.lt_or_ge (k + 1) n with h | h
            · unfold cycF
              rw [zero_early (s := k + 1) (by omega) (by rw [hl.out]; exact h) hz, Bool.and_false]
              exact beq_eq_false_iff_ne.2 (by omega)
            · obtain rfl : n = k + 1 := by omega
              have hz2 : zeroAt xs = true := zero_now (by rw [hl.out]; exact hz) (fun j h1 h2 => hq.out j h1 (by rw [hl.out] at h2; omega))
              have ha := cyc_all (xs := xs) (by rw [hl.out]; omega) (by rw [hl.out]; exact h4) HV.out hz2 (fun j hj => by
                rw [hl.out] at hj ⊢
                rcases Nat.lt_or_ge j k with h3 | h3
                · exact hg.out j h3
                · obtain rfl : j = k := by omega
                  rw [HGX.out]; have := HXN.out; omega)
              unfold cycF
              rw [ha, hz2]; simp)
          clear hz
          go_wp2_with fail
          go_ret
          exact ⟨ret_bool HE.out, rfl⟩
      · have HE := Lib.hid (show cycF xs = false by
          unfold cycF
          rw [show (xs.all fun v => decide (v < (xs.length : Int))) = false by
            rw [List.all_eq_false]; refine ⟨x, HM.out, ?_⟩; rw [hl.out]; simpa using of_decide_eq_true t1]
          rfl)
        go_wp2_with fail
        go_ret
        exact ⟨ret_bool HE.out.symm, rfl⟩
    · obtain rfl : k = n := by omega
      have t0 : decide (((k + 1 : Nat) : Int) ≤ (k : Int)) = false := decide_eq_false (by omega)
      have HE := Lib.hid (show cycF xs = false by
        unfold cycF
        rw [zero_late (by rw [hl.out]; exact hq.out k h1 (Nat.le_refl _)), Bool.and_false])
      go_wp2_with fail
      go_ret
      exact ⟨ret_bool HE.out.symm, rfl⟩
set_option maxHeartbeats 8000000 in
theorem ssatisfies (us : List Value) (c : Con) (A : Option Addr) (n d : Nat) (xs : List Int) (w : World) (h : ConR w w.heap.size us c) (hx : IntR w w.heap.size A n xs) (ho : SatOk c xs) :
    Calls Try.prog 107 #[.agg us.toArray, .slice A n d] w fun e w' => e = .returned (.bool (satF c xs)) ∧ Below w.heap.size w w' := by
  have HC := Lib.hid h
  obtain ⟨va, aa, ra, cv, ca, cr, rfl, g1, g2, g3, cap1, cap2⟩ := h
  obtain ⟨na, hna⟩ : ∃ na, na = c.args.length := ⟨_, rfl⟩
  rw [← hna] at g2 HC
  rw [← hna]
  obtain ⟨wa, hwa⟩ : ∃ wa, wa = w.alloc (.cells #[.int .i64 c.kind, .slice va c.vars.length cv, .slice aa na ca, .int .i64 c.bound, .slice ra c.rows.length cr] 29) := ⟨_, rfl⟩
  have hb0 : Below w.heap.size w wa := by rw [hwa]; exact b_alloc _ _
  have hsz : wa.heap.size = w.heap.size + 1 := by rw [hwa, size_alloc_]
  have ha : TBlk 29 wa w.heap.size #[.int .i64 c.kind, .slice va c.vars.length cv, .slice aa na ca, .int .i64 c.bound, .slice ra c.rows.length cr] := by rw [hwa]; exact TBlk.new _ _ _
  have HA := Lib.hid ha
  have G2 := Lib.hid (IntR.on g2 hb0)
  have G3 := Lib.hid (SlR.on (RowC.keeps IntC.keeps) (RowC.widens IntC.widens) g3 hb0)
  have GX := Lib.hid (IntR.on hx hb0)
  have HCA := Lib.hid (ConR.on HC.out hb0)
  have HNA := Lib.hid hna
  have HO := Lib.hid ho
  have hl := Lib.hid hx.len
  have hn := hx.le
  have a0 : wa.cell? ⟨w.heap.size, 0, none⟩ = some (.int .i64 c.kind) := ha.at_ 0 rfl
  have a1 : wa.cell? ⟨w.heap.size, 1, none⟩ = some (.slice va c.vars.length cv) := ha.at_ 1 rfl
  have a2 : wa.cell? ⟨w.heap.size, 2, none⟩ = some (.slice aa na ca) := ha.at_ 2 rfl
  have a3 : wa.cell? ⟨w.heap.size, 3, none⟩ = some (.int .i64 c.bound) := ha.at_ 3 rfl
  have a4 : wa.cell? ⟨w.heap.size, 4, none⟩ = some (.slice ra c.rows.length cr) := ha.at_ 4 rfl
  clear ha g1 g2 g3 cap1 cap2 hx ho hna
  go_enter Try.func107, Try.ntmps107
  rcases HO.out.kinds with k | k | k | k | k | k | k | k | k
  · rw [k] at a0 hwa HA ⊢
    have hnn : na = n := by rw [HNA.out, HO.out.a1 k, hl.out]
    subst hnn
    have HE := Lib.hid (show satF c xs = decide (valTo c.args xs na ≤ c.bound) by rw [sat1 k, hl.out])
    clear k
    go_wp2_with fail
    rw [← hwa]
    clear hwa a0 a1 a2 a3 a4
    go_loopw [5, 6] (fun t i wr => ∃ k : Nat, k ≤ na ∧ i = .int .i64 k ∧ t = .int .i64 (valTo c.args xs k) ∧ Below wa.heap.size wa wr) (fun _ i _ => na - (intOf i).toNat)
    case atStart => exact ⟨0, by omega, rfl, rfl, Below.refl _ _⟩
    case round =>
      obtain ⟨k, hk, rfl, rfl, hb⟩ := hrel
      have a2 : wr.cell? ⟨w.heap.size, 2, none⟩ = some (.slice aa na ca) := (HA.out.below_ hb (by omega)).at_ 2 rfl
      have a3 : wr.cell? ⟨w.heap.size, 3, none⟩ = some (.int .i64 c.bound) := (HA.out.below_ hb (by omega)).at_ 3 rfl
      by_cases hlt : k < na
      · obtain ⟨ab, ao, x, rfl, hab, hxk, hcx⟩ := IntR.at_ (G2.out.below IntC.keeps hb) hlt
        obtain ⟨bb, bo, y, rfl, hbb, hyk, hcy⟩ := IntR.at_ (GX.out.below IntC.keeps hb) hlt
        have HS := Lib.hid (valTo_eq hxk hyk)
        clear hxk hyk
        go_wp2_with fail
        go_quiet (fail)
        go_wp2_with fail
        go_roundw
        case rel => exact ⟨k + 1, by omega, by go_num, by rw [HS.out], below_drewN hb _⟩
        case measure => simp [intOf]; omega
      · obtain rfl : k = na := by omega
        go_wp2_with fail
        go_ret
        exact ⟨ret_bool HE.out.symm, bgo hb0 hb⟩
  · rw [k] at a0 hwa HA ⊢
    obtain ⟨h21, h22⟩ := HO.out.a2 k
    obtain rfl : na = 1 := by rw [HNA.out, h21]
    obtain rfl : n = 2 := by rw [← hl.out, h22]
    obtain ⟨xb, xo, x0, rfl, hxb, hxk0, hcx0⟩ := IntR.at_ (k := 0) GX.out (by omega)
    obtain ⟨xb', xo', x1, e2, hxb', hxk1, hcx1⟩ := IntR.at_ (k := 1) GX.out (by omega)
    injection e2 with e2
    injection e2 with e3 e4
    subst e3 e4
    obtain ⟨ab, ao, y0, rfl, hab, hak0, hcy0⟩ := IntR.at_ (k := 0) G2.out (by omega)
    have HE := Lib.hid (show satF c xs = (x0 != wrap64 (x1 + y0)) by rw [sat2 k, gat_eq hxk0, gat_eq hxk1, gat_eq hak0])
    have f0 : wa.cell? ⟨xb, xo, none⟩ = some (.int .i64 x0) := hcx0
    have f1 : wa.cell? ⟨xb, xo + 1, none⟩ = some (.int .i64 x1) := hcx1
    have f2 : wa.cell? ⟨ab, ao, none⟩ = some (.int .i64 y0) := hcy0
    clear k h21 h22 hxk0 hxk1 hak0 hcx0 hcx1 hcy0
    go_wp2_with fail
    rw [← hwa]
    clear hwa
    go_quiet (fail)
    go_wp2_with fail
    go_ret
    exact ⟨ret_bool HE.out.symm, below_drewN hb0 _⟩
  · rw [k] at a0 hwa HA ⊢
    have HE := Lib.hid (show satF c xs = disF xs from sat3 k)
    clear k
    go_wp2_with fail
    rw [← hwa]
    clear hwa
    refine (sdistinct _ _ _ _ _ GX.out).mono ?_
    rintro e w2 ⟨rfl, hb2⟩
    go_wp2_with fail
    go_ret
    exact ⟨ret_bool HE.out.symm, bgo hb0 hb2⟩
  · rw [k] at a0 hwa HA ⊢
    obtain rfl : n = 2 := by rw [← hl.out, HO.out.a4 k]
    obtain ⟨xb, xo, x0, rfl, hxb, hxk0, hcx0⟩ := IntR.at_ (k := 0) GX.out (by omega)
    obtain ⟨xb', xo', x1, e2, hxb', hxk1, hcx1⟩ := IntR.at_ (k := 1) GX.out (by omega)
    injection e2 with e2
    injection e2 with e3 e4
    subst e3 e4
    have hx0 := (HO.out.val x0 (List.mem_of_getElem? hxk0)).1
    have f0 : wa.cell? ⟨xb, xo, none⟩ = some (.int .i64 x0) := hcx0
    have f1 : wa.cell? ⟨xb, xo + 1, none⟩ = some (.int .i64 x1) := hcx1
    have hE : satF c xs = (decide (x0 < (na : Int)) && (gat c.args x0.toNat == x1)) := by rw [sat4 k, gat_eq hxk0, gat_eq hxk1, HNA.out]
    have HE := Lib.hid hE
    clear k hxk0 hxk1 hcx0 hcx1 hE
    cases t1 : decide (x0 < (na : Int))
    · have HF := Lib.hid (HE.out.trans (by rw [t1, Bool.false_and]))
      go_wp2_with fail
      rw [← hwa]
      clear hwa
      go_quiet (fail)
      go_wp2_with fail
      go_ret
      exact ⟨ret_bool HF.out.symm, below_drewN hb0 _⟩
    · have hlt := of_decide_eq_true t1
      obtain ⟨ab, ao, y0, rfl, hab, hak0, hcy0⟩ := IntR.at_ (k := x0.toNat) G2.out (by omega)
      have HF := Lib.hid (HE.out.trans (by rw [t1, gat_eq hak0, Bool.true_and]))
      clear hak0
      go_wp2_with fail
      rw [← hwa]
      clear hwa
      go_quiet (fail)
      go_wp2_with fail
      go_ret
      exact ⟨ret_bool HF.out.symm, below_drewN hb0 _⟩
  · have HR := Lib.hid (HO.out.a5 k)
    rw [k] at a0 hwa HA ⊢
    have HE := Lib.hid (show satF c xs = hasF c.rows xs from sat5 k)
    clear k
    go_wp2_with fail
    rw [← hwa]
    clear hwa
    refine (shasRow _ _ _ _ _ _ c.rows xs _ G3.out GX.out (by intro r hr; rw [HR.out r hr, hl.out])).mono ?_
    rintro e w2 ⟨rfl, hb2⟩
    go_wp2_with fail
    go_ret
    exact ⟨ret_bool HE.out.symm, bgo hb0 hb2⟩
  · have k6 := k
    rw [k] at a0 hwa HA ⊢
    obtain rfl : na = 1 := by rw [HNA.out, HO.out.a6 k6]
    obtain ⟨ab, ao, y0, rfl, hab, hak0, hcy0⟩ := IntR.at_ (k := 0) G2.out (by omega)
    have HE := Lib.hid (show satF c xs = (cntTo xs y0 n == c.bound) by rw [sat6 k6, gat_eq hak0, hl.out])
    have HF2 : Hid (wa.cell? ⟨ab, ao, none⟩ = some (.int .i64 y0)) := hcy0
    clear k k6 hak0 hcy0
    go_wp2_with fail
    rw [← hwa]
    clear hwa a0 a1 a2 a3 a4
    go_loopw [7, 8] (fun t i wr => ∃ k : Nat, k ≤ n ∧ i = .int .i64 k ∧ t = .int .i64 (cntTo xs y0 k) ∧ Below wa.heap.size wa wr) (fun _ i _ => n - (intOf i).toNat)
    case atStart => exact ⟨0, by omega, rfl, rfl, Below.refl _ _⟩
    case round =>
      obtain ⟨k, hk, rfl, rfl, hb⟩ := hrel
      have a2 : wr.cell? ⟨w.heap.size, 2, none⟩ = some (.slice (some ⟨ab, ao, none⟩) 1 ca) := (HA.out.below_ hb (by omega)).at_ 2 rfl
      have a3 : wr.cell? ⟨w.heap.size, 3, none⟩ = some (.int .i64 c.bound) := (HA.out.below_ hb (by omega)).at_ 3 rfl
      have f2 : wr.cell? ⟨ab, ao, none⟩ = some (.int .i64 y0) := (hb.cell (p := ⟨ab, ao, none⟩) hab).trans HF2.out
      by_cases hlt : k < n
      · obtain ⟨xb, xo, x, rfl, hxb, hxk, hcx⟩ := IntR.at_ (GX.out.below IntC.keeps hb) hlt
        cases t1 : (x == y0)
        · have HS := Lib.hid (cntTo_no hxk t1)
          clear hxk
          go_wp2_with fail
          go_quiet (fail)
          go_wp2_with fail
          go_roundw
          case rel => exact ⟨k + 1, by omega, by go_num, by rw [HS.out], below_drewN hb _⟩
          case measure => simp [intOf]; omega
        · have HS := Lib.hid (cntTo_yes hxk t1)
          clear hxk
          go_wp2_with fail
          go_quiet (fail)
          go_wp2_with fail
          go_roundw
          case rel => exact ⟨k + 1, by omega, by go_num, by rw [HS.out], below_drewN hb _⟩
          case measure => simp [intOf]; omega
      · obtain rfl : k = n := by omega
        go_wp2_with fail
        go_ret
        exact ⟨ret_bool HE.out.symm, bgo hb0 hb⟩
  · have HK := Lib.hid k
    have HE := Lib.hid (show satF c xs = roomF c xs from sat7 k)
    rw [k] at a0 hwa HA ⊢
    clear k
    go_wp2_with fail
    rw [← hwa]
    clear hwa
    refine (swithin _ c _ _ _ xs _ (by have := HCA.out; rw [HK.out] at this; exact this) GX.out HK.out HO.out).mono ?_
    rintro e w2 ⟨rfl, hb2⟩
    go_wp2_with fail
    go_ret
    exact ⟨ret_bool HE.out.symm, bgo hb0 hb2⟩
  · have HK := Lib.hid k
    have HE := Lib.hid (show satF c xs = autF c xs from sat8 k)
    rw [k] at a0 hwa HA ⊢
    clear k
    go_wp2_with fail
    rw [← hwa]
    clear hwa
    refine (saccepts _ c _ _ _ xs _ (by have := HCA.out; rw [HK.out] at this; exact this) GX.out HK.out HO.out).mono ?_
    rintro e w2 ⟨rfl, hb2⟩
    go_wp2_with fail
    go_ret
    exact ⟨ret_bool HE.out.symm, bgo hb0 hb2⟩
  · rw [k] at a0 hwa HA ⊢
    have HE := Lib.hid (show satF c xs = cycF xs from sat9 k)
    clear k
    go_wp2_with fail
    rw [← hwa]
    clear hwa
    refine (sisCircuit _ _ _ xs _ GX.out HO.out.val (by have := HO.out.one; rw [hl.out] at this; exact this) (by have := HO.out.four; rw [hl.out] at this; exact this)).mono ?_
    rintro e w2 ⟨rfl, rfl⟩
    go_wp2_with fail
    go_ret
    exact ⟨ret_bool HE.out.symm, hb0⟩
end Go.Proofs.Ytfmdgdamelkelaa
