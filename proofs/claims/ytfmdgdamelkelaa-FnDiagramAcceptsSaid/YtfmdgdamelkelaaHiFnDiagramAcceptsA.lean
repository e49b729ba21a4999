/- Texts laid into one: Acc CdP CdQ AccP BdG BdC Ent EntS Fil TpS BdD Tps2 BdS DgD DrawG. -/
import Derived.Test.YtfmdgdamelkelaaDiag2
import Derived.Test.YtfmdgdamelkelaaDdoP
import Derived.Test.YtfmdgdamelkelaaBdP
import Derived.Test.YtfmdgdamelkelaaTupP
import Derived.Test.YtfmdgdamelkelaaCnt
import Derived.Test.YtfmdgdamelkelaaTup2
import Derived.Test.YtfmdgdamelkelaaSatI
import Derived.Test.YtfmdgdamelkelaaSolI
import Derived.Test.YtfmdgdamelkelaaSatS
import Derived.Test.YtfmdgdamelkelaaHold
import Derived.Test.YtfmdgdamelkelaaNums
import Derived.Test.YtfmdgdamelkelaaGrow
import Derived.Deep.RegionLaw
import Derived.Test.YtfmdgdamelkelaaNxt
import Derived.Test.YtfmdgdamelkelaaDrawF
/- Diagrams: acceptance. -/
namespace Go.Proofs.Ytfmdgdamelkelaa
open Go.ChangeShapes Go.WideShapes Go.ChangeAt Go.RowKit
open Go.Shelf
set_option linter.unusedVariables false
set_option maxRecDepth 100000

set_option maxHeartbeats 1000000 in
theorem sDiagramAccepts (A B : Option Addr) (n m0 c c0 : Nat) (d : List (List (List Int))) (xs : List Int) (w : World) (h : LayersR w w.heap.size A n d) (hx : IntR w w.heap.size B m0 xs) :
    Calls Try.prog 32 #[.slice A n c, .slice B m0 c0] w fun e w' => e = .returned (.bool (accF d xs)) ∧ Below w.heap.size w w' := by
  have hn := h.le
  have hm0 := hx.le
  have hl := Lib.hid h.len
  have hlx := Lib.hid hx.len
  cases hv : vdgF d
  · have e : accF d xs = false := by unfold accF; rw [hv]; rfl
    rw [e]
    have HV := Lib.hid hv
    clear hv e
    go_enter Try.func32, Try.ntmps32
    go_wp2_with fail
    refine (svalidDiagram _ _ _ _ _ h).mono ?_
    rw [HV.out]
    rintro e w2 ⟨rfl, hb2⟩
    go_wp2_with fail
    go_ret
    exact ⟨rfl, hb2⟩
  · have HV := Lib.hid hv
    by_cases hnm : m0 = n
    · subst hnm
      have hne : ((m0 : Int) != (m0 : Int)) = false := by simp
      cases h5 : xs.all fun x => inB x 0 5
      · have e : accF d xs = false := by unfold accF; rw [h5]; simp
        rw [e]
        have H5 := Lib.hid h5
        clear hv e h5
        go_enter Try.func32, Try.ntmps32
        go_wp2_with fail
        refine (svalidDiagram _ _ _ _ _ h).mono ?_
        rw [HV.out]
        rintro e w2 ⟨rfl, hb2⟩
        go_wp2_with fail
        refine (allInRange _ _ _ _ _ _ _ (hx.on hb2)).mono ?_
        rw [H5.out]
        rintro e w3 ⟨rfl, hb3⟩
        go_wp2_with fail
        go_ret
        exact ⟨rfl, bgo hb2 hb3⟩
      · have HX5 := Lib.hid h5
        clear h5 hv
        go_enter Try.func32, Try.ntmps32
        go_wp2_with fail
        refine (svalidDiagram _ _ _ _ _ h).mono ?_
        rw [HV.out]
        rintro e w2 ⟨rfl, hb2⟩
        go_wp2_with fail
        refine (allInRange _ _ _ _ _ _ _ (hx.on hb2)).mono ?_
        rw [HX5.out]
        rintro e w3 ⟨rfl, hb3⟩
        have hb4 := bgo hb2 hb3
        clear hb2 hb3
        go_wp2_with fail
        go_loopw [5, 6] (fun t i wr => ∃ k a : Nat, k ≤ m0 ∧ i = .int .i64 k ∧ t = .int .i64 a ∧ Hid (AccInv d xs k a) ∧ Below w.heap.size w wr) (fun _ i _ => m0 - (intOf i).toNat)
        case atStart => exact ⟨0, 0, by omega, rfl, rfl, acc_start xs HV.out, hb4⟩
        case round =>
          obtain ⟨k, a, hk, rfl, rfl, hq, hb⟩ := hrel
          clear hb4
          by_cases hlt : k < m0
          · obtain ⟨ab, ao, l, u, rfl, hab, hxk, hcx, A1, c1, rfl, hl0⟩ := SlR.at_ (h.below (RowC.keeps (RowC.keeps IntC.keeps)) hb) hlt
            obtain ⟨bb, bo, v, rfl, hbb, hvk, hcv⟩ := IntR.at_ (hx.below IntC.keeps hb) hlt
            have hx05 := inB_true (List.all_eq_true.1 HX5.out v (List.mem_of_getElem? hvk))
            obtain ⟨r, e, hr, hr6, hre, hacc, he1, hinv⟩ := acc_step HV.out hq.out hxk hvk hx05
            obtain ⟨m, hm⟩ : ∃ m : Nat, v = (m : Int) := ⟨v.toNat, by omega⟩
            have hm6 : m < 6 := by omega
            rw [hm, Int.toNat_natCast] at hre
            have hal : a < l.length := hq.out.2.2 l hxk
            obtain ⟨lb, lo, r', u, rfl, hlb, hr', hcr, A2, c2, rfl, hr1⟩ := SlR.at_ hl0 hal
            rw [hr] at hr'
            injection hr' with hr'
            subst hr'
            rw [hr6] at hr1 hcr
            obtain ⟨rb, ro, e', rfl, hrb, hre', hce⟩ := IntR.at_ hr1 hm6
            rw [hre] at hre'
            injection hre' with hre'
            subst hre'
            have hll := hl0.le
            have HACC := Lib.hid hacc
            have HINV := Lib.hid hinv
            have HK := Lib.hid hxk
            rw [hm] at hcv
            clear hx05 hxk hvk hr hr6 hre hacc hinv hq hl0 hr1 hm
            by_cases he0 : 0 ≤ e
            · obtain ⟨a2, ha2⟩ : ∃ a2 : Nat, e = (a2 : Int) := ⟨e.toNat, by omega⟩
              rw [ha2] at hce
              have hin2 := HINV.out he0
              rw [ha2, Int.toNat_natCast] at hin2
              have HI2 := Lib.hid hin2
              clear hin2 ha2 he0 he1
              go_wp2_with fail
              go_quiet (fail)
              go_wp2_with fail
              go_roundw
              case rel => exact ⟨k + 1, a2, by omega, by go_num, rfl, HI2.out, below_drewN hb _⟩
              case measure => simp [intOf]; omega
            · have hem : e = -1 := by omega
              rw [hem] at hce HACC
              clear he0 he1 hem
              go_wp2_with fail
              go_quiet (fail)
              go_wp2_with fail
              go_ret
              exact ⟨ret_bool (acc_no hl.out hlt HACC.out (by omega)).symm, below_drewN hb _⟩
          · obtain rfl : k = m0 := by omega
            have hup := hq.out.2.1.done
            have HU := Lib.hid hup
            clear hup
            go_wp2_with fail
            go_ret
            exact ⟨ret_bool (by unfold accF; rw [HV.out, HX5.out, hl.out, hlx.out, HU.out]; simp), hb⟩
    · have hne : ((m0 : Int) != (n : Int)) = true := by simp; omega
      have e : accF d xs = false := by unfold accF; rw [decide_eq_false (by rw [hl.out, hlx.out]; exact hnm)]; simp
      rw [e]
      clear hv e hnm
      go_enter Try.func32, Try.ntmps32
      go_wp2_with fail
      refine (svalidDiagram _ _ _ _ _ h).mono ?_
      rw [HV.out]
      rintro e w2 ⟨rfl, hb2⟩
      go_wp2_with fail
      go_ret
      exact ⟨rfl, hb2⟩
theorem assigned (A : Option Addr) (n c : Nat) (m : Int) (xs : List Int) (w : World) (h : IntR w w.heap.size A n xs) :
    Calls Try.prog 70 #[.slice A n c, .int .i64 m] w fun e w' => e = .returned (.bool (decide ((n : Int) = m) && xs.all fun x => inB x 0 5)) ∧ Below w.heap.size w w' := by
  have hn := h.le
  by_cases hnm : (n : Int) = m
  · have hb1 : ((n : Int) == m) = true := by simpa using hnm
    rw [decide_eq_true hnm, Bool.true_and]
    have HN := Lib.hid hnm
    clear hnm
    go_enter Try.func70, Try.ntmps70
    go_wp2_with (go_at_call 76; refine (allIn _ _ _ _ _ _ _ h).mono ?_; rintro e w' ⟨rfl, hb⟩)
    go_ret
    exact ⟨rfl, hb⟩
  · have hb1 : ((n : Int) == m) = false := by simpa using hnm
    rw [decide_eq_false hnm, Bool.false_and]
    clear hnm
    go_enter Try.func70, Try.ntmps70
    go_wp2_with fail
    go_ret
    exact ⟨rfl, Below.refl _ _⟩
theorem assigned_b (A : Option Addr) (n c : Nat) (m : Int) (xs : List Int) (w : World) (b : Bool) (hb : (decide ((n : Int) = m) && xs.all fun x => inB x 0 5) = b) (h : IntR w w.heap.size A n xs) :
    Calls Try.prog 70 #[.slice A n c, .int .i64 m] w fun e w' => e = .returned (.bool b) ∧ Below w.heap.size w w' := by
  subst hb; exact assigned A n c m xs w h
set_option maxHeartbeats 1000000 in
theorem iDiagramAccepts (A B : Option Addr) (n m0 c c0 : Nat) (d : List (List (List Int))) (xs : List Int) (w : World) (h : LayersR w w.heap.size A n d) (hx : IntR w w.heap.size B m0 xs) :
    Calls Try.prog 31 #[.slice A n c, .slice B m0 c0] w fun e w' => e = .returned (.bool (accF d xs)) ∧ Below w.heap.size w w' := by
  have hn := h.le
  have hm0 := hx.le
  have hl := Lib.hid h.len
  have hlx := Lib.hid hx.len
  cases hv : vdgF d
  · have e : accF d xs = false := by unfold accF; rw [hv]; rfl
    rw [e]
    have HV := Lib.hid hv
    clear hv e
    go_enter Try.func31, Try.ntmps31
    go_wp2_with fail
    refine (iValidDiagram _ _ _ _ _ h).mono ?_
    rw [HV.out]
    rintro e w2 ⟨rfl, hb2⟩
    go_wp2_with fail
    go_ret
    exact ⟨rfl, hb2⟩
  · have HV := Lib.hid hv
    cases ha : (decide ((m0 : Int) = (n : Int)) && xs.all fun x => inB x 0 5)
    · have e : accF d xs = false := by
        unfold accF
        rw [hv, hl.out, hlx.out, Bool.true_and]
        have e2 : decide (m0 = n) = decide ((m0 : Int) = (n : Int)) := by rw [Bool.eq_iff_iff]; simp; omega
        rw [e2, ha]; rfl
      rw [e]
      have HA := Lib.hid ha
      clear hv e ha
      go_enter Try.func31, Try.ntmps31
      go_wp2_with fail
      refine (iValidDiagram _ _ _ _ _ h).mono ?_
      rw [HV.out]
      rintro e w2 ⟨rfl, hb2⟩
      go_wp2_with fail
      refine (assigned_b _ _ _ _ xs _ _ HA.out (hx.on hb2)).mono ?_
      rintro e w3 ⟨rfl, hb3⟩
      go_wp2_with fail
      go_ret
      exact ⟨rfl, bgo hb2 hb3⟩
    · have HA := Lib.hid ha
      rw [Bool.and_eq_true] at ha
      obtain rfl : m0 = n := by have := of_decide_eq_true ha.1; omega
      have HX5 := Lib.hid ha.2
      have HA := Lib.hid (show (decide ((m0 : Int) = (m0 : Int)) && xs.all fun x => inB x 0 5) = true by rw [HX5.out]; simp)
      clear ha hv
      go_enter Try.func31, Try.ntmps31
      go_wp2_with fail
      refine (iValidDiagram _ _ _ _ _ h).mono ?_
      rw [HV.out]
      rintro e w2 ⟨rfl, hb2⟩
      go_wp2_with fail
      refine (assigned_b _ _ _ (m0 : Int) xs _ true (by rw [HX5.out]; simp) (hx.on hb2)).mono ?_
      rintro e w3 ⟨rfl, hb3⟩
      have hb4 := bgo hb2 hb3
      clear hb2 hb3
      go_wp2_with fail
      go_loopw [5, 20] (fun t i wr => ∃ k a : Nat, k ≤ m0 ∧ i = .int .i64 k ∧ t = .int .i64 a ∧ Hid (AccInv d xs k a) ∧ Below w.heap.size w wr) (fun _ i _ => m0 - (intOf i).toNat)
      case atStart => exact ⟨0, 0, by omega, rfl, rfl, acc_start xs HV.out, hb4⟩
      case round =>
        obtain ⟨k, a, hk, rfl, rfl, hq, hb⟩ := hrel
        clear hb4
        by_cases hlt : k < m0
        · obtain ⟨ab, ao, l, u, rfl, hab, hxk, hcx, A1, c1, rfl, hl0⟩ := SlR.at_ (h.below (RowC.keeps (RowC.keeps IntC.keeps)) hb) hlt
          obtain ⟨bb, bo, v, rfl, hbb, hvk, hcv⟩ := IntR.at_ (hx.below IntC.keeps hb) hlt
          have hx05 := inB_true (List.all_eq_true.1 HX5.out v (List.mem_of_getElem? hvk))
          obtain ⟨r, e, hr, hr6, hre, hacc, he1, hinv⟩ := acc_step HV.out hq.out hxk hvk hx05
          obtain ⟨m, hm⟩ : ∃ m : Nat, v = (m : Int) := ⟨v.toNat, by omega⟩
          have hm6 : m < 6 := by omega
          rw [hm, Int.toNat_natCast] at hre
          have hal : a < l.length := hq.out.2.2 l hxk
          obtain ⟨lb, lo, r', u, rfl, hlb, hr', hcr, A2, c2, rfl, hr1⟩ := SlR.at_ hl0 hal
          rw [hr] at hr'
          injection hr' with hr'
          subst hr'
          rw [hr6] at hr1 hcr
          obtain ⟨rb, ro, e', rfl, hrb, hre', hce⟩ := IntR.at_ hr1 hm6
          rw [hre] at hre'
          injection hre' with hre'
          subst hre'
          have hll := hl0.le
          have HACC := Lib.hid hacc
          have HINV := Lib.hid hinv
          have HK := Lib.hid hxk
          rw [hm] at hcv
          clear hx05 hxk hvk hr hr6 hre hacc hinv hq hl0 hr1 hm
          by_cases he0 : 0 ≤ e
          · obtain ⟨a2, ha2⟩ : ∃ a2 : Nat, e = (a2 : Int) := ⟨e.toNat, by omega⟩
            rw [ha2] at hce
            have hin2 := HINV.out he0
            rw [ha2, Int.toNat_natCast] at hin2
            have HI2 := Lib.hid hin2
            clear hin2 ha2 he0 he1
            go_wp2_with fail
            go_roundw
            case rel => exact ⟨k + 1, a2, by omega, by go_num, rfl, HI2.out, hb⟩
            case measure => simp [intOf]; omega
          · have hem : e = -1 := by omega
            rw [hem] at hce HACC
            clear he0 he1 hem
            go_wp2_with fail
            go_ret
            exact ⟨ret_bool (acc_no hl.out hlt HACC.out (by omega)).symm, hb⟩
        · obtain rfl : k = m0 := by omega
          have hup := hq.out.2.1.done
          have HU := Lib.hid hup
          clear hup
          go_wp2_with fail
          go_ret
          exact ⟨ret_bool (by unfold accF; rw [HV.out, HX5.out, hl.out, hlx.out, HU.out]; simp), hb⟩
end Go.Proofs.Ytfmdgdamelkelaa
/- Counts and domains of a valid diagram. No program in sight. -/
namespace Go.Proofs.Ytfmdgdamelkelaa
set_option linter.unusedVariables false
set_option maxRecDepth 100000

theorem reach_up {d : List (List (List Int))} (h : vdgF d = true) : ∀ (i : Nat) x, x ∈ reach d i → 0 < cntAt d i x.toNat → 0 < cntAt d 0 0
  | 0, x, hx, hc => by
    have : x = 0 := by simpa [reach] using hx
    subst this
    exact hc
  | i + 1, x, hx, hc => by
    obtain ⟨n, u, hn, hu, he, h0⟩ := mem_reach.1 hx
    refine reach_up h i n hn (live_up h hu (by omega) ?_)
    rw [he]; exact hc
theorem on_live {d : List (List (List Int))} (i : Nat) {u : Nat} (hu : u < 6) : hasB (onF d i) u = true ↔ ∃ n, n ∈ reach d i ∧ liveE d i n.toNat u = true := by
  unfold onF
  rw [outS_has d i (reach d i) hu _ (Nat.le_refl _)]
  constructor
  · rintro ⟨k, n, -, h2, h3⟩
    exact ⟨n, List.mem_of_getElem? h2, h3⟩
  · rintro ⟨n, h1, h2⟩
    obtain ⟨k, hk, e⟩ := List.getElem_of_mem h1
    exact ⟨k, n, hk, by rw [List.getElem?_eq_getElem hk, e], h2⟩
/-- no path: no value is on one. -/
theorem on_none {d : List (List (List Int))} (h : vdgF d = true) (h0 : cntAt d 0 0 = 0) (i : Nat) {u : Nat} (hu : u < 6) : hasB (onF d i) u = false := by
  cases hb : hasB (onF d i) u with
  | false => rfl
  | true =>
    obtain ⟨n, hn, hl⟩ := (on_live i hu).1 hb
    unfold liveE at hl
    simp only [Bool.and_eq_true, decide_eq_true_eq] at hl
    have := reach_up h i n hn (live_up h hu hl.1 hl.2)
    omega
/-- how many of the first k hold p. -/
def cntP (p : Nat → Bool) : Nat → Int
  | 0 => 0
  | k + 1 => cntP p k + if p k then 1 else 0
theorem cntP_nn (p : Nat → Bool) : ∀ k, 0 ≤ cntP p k
  | 0 => Int.le_refl _
  | k + 1 => by have := cntP_nn p k; rw [cntP]; split <;> omega
theorem sum_le {cs row : List Int} {Q : Int} {p : Nat → Bool} (hB : Bd 1000000 cs) (hQ : 0 ≤ Q) (h : ∀ u, u < 6 → 0 ≤ row[u]?.getD (-1) → cs[(row[u]?.getD 0).toNat]?.getD 0 ≤ Q ∧ (0 < cs[(row[u]?.getD 0).toNat]?.getD 0 → p u = true)) : ∀ k, k ≤ 6 → sumTo cs row k ≤ cntP p k * Q
  | 0, _ => by simp [sumTo, cntP]
  | k + 1, hk => by
    have ih := sum_le hB hQ h k (by omega)
    have hs := sumTo_bd (row := row) hB (by omega) (by omega) k (by omega)
    have hg := getD_bd hB (by omega) (row[k]?.getD 0).toNat
    rw [sumTo, cntP, Int.add_mul]
    split
    · rename_i h0
      obtain ⟨h1, h2⟩ := h k (by omega) h0
      rw [IntWalk.wrap64_in _ ⟨by omega, by omega⟩]
      cases hp : p k with
      | true => simp; omega
      | false =>
        have : ¬ 0 < cs[(row[k]?.getD 0).toNat]?.getD 0 := fun hc => by rw [h2 hc] at hp; cases hp
        simp
        omega
    · have : 0 ≤ (if p k = true then (1 : Int) else 0) * Q := by
        split
        · omega
        · simp
      omega
/-- the paths from a node are at most the product of what the layers below have. -/
def prodF (d : List (List (List Int))) : Nat → Nat → Int
  | _, 0 => 1
  | i, m + 1 => cntP (fun u => hasB (onF d i) u) 6 * prodF d (i + 1) m
theorem prodF_nn (d : List (List (List Int))) : ∀ m i, 0 ≤ prodF d i m
  | 0, _ => by simp [prodF]
  | m + 1, i => by rw [prodF]; exact Int.mul_nonneg (cntP_nn _ _) (prodF_nn d m (i + 1))
theorem cnt_prod {d : List (List (List Int))} (h : vdgF d = true) : ∀ m i x, i + m = d.length → x ∈ reach d i → cntAt d i x.toNat ≤ prodF d i m
  | 0, i, x, hi, _ => by
    unfold cntAt
    rw [cnt_end (by omega), prodF]
    cases hx : x.toNat with
    | zero => simp
    | succ n => simp
  | m + 1, i, x, hi, hx => by
    have hi2 : i < d.length := by omega
    have hl : d[i]? = some d[i] := List.getElem?_eq_getElem hi2
    obtain ⟨-, hx2⟩ := reach_ok h i hi2 x hx
    have hxl := hx2 _ hl
    have hr : d[i][x.toNat]? = some d[i][x.toNat] := List.getElem?_eq_getElem hxl
    rw [cntAt_of (cnt_at hl hr), prodF]
    obtain ⟨M, hM, hM2, hB⟩ := cnt_bd' h (i + 1)
    refine sum_le (fun c hc => ⟨(hB c hc).1, Int.le_trans (hB c hc).2 hM2⟩) (prodF_nn d m (i + 1)) (fun u hu h0 => ?_) 6 (Nat.le_refl _)
    cases hy : d[i][x.toNat][u]? with
    | none => rw [hy] at h0; simp at h0
    | some y =>
      rw [hy] at h0
      simp only [Option.getD_some] at h0 ⊢
      have he : edge d i x.toNat u = y := edge_of hl hr hy
      have hmem : y ∈ reach d (i + 1) := mem_reach.2 ⟨x, u, hx, hu, he, h0⟩
      refine ⟨cnt_prod h m (i + 1) y (by omega) hmem, fun hc => ?_⟩
      refine (on_live i hu).2 ⟨x, hx, ?_⟩
      unfold liveE
      rw [he]
      simp only [Bool.and_eq_true, decide_eq_true_eq]
      exact ⟨h0, hc⟩
theorem prod_pos {d : List (List (List Int))} : ∀ {m i}, 0 < prodF d i m → ∀ j, j < m → 0 < cntP (fun u => hasB (onF d (i + j)) u) 6
  | 0, i, _, j, hj => by omega
  | m + 1, i, h, j, hj => by
    rw [prodF] at h
    have h1 := cntP_nn (fun u => hasB (onF d i) u) 6
    have h2 := prodF_nn d m (i + 1)
    have h3 : 0 < cntP (fun u => hasB (onF d i) u) 6 ∧ 0 < prodF d (i + 1) m := by
      constructor
      · rcases Int.lt_or_eq_of_le h1 with h3 | h3
        · exact h3
        · rw [← h3] at h; simp at h
      · rcases Int.lt_or_eq_of_le h2 with h3 | h3
        · exact h3
        · rw [← h3] at h; simp at h
    cases j with
    | zero => exact h3.1
    | succ j =>
      have := prod_pos h3.2 j (by omega)
      rwa [show i + (j + 1) = i + 1 + j by omega]
theorem dom_zero : ∀ a : Fin 64, ((a.val : Int) = 0 ↔ cntP (fun u => hasB (a.val : Int) u) 6 = 0) := by decide +kernel
theorem dom_none : ∀ a : Fin 64, ((∀ u : Fin 6, hasB (a.val : Int) u.val = false) → (a.val : Int) = 0) := by decide +kernel
/-- a layer's domain is empty exactly if there is no path. -/
theorem on_zero {d : List (List (List Int))} (h : vdgF d = true) {i : Nat} (hi : i < d.length) : onF d i = 0 ↔ cntAt d 0 0 = 0 := by
  have hin := outS_in d i (reach d i) (reach d i).length
  have hin' : 0 ≤ onF d i ∧ onF d i ≤ 63 := hin
  obtain ⟨a, ha⟩ := Int.eq_ofNat_of_zero_le hin'.1
  have ha64 : a < 64 := by omega
  constructor
  · intro h0
    have hp := cnt_prod h d.length 0 0 (by omega) (by simp [reach])
    obtain ⟨l, c, h1, h2, h3, h4⟩ := cnt_first h
    obtain ⟨M, hM, hM2, hB⟩ := cnt_bd' h 0
    have hnn : 0 ≤ cntAt d 0 0 := by
      rw [h4]
      have := hB c (List.mem_of_getElem? (by simpa using h3))
      exact this.1
    rcases Int.lt_or_eq_of_le hnn with h5 | h5
    · have h6 := prod_pos (d := d) (m := d.length) (i := 0) (by have : cntAt d 0 (0 : Int).toNat = cntAt d 0 0 := rfl; omega) i hi
      rw [Nat.zero_add] at h6
      have h7 := (dom_zero ⟨a, ha64⟩).1 (by show ((a : Nat) : Int) = 0; omega)
      rw [ha] at h6
      have h8 : cntP (fun u => hasB ((a : Nat) : Int) u) 6 = 0 := h7
      omega
    · exact h5.symm
  · intro h0
    have := dom_none ⟨a, ha64⟩ (fun u => by
      have := on_none h h0 i u.isLt
      rw [ha] at this
      exact this)
    rw [ha]
    exact this
end Go.Proofs.Ytfmdgdamelkelaa
/- The number of paths is at most the product of the sizes of the layers' domains. No program in sight. -/
namespace Go.Proofs.Ytfmdgdamelkelaa
set_option linter.unusedVariables false
set_option maxRecDepth 100000

theorem ds_fin : ∀ a : Fin 64, dsF (a.val : Int) = cntP (fun u => hasB (a.val : Int) u) 6 := by decide +kernel
theorem cntP_le (p : Nat → Bool) : ∀ k, cntP p k ≤ k
  | 0 => Int.le_refl _
  | k + 1 => by
    have := cntP_le p k
    rw [cntP]
    split <;> omega
theorem on_in (d : List (List (List Int))) (i : Nat) : 0 ≤ onF d i ∧ onF d i ≤ 63 := outS_in d i (reach d i) (reach d i).length
theorem ds_on (d : List (List (List Int))) (i : Nat) : dsF (onF d i) = cntP (fun u => hasB (onF d i) u) 6 := by
  obtain ⟨h0, h1⟩ := on_in d i
  obtain ⟨a, ha⟩ := Int.eq_ofNat_of_zero_le h0
  rw [ha]
  exact ds_fin ⟨a, by omega⟩
theorem ds_bd (d : List (List (List Int))) (i : Nat) : 0 ≤ dsF (onF d i) ∧ dsF (onF d i) ≤ 6 := by
  rw [ds_on]
  exact ⟨cntP_nn _ _, cntP_le _ 6⟩
/-- the product of the first i layers' sizes. -/
def preF (d : List (List (List Int))) : Nat → Int
  | 0 => 1
  | i + 1 => preF d i * dsF (onF d i)
theorem pre_bd (d : List (List (List Int))) : ∀ i, 0 ≤ preF d i ∧ preF d i ≤ 6 ^ i
  | 0 => by simp [preF]
  | i + 1 => by
    obtain ⟨h0, h1⟩ := pre_bd d i
    obtain ⟨k0, k1⟩ := ds_bd d i
    rw [preF, Int.pow_succ]
    exact ⟨Int.mul_nonneg h0 k0, Int.mul_le_mul h1 k1 k0 (Int.le_trans h0 h1)⟩
theorem pre_small (d : List (List (List Int))) {i : Nat} (hi : i ≤ 4) : 0 ≤ preF d i ∧ preF d i ≤ 1296 := by
  obtain ⟨h0, h1⟩ := pre_bd d i
  refine ⟨h0, Int.le_trans h1 ?_⟩
  match i, hi with
  | 0, _ => decide
  | 1, _ => decide
  | 2, _ => decide
  | 3, _ => decide
  | 4, _ => decide
theorem pre_prod (d : List (List (List Int))) : ∀ m i, preF d i * prodF d i m = preF d (i + m)
  | 0, i => by simp [prodF]
  | m + 1, i => by
    rw [prodF, ← ds_on, ← Int.mul_assoc, show i + (m + 1) = i + 1 + m by omega, ← pre_prod d m (i + 1)]
    rfl
theorem cnt_pre {d : List (List (List Int))} (h : vdgF d = true) : cntAt d 0 0 ≤ preF d d.length := by
  have h1 := cnt_prod h d.length 0 0 (by omega) (by simp [reach])
  have h2 := pre_prod d d.length 0
  rw [Nat.zero_add] at h2
  rw [← h2]
  have h3 : preF d 0 = 1 := rfl
  rw [h3, Int.one_mul]
  exact h1
theorem cnt_nn {d : List (List (List Int))} (h : vdgF d = true) : 0 ≤ cntAt d 0 0 := by
  obtain ⟨l, c, h1, h2, h3, h4⟩ := cnt_first h
  obtain ⟨M, hM, hM2, hB⟩ := cnt_bd' h 0
  rw [h4]
  exact (hB c (List.mem_of_getElem? (by simpa using h3))).1
theorem dd_len {d : List (List (List Int))} (h : vdgF d = true) : (ddF d).length = d.length := by unfold ddF; rw [h]; simp
theorem dd_at {d : List (List (List Int))} (h : vdgF d = true) {i : Nat} (hi : i < d.length) : (ddF d)[i]? = some (onF d i) := by unfold ddF; rw [h]; simp [hi]
end Go.Proofs.Ytfmdgdamelkelaa
/- An accepted path of a valid diagram takes only values of the layers' domains. No program in sight. -/
namespace Go.Proofs.Ytfmdgdamelkelaa
set_option linter.unusedVariables false
set_option maxRecDepth 100000

theorem acc_edge {d : List (List (List Int))} {xs : List Int} (h : vdgF d = true) (hl : xs.length = d.length) (hx : ∀ x ∈ xs, 0 ≤ x ∧ x ≤ 5) {i : Nat} (hi : i < d.length) (hI : AccInv d xs i (accTo d xs i).toNat) (h0 : 0 ≤ accTo d xs (i + 1)) :
    ∃ v : Int, xs[i]? = some v ∧ 0 ≤ v ∧ v ≤ 5 ∧ edge d i (accTo d xs i).toNat v.toNat = accTo d xs (i + 1) ∧ AccInv d xs (i + 1) (accTo d xs (i + 1)).toNat := by
  have hd : d[i]? = some d[i] := List.getElem?_eq_getElem hi
  have hv : xs[i]? = some xs[i] := List.getElem?_eq_getElem (by omega)
  have hb := hx _ (List.mem_of_getElem? hv)
  obtain ⟨r, e, hr, h6, he, hE, hm, hN⟩ := acc_step h hI hd hv hb
  refine ⟨_, hv, hb.1, hb.2, ?_, ?_⟩
  · rw [hE]; exact edge_of hd hr he
  · rw [hE]; exact hN (by omega)
theorem acc_inv {d : List (List (List Int))} {xs : List Int} (h : vdgF d = true) (hl : xs.length = d.length) (hx : ∀ x ∈ xs, 0 ≤ x ∧ x ≤ 5) (ha : ∀ j, j < d.length → 0 ≤ accTo d xs (j + 1)) : ∀ i, i ≤ d.length → AccInv d xs i (accTo d xs i).toNat ∧ accTo d xs i ∈ reach d i
  | 0, _ => ⟨acc_start xs h, by simp [reach, accTo]⟩
  | i + 1, hi => by
    obtain ⟨h1, h2⟩ := acc_inv h hl hx ha i (by omega)
    have h0 := ha i (by omega)
    obtain ⟨v, -, v0, v5, he, hI⟩ := acc_edge h hl hx (by omega) h1 h0
    exact ⟨hI, mem_reach.2 ⟨_, v.toNat, h2, by omega, he, h0⟩⟩
theorem acc_last {d : List (List (List Int))} {xs : List Int} (h : vdgF d = true) (hl : xs.length = d.length) (hx : ∀ x ∈ xs, 0 ≤ x ∧ x ≤ 5) (ha : ∀ j, j < d.length → 0 ≤ accTo d xs (j + 1)) : accTo d xs d.length = 0 := by
  obtain ⟨n, hn⟩ : ∃ n, d.length = n := ⟨_, rfl⟩
  rw [hn]
  cases n with
  | zero => rfl
  | succ i =>
    have h0 := ha i (by omega)
    obtain ⟨h1, -⟩ := acc_inv h hl hx ha i (by omega)
    have hd : d[i]? = some d[i] := List.getElem?_eq_getElem (by omega)
    have hv : xs[i]? = some xs[i] := List.getElem?_eq_getElem (by omega)
    obtain ⟨r, e, hr, h6, he, hE, hm, hN⟩ := acc_step h h1 hd hv (hx _ (List.mem_of_getElem? hv))
    rw [hE] at h0 ⊢
    obtain ⟨c, -, -, hz⟩ := edge_ok h hd hr he h0
    exact hz (by omega)
theorem acc_live {d : List (List (List Int))} {xs : List Int} (h : vdgF d = true) (hl : xs.length = d.length) (hx : ∀ x ∈ xs, 0 ≤ x ∧ x ≤ 5) (ha : ∀ j, j < d.length → 0 ≤ accTo d xs (j + 1)) : ∀ m i, i + m = d.length → 0 < cntAt d i (accTo d xs i).toNat
  | 0, i, hi => by
    have : i = d.length := by omega
    rw [this, acc_last h hl hx ha]
    unfold cntAt
    rw [cnt_end (Nat.le_refl _)]
    decide
  | m + 1, i, hi => by
    have ih := acc_live h hl hx ha m (i + 1) (by omega)
    obtain ⟨h1, -⟩ := acc_inv h hl hx ha i (by omega)
    have h0 := ha i (by omega)
    obtain ⟨v, -, v0, v5, he, hI⟩ := acc_edge h hl hx (by omega) h1 h0
    refine live_up h (v := v.toNat) (by omega) (by rw [he]; exact h0) (by rw [he]; exact ih)
theorem accF_split {d : List (List (List Int))} {xs : List Int} (h : accF d xs = true) : vdgF d = true ∧ xs.length = d.length ∧ (∀ x ∈ xs, 0 ≤ x ∧ x ≤ 5) ∧ ∀ j, j < d.length → 0 ≤ accTo d xs (j + 1) := by
  unfold accF at h
  simp only [Bool.and_eq_true, decide_eq_true_eq] at h
  obtain ⟨⟨⟨h1, h2⟩, h3⟩, h4⟩ := h
  refine ⟨h1, h2, fun x hx => inB_true (List.all_eq_true.1 h3 x hx), fun j hj => ?_⟩
  have := List.all_eq_true.1 h4 j (by simpa using hj)
  simpa using this
theorem acc_has {d : List (List (List Int))} {xs : List Int} (h : accF d xs = true) {i : Nat} {x : Int} (hi : xs[i]? = some x) : (vdB (onF d i) && dhB (onF d i) x) = true := by
  obtain ⟨hv, hl, hx, ha⟩ := accF_split h
  have hid : i < d.length := by
    have := (List.getElem?_eq_some_iff.1 hi).1
    omega
  obtain ⟨h1, h2⟩ := acc_inv hv hl hx ha i (by omega)
  have h0 := ha i hid
  obtain ⟨v, e, v0, v5, he, hI⟩ := acc_edge hv hl hx hid h1 h0
  rw [hi] at e
  injection e with e
  subst e
  have hlv := acc_live hv hl hx ha (d.length - (i + 1)) (i + 1) (by omega)
  have hb : hasB (onF d i) (x.toNat : Nat) = true := (on_live i (by omega)).2 ⟨_, h2, by unfold liveE; rw [he]; simp only [Bool.and_eq_true, decide_eq_true_eq]; exact ⟨h0, hlv⟩⟩
  obtain ⟨o0, o1⟩ := on_in d i
  unfold vdB dhB
  rw [Int.toNat_of_nonneg v0] at hb
  rw [hb]
  simp [inB]
  omega
/-- the loop's end: the answer is whether the path has not been lost. -/
theorem acc_end {d : List (List (List Int))} {xs : List Int} (h : vdgF d = true) (hl : xs.length = d.length) (hx : ∀ x ∈ xs, 0 ≤ x ∧ x ≤ 5) {a : Nat} (hI : AccInv d xs d.length a) : accF d xs = true := by
  obtain ⟨h1, h2, h3⟩ := hI
  unfold accF
  simp only [Bool.and_eq_true, decide_eq_true_eq]
  refine ⟨⟨⟨h, hl⟩, List.all_eq_true.2 fun x hx' => ?_⟩, List.all_eq_true.2 fun j hj => h2 j (by simpa using hj)⟩
  obtain ⟨a0, a1⟩ := hx x hx'
  simp [inB]
  omega
end Go.Proofs.Ytfmdgdamelkelaa
/- A graph of nodes, and the tuples that its nodes stand for: plain lists. No program in sight. -/
namespace Go.Proofs.Ytfmdgdamelkelaa
set_option linter.unusedVariables false
set_option maxRecDepth 100000

/-- a node's tuples; f layers are left. -/
def lang (N : List (List (List Int))) : Nat → Nat → Int → List (List Int)
  | 0, _, _ => [[]]
  | f + 1, i, a => flatV (fun v => if 0 ≤ edge N i a.toNat v then lang N f (i + 1) (edge N i a.toNat v) else []) 6
/-- a is a node of layer i, of k. -/
def IsN (N : List (List (List Int))) (k i : Nat) (a : Int) : Prop := 0 ≤ a ∧ (i = k → a = 0) ∧ (i ≠ k → ∃ l, N[i]? = some l ∧ a.toNat < l.length)
structure GInv (N : List (List (List Int))) (k : Nat) : Prop where
  len : N.length = k
  ok : ∀ (i : Nat) l (a : Nat) r, N[i]? = some l → l[a]? = some r → r.length = 6 ∧ (∀ (v : Nat) x, r[v]? = some x → x = -1 ∨ IsN N k (i + 1) x) ∧ ∃ v x, v < 6 ∧ r[v]? = some x ∧ 0 ≤ x
  ne : ∀ (i : Nat) l, N[i]? = some l → l.Nodup
theorem IsN.get {N : List (List (List Int))} {k i : Nat} {a : Int} (h : IsN N k i a) (hi : i ≠ k) : ∃ l r, N[i]? = some l ∧ l[a.toNat]? = some r := by
  obtain ⟨l, h1, h2⟩ := h.2.2 hi
  exact ⟨l, _, h1, List.getElem?_eq_getElem h2⟩
theorem lang_suf (N : List (List (List Int))) (f i : Nat) (a : Int) {v : Nat} (hv : v < 6) : sufF (v : Int) (lang N (f + 1) i a) = if 0 ≤ edge N i a.toNat v then lang N f (i + 1) (edge N i a.toNat v) else [] := by
  rw [lang, sufF_flatV, if_pos hv]
theorem lang_ne {N : List (List (List Int))} {k : Nat} (h : GInv N k) : ∀ f i a, i + f = k → IsN N k i a → lang N f i a ≠ []
  | 0, i, a, _, _ => by simp [lang]
  | f + 1, i, a, hi, ha => by
    obtain ⟨l, r, h1, h2⟩ := ha.get (by omega)
    obtain ⟨h3, h4, v, x, h5, h6, h7⟩ := h.ok i l _ r h1 h2
    have hx : IsN N k (i + 1) x := (h4 v x h6).resolve_left (by omega)
    have he := edge_of h1 h2 h6
    have hn := lang_ne h f (i + 1) x (by omega) hx
    cases hl : lang N f (i + 1) x with
    | nil => exact absurd hl hn
    | cons s ss =>
      intro e
      have : ((v : Int) :: s) ∈ lang N (f + 1) i a := by
        rw [lang, flatV_mem]
        exact ⟨v, s, h5, by rw [he, if_pos h7, hl]; simp, rfl⟩
      rw [e] at this
      simp at this
theorem lang_inj {N : List (List (List Int))} {k : Nat} (h : GInv N k) : ∀ f i a b, i + f = k → IsN N k i a → IsN N k i b → lang N f i a = lang N f i b → a = b
  | 0, i, a, b, hi, ha, hb, _ => by rw [ha.2.1 (by omega), hb.2.1 (by omega)]
  | f + 1, i, a, b, hi, ha, hb, he => by
    obtain ⟨l, r, h1, h2⟩ := ha.get (by omega)
    obtain ⟨l', s, h1', k2⟩ := hb.get (by omega)
    rw [h1] at h1'
    injection h1' with h1'
    subst h1'
    obtain ⟨h3, h4, -⟩ := h.ok i l _ r h1 h2
    obtain ⟨k3, k4, -⟩ := h.ok i l _ s h1 k2
    have hrs : r = s := by
      refine List.ext_getElem? fun v => ?_
      rcases Nat.lt_or_ge v 6 with hv | hv
      · have hx : r[v]? = some r[v] := List.getElem?_eq_getElem (by omega)
        have hy : s[v]? = some s[v] := List.getElem?_eq_getElem (by omega)
        have e1 := lang_suf N f i a hv
        have e2 := lang_suf N f i b hv
        rw [he, e2, edge_of h1 h2 hx, edge_of h1 k2 hy] at e1
        rw [hx, hy]
        congr 1
        generalize r[v] = x at *
        generalize s[v] = y at *
        rcases h4 v x hx with rfl | nx
        · rcases k4 v y hy with rfl | ny
          · rfl
          · rw [if_pos ny.1, if_neg (by decide)] at e1
            exact absurd e1 (lang_ne h f (i + 1) y (by omega) ny)
        · rcases k4 v y hy with rfl | ny
          · rw [if_pos nx.1, if_neg (by decide)] at e1
            exact absurd e1.symm (lang_ne h f (i + 1) x (by omega) nx)
          · rw [if_pos nx.1, if_pos ny.1] at e1
            exact lang_inj h f (i + 1) x y (by omega) nx ny e1.symm
      · rw [List.getElem?_eq_none (by omega), List.getElem?_eq_none (by omega)]
    subst hrs
    have := at_inj (h.ne i l h1) h2 k2
    have := ha.1
    have := hb.1
    omega
/-- N' has the nodes of N, and maybe more. -/
def GExt (N N' : List (List (List Int))) : Prop := ∀ (i : Nat) l, N[i]? = some l → ∃ l', N'[i]? = some l' ∧ l <+: l'
theorem GExt.refl (N : List (List (List Int))) : GExt N N := fun i l h => ⟨l, h, List.prefix_refl _⟩
theorem GExt.trans {N N' N'' : List (List (List Int))} (h : GExt N N') (k : GExt N' N'') : GExt N N'' := fun i l h1 => by
  obtain ⟨l', h2, h3⟩ := h i l h1
  obtain ⟨l'', h4, h5⟩ := k i l' h2
  exact ⟨l'', h4, h3.trans h5⟩
theorem pre_at {α : Type} {l l' : List α} (h : l <+: l') {j : Nat} {x : α} (hx : l[j]? = some x) : l'[j]? = some x := by
  obtain ⟨z, rfl⟩ := h
  rw [List.getElem?_append_left (List.getElem?_eq_some_iff.1 hx).1]; exact hx
theorem IsN.ext {N N' : List (List (List Int))} {k i : Nat} {a : Int} (h : IsN N k i a) (he : GExt N N') : IsN N' k i a :=
  ⟨h.1, h.2.1, fun hi => by
    obtain ⟨l, h1, h2⟩ := h.2.2 hi
    obtain ⟨l', h3, h4⟩ := he i l h1
    exact ⟨l', h3, Nat.lt_of_lt_of_le h2 h4.length_le⟩⟩
theorem edge_ext {N N' : List (List (List Int))} {k i : Nat} {a : Int} (he : GExt N N') (ha : IsN N k i a) (hi : i ≠ k) (h : GInv N k) {v : Nat} (hv : v < 6) : edge N' i a.toNat v = edge N i a.toNat v := by
  obtain ⟨l, r, h1, h2⟩ := ha.get hi
  obtain ⟨l', h3, h4⟩ := he i l h1
  obtain ⟨h5, -⟩ := h.ok i l _ r h1 h2
  have hx : r[v]? = some r[v] := List.getElem?_eq_getElem (by omega)
  rw [edge_of h1 h2 hx, edge_of h3 (pre_at h4 h2) hx]
theorem lang_ext {N N' : List (List (List Int))} {k : Nat} (h : GInv N k) (he : GExt N N') : ∀ f i a, i + f = k → IsN N k i a → lang N' f i a = lang N f i a
  | 0, _, _, _, _ => rfl
  | f + 1, i, a, hi, ha => by
    rw [lang, lang]
    refine flatV_congr fun v hv => ?_
    rw [edge_ext he ha (by omega) h hv]
    split
    · rename_i h0
      obtain ⟨l, r, h1, h2, h3⟩ := edge_some h0
      exact lang_ext h he f (i + 1) _ (by omega) (((h.ok i l _ r h1 h2).2.1 v _ h3).resolve_left (by omega))
    · rfl
/-- one more node of layer i. -/
theorem GInv.add {N : List (List (List Int))} {k i : Nat} (h : GInv N k) {l : List (List Int)} {r : List Int} (hl : N[i]? = some l) (h6 : r.length = 6) (hr : ∀ (v : Nat) x, r[v]? = some x → x = -1 ∨ IsN N k (i + 1) x) (hx : ∃ v x, v < 6 ∧ r[v]? = some x ∧ 0 ≤ x) (hm : r ∉ l) :
    GInv (N.set i (l ++ [r])) k ∧ GExt N (N.set i (l ++ [r])) ∧ IsN (N.set i (l ++ [r])) k i (l.length : Int) := by
  have hi : i < N.length := (List.getElem?_eq_some_iff.1 hl).1
  have hext : GExt N (N.set i (l ++ [r])) := fun j m hj => by
    rw [List.getElem?_set]
    split
    · rename_i e
      subst e
      rw [hl] at hj
      injection hj with hj
      subst hj
      exact ⟨_, rfl, List.prefix_append _ _⟩
    · exact ⟨m, hj, List.prefix_refl _⟩
  refine ⟨⟨by simpa using h.len, fun j m a s hj ha => ?_, fun j m hj => ?_⟩, hext, ⟨by omega, fun e => ?_, fun e => ⟨_, by rw [List.getElem?_set_self hi], by simp⟩⟩⟩
  · rw [List.getElem?_set] at hj
    split at hj
    · rename_i e
      subst e
      injection hj with hj
      subst hj
      rcases Nat.lt_or_ge a l.length with h1 | h1
      · rw [List.getElem?_append_left h1] at ha
        obtain ⟨h2, h3, h4⟩ := h.ok i l a s hl ha
        exact ⟨h2, fun v x hv => (h3 v x hv).imp id (·.ext hext), h4⟩
      · rw [List.getElem?_append_right h1] at ha
        obtain ⟨-, rfl⟩ : a - l.length = 0 ∧ r = s := by
          cases hh : a - l.length with
          | zero => rw [hh] at ha; simpa using ha
          | succ q => rw [hh] at ha; simp at ha
        exact ⟨h6, fun v x hv => (hr v x hv).imp id (·.ext hext), hx⟩
    · obtain ⟨h2, h3, h4⟩ := h.ok j m a s hj ha
      exact ⟨h2, fun v x hv => (h3 v x hv).imp id (·.ext hext), h4⟩
  · rw [List.getElem?_set] at hj
    split at hj
    · rename_i e
      subst e
      injection hj with hj
      subst hj
      rw [List.nodup_append]
      refine ⟨h.ne i l hl, by simp, fun x hx' y hy e => ?_⟩
      rw [List.mem_singleton.1 hy] at e
      subst e
      exact hm hx'
    · exact h.ne j m hj
  · exact absurd h.len (by omega)
/-- what v leads to, in a graph. -/
def chI (N : List (List (List Int))) (i : Nat) (a : Int) (v : Nat) : Option Int := if 0 ≤ edge N i a.toNat v then some (edge N i a.toNat v) else none
theorem ch_lang {N : List (List (List Int))} {k f i : Nat} {a : Int} (h : GInv N k) (hi : i + (f + 1) = k) (ha : IsN N k i a) {v : Nat} (hv : v < 6) : chS (lang N (f + 1) i a) v = (chI N i a v).map (lang N f (i + 1)) := by
  unfold chS chI
  rw [lang_suf N f i a hv]
  by_cases h0 : 0 ≤ edge N i a.toNat v
  · obtain ⟨l, r, h1, h2, h3⟩ := edge_some h0
    have hn := lang_ne h f (i + 1) _ (by omega) (((h.ok i l _ r h1 h2).2.1 v _ h3).resolve_left (by omega))
    rw [if_pos h0, if_pos h0, if_neg hn]
    rfl
  · rw [if_neg h0, if_neg h0, if_pos rfl]
    rfl
def nextI (N : List (List (List Int))) (i : Nat) (met : List Int) : List Int := nxL (chI N i) met met.length
def rawR (N : List (List (List Int))) (i : Nat) (a : Int) : List Int := ((N[i]?.getD [])[a.toNat]?).getD []
/-- the layers from layer i on, the nodes in the order in which they are met. -/
def nmL (N : List (List (List Int))) : Nat → Nat → List Int → List (List (List Int))
  | 0, _, _ => []
  | 1, i, met => [met.map (rawR N i)]
  | f + 2, i, met => met.map (rowG (chI N i) (nextI N i met)) :: nmL N (f + 1) (i + 1) (nextI N i met)
theorem next_lang {N : List (List (List Int))} {k f i : Nat} {met : List Int} (h : GInv N k) (hi : i + (f + 1) = k) (hm : ∀ a ∈ met, IsN N k i a) :
    nextS (met.map (lang N (f + 1) i)) = (nextI N i met).map (lang N f (i + 1)) ∧ (∀ a ∈ nextI N i met, IsN N k (i + 1) a) ∧ ∀ a ∈ met, rowG chS (nextS (met.map (lang N (f + 1) i))) (lang N (f + 1) i a) = rowG (chI N i) (nextI N i met) a := by
  have hQ : ∀ a b, IsN N k (i + 1) a → IsN N k (i + 1) b → lang N f (i + 1) a = lang N f (i + 1) b → a = b := fun a b ha hb => lang_inj h f (i + 1) a b (by omega) ha hb
  have hch : ∀ x ∈ met, ∀ v s, chI N i x v = some s → IsN N k (i + 1) s := fun x hx v s hs => by
    unfold chI at hs
    split at hs
    · rename_i h0
      injection hs with hs
      subst hs
      obtain ⟨l, r, h1, h2, h3⟩ := edge_some h0
      exact ((h.ok i l _ r h1 h2).2.1 v _ h3).resolve_left (by omega)
    · cases hs
  have he : ∀ x ∈ met, ∀ v, v < 6 → chS (lang N (f + 1) i x) v = (chI N i x v).map (lang N f (i + 1)) := fun x hx v hv => ch_lang h hi (hm x hx) hv
  obtain ⟨h1, h2⟩ := nxL_map (f := lang N (f + 1) i) (g := lang N f (i + 1)) (ch := chI N i) (ch' := chS) (Q := IsN N k (i + 1)) hQ hch he met.length
  have h3 : nextS (met.map (lang N (f + 1) i)) = (nextI N i met).map (lang N f (i + 1)) := by
    unfold nextS nextI
    rw [List.length_map]; exact h1
  refine ⟨h3, h2, fun a ha => ?_⟩
  rw [h3]
  exact rowG_map (Q := IsN N k (i + 1)) hQ h2 (hch a ha) (he a ha)
theorem nm_bd {N : List (List (List Int))} {k : Nat} (h : GInv N k) : ∀ f i met, i + f = k → (∀ a ∈ met, IsN N k i a) → nmL N f i met = bdL f (met.map (lang N f i))
  | 0, _, _, _, _ => rfl
  | 1, i, met, hi, hm => by
    obtain ⟨h1, h2, h3⟩ := next_lang (f := 0) h (by omega) hm
    rw [nmL, bdL, bdL, List.map_map]
    congr 1
    refine List.map_congr_left fun a ha => ?_
    show _ = rowG chS _ (lang N 1 i a)
    rw [h3 a ha]
    obtain ⟨l, r, k1, k2⟩ := (hm a ha).get (by omega)
    obtain ⟨k3, k4, -⟩ := h.ok i l _ r k1 k2
    have hr : rawR N i a = r := by unfold rawR; rw [k1]; simp [k2]
    rw [hr]
    refine List.ext_getElem? fun v => ?_
    rcases Nat.lt_or_ge v 6 with hv | hv
    · have hx : r[v]? = some r[v] := List.getElem?_eq_getElem (by omega)
      unfold rowG
      rw [List.getElem?_map, List.getElem?_range hv, hx]
      simp only [Option.map_some, Option.some.injEq]
      unfold chI
      rw [edge_of k1 k2 hx]
      rcases k4 v _ hx with e | e
      · rw [e, if_neg (by decide)]; rfl
      · have e0 : r[v] = 0 := e.2.1 (by omega)
        rw [e0, if_pos (by decide)]
        show (0 : Int) = fnd (nextI N i met) 0 _
        have hmem : (0 : Int) ∈ nextI N i met := by
          unfold nextI
          rw [nxL_mem (Nat.le_refl _)]
          obtain ⟨j, hj, ej⟩ := List.getElem_of_mem ha
          exact ⟨j, a, v, hj, by rw [List.getElem?_eq_getElem hj, ej], hv, by unfold chI; rw [edge_of k1 k2 hx, e0]; rfl⟩
        obtain ⟨j, hj, e1, e2⟩ := fnd_some hmem
        rw [e1]
        have hz : (nextI N i met)[0]? = some 0 := by
          have h0 : (nextI N i met)[0]? = some (nextI N i met)[0] := List.getElem?_eq_getElem (by omega)
          rw [h0, (h2 _ (List.mem_of_getElem? h0)).2.1 (by omega)]
        have := at_inj (nxL_nodup (chI N i) met met.length) e2 hz
        omega
    · rw [List.getElem?_eq_none (by omega), List.getElem?_eq_none (by simp [rowG]; omega)]
  | f + 2, i, met, hi, hm => by
    obtain ⟨h1, h2, h3⟩ := next_lang (f := f + 1) h (by omega) hm
    rw [nmL, bdL, nm_bd h (f + 1) (i + 1) _ (by omega) h2, h1, List.map_map]
    congr 1
    refine List.map_congr_left fun a ha => ?_
    show _ = rowG chS _ (lang N (f + 2) i a)
    rw [← h1, h3 a ha]
/-- the rests of the tuples of ws that begin with x and hold. -/
def cmpF (sat : List Int → Bool) (ws x : List Int) : List (List Int) := (allT (ws.drop x.length)).filter fun y => sat (x ++ y)
theorem vals_flat (sat : List Int → Bool) (ds x : List Int) (d : Int) : ∀ n, ((valsTo d n).flatMap fun v => (allT ds).map (v :: ·)).filter (fun y => sat (x ++ y)) = flatV (fun v => if hasB d v = true then (allT ds).filter (fun y => sat ((x ++ [(v : Int)]) ++ y)) else []) n
  | 0 => by simp [valsTo, flatV]
  | n + 1 => by
    rw [valsTo, flatV, List.flatMap_append, List.filter_append, vals_flat sat ds x d n]
    congr 1
    split
    · simp only [List.flatMap_cons, List.flatMap_nil, List.append_nil, List.filter_map]
      congr 1
      refine List.filter_congr fun y _ => ?_
      simp
    · simp
theorem cmp_step {sat : List Int → Bool} {ws x : List Int} {d : Int} (h : ws[x.length]? = some d) : cmpF sat ws x = flatV (fun v => if hasB d v = true then cmpF sat ws (x ++ [(v : Int)]) else []) 6 := by
  have hk : x.length < ws.length := (List.getElem?_eq_some_iff.1 h).1
  unfold cmpF
  rw [List.drop_eq_getElem_cons hk]
  rw [List.getElem?_eq_getElem hk] at h
  injection h with h
  rw [h, allT, vals_flat]
  refine flatV_congr fun v _ => ?_
  simp
theorem cmp_full {sat : List Int → Bool} {ws x : List Int} (h : x.length = ws.length) : cmpF sat ws x = if sat x = true then [[]] else [] := by
  unfold cmpF
  rw [List.drop_eq_nil_of_le (by omega)]
  simp [allT, List.filter]
  cases sat x <;> rfl
end Go.Proofs.Ytfmdgdamelkelaa
/- The layers of a reduced diagram: what they hold. Plain lists. -/
namespace Go.Proofs.Ytfmdgdamelkelaa
open Go.ChangeShapes Go.WideShapes Go.ChangeAt Go.RowKit
open Go.Shelf
set_option linter.unusedVariables false
set_option linter.unusedSectionVars false
set_option maxRecDepth 100000

structure Lay (f : Nat) (lay : List (List (List Int))) : Prop where
  nd : lay.Nodup
  pos : lay ≠ []
  ok : ∀ L ∈ lay, L ≠ [] ∧ L.Nodup ∧ L.length ≤ 100000 ∧ ∀ t ∈ L, t.length = f ∧ ∀ v ∈ t, 0 ≤ v ∧ v ≤ 5
def sumL (L : List (List Int)) : Nat → Nat
  | 0 => 0
  | n + 1 => sumL L n + (sufF ((n : Nat) : Int) L).length
theorem sumL_step (u : Nat) (t : List Int) (ts : List (List Int)) : ∀ n, sumL ((((u : Nat) : Int) :: t) :: ts) n = sumL ts n + if u < n then 1 else 0
  | 0 => by simp [sumL]
  | n + 1 => by
    rw [sumL, sumL, sumL_step u t ts n, sufF]
    simp only [List.head?_cons, List.tail_cons, Option.some.injEq]
    by_cases h : u = n
    · subst h; simp; omega
    · rw [if_neg (by omega : ¬ ((u : Nat) : Int) = (n : Int))]
      by_cases h2 : u < n
      · rw [if_pos h2, if_pos (by omega)]; omega
      · rw [if_neg h2, if_neg (by omega)]; omega
theorem sumL_all {f : Nat} : ∀ {L : List (List Int)}, (∀ t ∈ L, t.length = f + 1 ∧ ∀ v ∈ t, (0 : Int) ≤ v ∧ v ≤ 5) → sumL L 6 = L.length
  | [], _ => by simp [sumL, sufF]
  | t :: ts, h => by
    obtain ⟨h1, h2⟩ := h t (by simp)
    cases t with
    | nil => simp at h1
    | cons a s =>
      have ha := h2 a (by simp)
      obtain ⟨u, rfl⟩ : ∃ u : Nat, a = (u : Int) := ⟨a.toNat, by omega⟩
      rw [sumL_step, sumL_all (fun t ht => h t (by simp [ht])), if_pos (by omega)]
      simp
theorem sumL_mono (L : List (List Int)) : ∀ {m n}, m ≤ n → sumL L m ≤ sumL L n := fun {m n} h => by
  induction n with
  | zero => obtain rfl : m = 0 := by omega
            exact Nat.le_refl _
  | succ n ih =>
    rcases Nat.lt_or_ge m (n + 1) with h1 | h1
    · exact Nat.le_trans (ih (by omega)) (by rw [sumL]; omega)
    · obtain rfl : m = n + 1 := by omega
      exact Nat.le_refl _
theorem sufF_len (v : Int) : ∀ L : List (List Int), (sufF v L).length ≤ L.length
  | [] => by simp [sufF]
  | t :: ts => by have := sufF_len v ts; rw [sufF]; split <;> simp <;> omega
theorem next_mem {lay : List (List (List Int))} {s : List (List Int)} : s ∈ nextS lay ↔ ∃ L u, L ∈ lay ∧ u < 6 ∧ sufF ((u : Nat) : Int) L = s ∧ s ≠ [] := by
  unfold nextS
  rw [nxL_mem (Nat.le_refl _)]
  constructor
  · rintro ⟨i, L, u, h1, h2, h3, h4⟩
    unfold chS at h4
    split at h4
    · cases h4
    · rename_i h5
      injection h4 with h4
      exact ⟨L, u, List.mem_of_getElem? h2, h3, h4, h4 ▸ h5⟩
  · rintro ⟨L, u, h1, h2, h3, h4⟩
    obtain ⟨i, hi, e⟩ := List.getElem_of_mem h1
    exact ⟨i, L, u, hi, by rw [List.getElem?_eq_getElem hi, e], h2, by unfold chS; rw [h3, if_neg h4]⟩
theorem Lay.next {f : Nat} {lay : List (List (List Int))} (h : Lay (f + 1) lay) : Lay f (nextS lay) := by
  refine ⟨nxL_nodup _ _ _, fun e => ?_, fun s hs => ?_⟩
  · obtain ⟨L, hL⟩ := List.exists_mem_of_ne_nil _ h.pos
    obtain ⟨h1, -, -, h2⟩ := h.ok L hL
    obtain ⟨t, ht⟩ := List.exists_mem_of_ne_nil _ h1
    obtain ⟨h3, h4⟩ := h2 t ht
    cases t with
    | nil => simp at h3
    | cons a s =>
      have ha := h4 a (by simp)
      obtain ⟨u, rfl⟩ : ∃ u : Nat, a = (u : Int) := ⟨a.toNat, by omega⟩
      have hs : s ∈ sufF (u : Int) L := sufF_mem.2 ht
      have : sufF (u : Int) L ∈ nextS lay := next_mem.2 ⟨L, u, hL, by omega, rfl, fun e => by rw [e] at hs; simp at hs⟩
      rw [e] at this
      simp at this
  · obtain ⟨L, u, h1, h2, h3, h4⟩ := next_mem.1 hs
    obtain ⟨-, h5, h6, h7⟩ := h.ok L h1
    subst h3
    refine ⟨h4, sufF_nodup h5, Nat.le_trans (sufF_len _ _) h6, fun t ht => ?_⟩
    obtain ⟨h8, h9⟩ := h7 _ (sufF_mem.1 ht)
    exact ⟨by simpa using h8, fun v hv => h9 v (by simp [hv])⟩
theorem Lay.zero {lay : List (List (List Int))} (h : Lay 0 lay) : lay = [[[]]] := by
  have hL : ∀ L ∈ lay, L = [[]] := fun L hL => by
    obtain ⟨h1, h2, -, h3⟩ := h.ok L hL
    match L, h1, h2, h3 with
    | [], h1, _, _ => exact absurd rfl h1
    | [t], _, _, h3 => rw [List.eq_nil_of_length_eq_zero (h3 t (by simp)).1]
    | t :: s :: r, _, h2, h3 =>
      have e1 := List.eq_nil_of_length_eq_zero (h3 t (by simp)).1
      have e2 := List.eq_nil_of_length_eq_zero (h3 s (by simp)).1
      rw [e1, e2] at h2
      simp at h2
  have hn := h.nd
  have hp := h.pos
  match lay, hL, hn, hp with
  | [], _, _, hp => exact absurd rfl hp
  | [L], hL, _, _ => rw [hL L (by simp)]
  | L :: M :: r, hL, hn, _ =>
    rw [hL L (by simp), hL M (by simp)] at hn
    simp at hn
/-- layer i of the sets. -/
def layN (lay : List (List (List Int))) : Nat → List (List (List Int))
  | 0 => lay
  | i + 1 => nextS (layN lay i)
theorem layN_next (lay : List (List (List Int))) : ∀ i, layN (nextS lay) i = layN lay (i + 1)
  | 0 => rfl
  | i + 1 => by rw [layN, layN_next lay i, ← layN]
theorem bd_len : ∀ f lay, (bdL f lay).length = f
  | 0, _ => rfl
  | f + 1, lay => by rw [bdL, List.length_cons, bd_len f]
theorem bd_at : ∀ f lay i, i < f → (bdL f lay)[i]? = some ((layN lay i).map (rowG chS (layN lay (i + 1))))
  | 0, _, _, h => by omega
  | f + 1, lay, 0, _ => rfl
  | f + 1, lay, i + 1, h => by rw [bdL, List.getElem?_cons_succ, bd_at f _ i (by omega), layN_next, layN_next]
theorem Lay.at_ {lay : List (List (List Int))} : ∀ {f i}, Lay (f + i) lay → Lay f (layN lay i)
  | f, 0, h => h
  | f, i + 1, h => (Lay.at_ (f := f + 1) (i := i) (by rw [show f + 1 + i = f + (i + 1) by omega]; exact h)).next
theorem layN_len (lay : List (List (List Int))) (h : lay.length ≤ 1) : ∀ i, (layN lay i).length ≤ 6 ^ i
  | 0 => h
  | i + 1 => by
    have h1 := layN_len lay h i
    have h2 := nxL_len chS (layN lay i) (layN lay i).length
    rw [layN, nextS, Nat.pow_succ]
    omega
/-- an edge of a row: none, or the place of what it leads to. -/
theorem row_at {lay : List (List (List Int))} {L : List (List Int)} (hL : L ∈ lay) {u : Nat} (hu : u < 6) :
    ((rowG chS (nextS lay) L)[u]? = some (-1) ∧ sufF (u : Int) L = []) ∨ ∃ j, j < (nextS lay).length ∧ (rowG chS (nextS lay) L)[u]? = some ((j : Nat) : Int) ∧ (nextS lay)[j]? = some (sufF (u : Int) L) ∧ sufF (u : Int) L ≠ [] := by
  unfold rowG
  rw [List.getElem?_map, List.getElem?_range hu]
  by_cases h : sufF (u : Int) L = []
  · left
    refine ⟨?_, h⟩
    simp [chS, h, toG]
  · right
    obtain ⟨j, h1, h2, h3⟩ := fnd_some (next_mem.2 ⟨L, u, hL, hu, rfl, h⟩)
    exact ⟨j, h1, by simp [chS, h, toG, h2], h3, h⟩
theorem row_len (lay : List (List (List Int))) (L : List (List Int)) : (rowG chS lay L).length = 6 := by simp [rowG]
theorem row_lt {lay : List (List (List Int))} {L : List (List Int)} (hL : L ∈ lay) {x : Int} (hx : x ∈ rowG chS (nextS lay) L) : -1 ≤ x ∧ x ≤ (nextS lay).length - 1 := by
  obtain ⟨u, hu, e⟩ := List.getElem_of_mem hx
  rw [row_len] at hu
  have hx2 : (rowG chS (nextS lay) L)[u]? = some x := by rw [List.getElem?_eq_getElem (by rw [row_len]; exact hu), e]
  rcases row_at hL hu with ⟨h1, -⟩ | ⟨j, h1, h2, -⟩
  · rw [hx2] at h1; injection h1 with h1; omega
  · rw [hx2] at h2; injection h2 with h2; omega
theorem bd_vdg {k : Nat} {all : List (List Int)} (hk : 1 ≤ k) (h4 : k ≤ 4) (h : Lay k [all]) : vdgF (bdL k [all]) = true := by
  unfold vdgF
  rw [Bool.and_eq_true, Bool.and_eq_true]
  refine ⟨⟨inB_mk (by rw [bd_len]; omega), ?_⟩, ?_⟩
  · unfold firstOne
    rw [bd_at k _ 0 (by omega)]
    simp [layN]
  · unfold layersOk
    rw [List.all_eq_true]
    intro i hi
    rw [List.mem_range, bd_len] at hi
    unfold layerOk
    rw [bd_at k _ i hi]
    have hl := Lay.at_ (f := k - i) (i := i) (by rw [show k - i + i = k by omega]; exact h)
    have hp : 0 < (layN [all] i).length := List.length_pos_iff.2 hl.pos
    have hle := layN_len [all] (by simp) i
    have h216 : 6 ^ i ≤ 216 := Nat.le_trans (Nat.pow_le_pow_right (by omega) (show i ≤ 3 by omega)) (by decide)
    rw [Bool.and_eq_true]
    refine ⟨inB_mk (by rw [List.length_map]; omega), ?_⟩
    rw [List.all_eq_true]
    intro r hr
    obtain ⟨L, hL, rfl⟩ := List.mem_map.1 hr
    have hlast : lastF (bdL k [all]) i = ((layN [all] (i + 1)).length : Int) - 1 := by
      by_cases h2 : i + 1 < k
      · rw [lastF_some (bd_at k [all] (i + 1) h2), List.length_map]
      · rw [lastF_none rfl (by rw [bd_len]; omega)]
        have hz := (Lay.at_ (f := 0) (i := i + 1) (lay := [all]) (by rw [show 0 + (i + 1) = k by omega]; exact h)).zero
        rw [hz]; rfl
    unfold rowOk
    rw [hlast, Bool.and_eq_true]
    refine ⟨by simp [row_len], ?_⟩
    rw [List.all_eq_true]
    intro x hx
    have := row_lt hL hx
    exact inB_mk (by rw [layN]; omega)
/-- as many paths as tuples. -/
theorem bd_cnt : ∀ f lay, Lay f lay → cnt (bdL f lay) = lay.map fun L => ((L.length : Nat) : Int)
  | 0, lay, h => by rw [h.zero]; rfl
  | f + 1, lay, h => by
    rw [bdL, cnt, bd_cnt f _ h.next, cntL, List.map_map]
    refine List.map_congr_left fun L hL => ?_
    obtain ⟨-, -, h3, h4⟩ := h.ok L hL
    show sumTo _ (rowG chS (nextS lay) L) 6 = _
    have hall := sumL_all h4
    have key : ∀ n, n ≤ 6 → sumTo ((nextS lay).map fun L => ((L.length : Nat) : Int)) (rowG chS (nextS lay) L) n = ((sumL L n : Nat) : Int) := by
      intro n
      induction n with
      | zero => intro _; rfl
      | succ n ih =>
        intro hn
        have hb := sumL_mono L hn
        rcases row_at hL (show n < 6 by omega) with ⟨h5, h6⟩ | ⟨j, h5, h6, h7, h8⟩
        · rw [sumTo_no h5 (by omega), ih (by omega), sumL, h6]; simp
        · have hc : ((nextS lay).map fun L => ((L.length : Nat) : Int))[((j : Nat) : Int).toNat]? = some (((sufF (n : Int) L).length : Nat) : Int) := by
            rw [Int.toNat_natCast, List.getElem?_map, h7]; rfl
          rw [sumTo_yes h6 (by omega) hc, ih (by omega)]
          rw [sumL] at hb ⊢
          unfold wrap64
          omega
    rw [key 6 (Nat.le_refl _), hall]
end Go.Proofs.Ytfmdgdamelkelaa
/- IsEntailed. -/
namespace Go.Proofs.Ytfmdgdamelkelaa
open Go.ChangeShapes Go.WideShapes Go.ChangeAt Go.RowKit
open Go.Shelf
set_option linter.unusedVariables false
set_option maxRecDepth 100000
attribute [local go_sem] Oper.semAt_some

set_option maxHeartbeats 4000000 in
theorem svalidDomainsF (A : Option Addr) (n c : Nat) (xs : List Int) (w : World) (h : IntR w w.heap.size A n xs) :
    Calls Try.prog 45 #[.slice A n c] w fun e w' => e = .returned (.bool (dokF xs)) ∧ w = w' := by
  have hn := h.le
  have hl := Lib.hid h.len
  go_enter Try.func45, Try.ntmps45
  go_wp2_with fail
  go_loop [3] (fun i => ∃ k : Nat, k ≤ n ∧ i = .int .i64 k ∧ Hid (AllB vdB xs k)) (fun i => n - (intOf i).toNat)
  case atStart => exact ⟨0, by omega, rfl, AllB.zero _ _⟩
  case round =>
    obtain ⟨k, hk, rfl, hq⟩ := hrel
    by_cases hlt : k < n
    · obtain ⟨ab, ao, x, rfl, hab, hxk, hcx⟩ := IntR.at_ h hlt
      have HXK := Lib.hid hxk
      clear hxk
      go_wp2_with fail
      refine (svalidDomain _ _).mono ?_
      rintro e w' ⟨rfl, rfl⟩
      cases hv : vdB x
      · have HE := Lib.hid (show dokF xs = false by unfold dokF; rw [show (xs.all fun x => inB x 0 63) = xs.all vdB from rfl, all_no (f := vdB) HXK.out hv]; simp)
        clear hv
        go_wp2_with fail
        go_ret
        exact ⟨ret_bool HE.out.symm, rfl⟩
      · have HV := Lib.hid hv
        clear hv
        go_wp2_with fail
        go_round
        case rel => exact ⟨k + 1, by omega, by go_num, AllB.succ hq.out HXK.out HV.out⟩
        case measure => simp [intOf]; omega
    · obtain rfl : k = n := by omega
      have HE := Lib.hid (show dokF xs = inB k 1 4 by unfold dokF; rw [show (xs.all fun x => inB x 0 63) = xs.all vdB from rfl, AllB.done hq.out (Nat.le_of_eq hl.out), hl.out]; simp)
      go_wp2_with fail
      refine (inRange _ _ _ _).mono ?_
      rintro e w' ⟨rfl, rfl⟩
      go_wp2_with fail
      go_ret
      exact ⟨ret_bool HE.out.symm, rfl⟩
theorem svalidDomainsF_b (A : Option Addr) (n c : Nat) (xs : List Int) (w : World) (b : Bool) (hb : dokF xs = b) (h : IntR w w.heap.size A n xs) :
    Calls Try.prog 45 #[.slice A n c] w fun e w' => e = .returned (.bool b) ∧ w = w' := by
  subst hb; exact svalidDomainsF A n c xs w h
/-- all tuples satisfy c. -/
def entF (c : Con) (ds : List Int) : Bool := (allT (wordF c.vars ds)).all (satF c)
def ientF (c : Con) (ds : List Int) : Bool := dokF ds && (vconF c ds.length && entF c ds)
theorem dok_parts {ds : List Int} (h : dokF ds = true) : 1 ≤ ds.length ∧ ds.length ≤ 4 ∧ Doms ds := by
  unfold dokF at h
  simp only [Bool.and_eq_true, List.all_eq_true] at h
  have := inB_true h.1
  exact ⟨by omega, by omega, fun x hx => inB_true (h.2 x hx)⟩
theorem word_doms {vars ds : List Int} (hv : ∀ v ∈ vars, 0 ≤ v ∧ v < (ds.length : Int)) (h : Doms ds) : Doms (wordF vars ds) := by
  intro x hx
  unfold wordF at hx
  obtain ⟨u, hu, rfl⟩ := List.mem_map.1 hx
  have := hv u hu
  exact h _ (gat_in (by omega))
theorem sat_tup {c : Con} {n : Nat} {ds t : List Int} (hv : vconF c n = true) (h4 : n ≤ 4) (ht : t ∈ allT (wordF c.vars ds)) : SatOk c t ∧ t.length = c.vars.length := by
  obtain ⟨h1, h2, h3⟩ := vcon_vars hv h4
  obtain ⟨hl, hm⟩ := mem_allT.1 ht
  rw [wordF_len] at hl
  refine ⟨⟨hl, by omega, by omega, fun v hv => ?_, h3⟩, hl⟩
  obtain ⟨k, hk, e⟩ := List.getElem_of_mem hv
  have := hm k (gat (wordF c.vars ds) k) v (by rw [gat_eq (List.getElem?_eq_getElem (by rw [wordF_len]; omega))]; exact List.getElem?_eq_getElem _) (by rw [List.getElem?_eq_getElem hk, e])
  omega
theorem results_cell1 {fn : Func} {p : Tmp} {ty : TypeId} (h : fn.results = #[.cell p ty]) (tmps : Array Value) (w : World) (a : Addr) (v : Value) (hp : tmps.getD p undef = .pointer (some a)) (hd : ∀ w, (isAgg ty).run Try.prog w = .ok false w) (hl : w.cell? a = some v) :
    (results fn tmps).run Try.prog w = .ok v w := by
  have hp' : tmps[p]?.getD undef = .pointer (some a) := by simpa using hp
  simp [results, h, hp', asAddr, loadVar, Sem.run_bind, hd, run_load, hl, Result.andThen]
theorem intR_blk {w : World} {g m : Nat} {cs : Array Value} {t : List Int} (hb : TBlk 3 w g cs) (hc : ∀ (j : Nat) v, t[j]? = some v → cs[j]? = some (.int .i64 v)) (hl : t.length = m) (hm : m ≤ 4) : IntR w w.heap.size (some ⟨g, 0, none⟩) m t :=
  ⟨hl, by omega, fun _ => ⟨g, 0, rfl, hb.lt, fun k x hx => ⟨_, by rw [Nat.zero_add]; exact hb.at_ k (hc k x hx), rfl⟩⟩⟩
set_option maxHeartbeats 8000000 in
theorem iIsEntailed (us : List Value) (c : Con) (A : Option Addr) (n d : Nat) (ds : List Int) (w : World) (h : ConR w w.heap.size us c) (hx : IntR w w.heap.size A n ds) :
    Calls Try.prog 26 #[.agg us.toArray, .slice A n d] w fun e w' => e = .returned (.bool (ientF c ds)) ∧ Below w.heap.size w w' := by
  have hl := Lib.hid hx.len
  obtain ⟨va, aa, ra, cv, ca, cr, eus, -⟩ := id h
  obtain ⟨us0, hus⟩ : ∃ us0 : Array Value, us0 = us.toArray := ⟨_, rfl⟩
  have HUS := Lib.hid (hus.trans (by rw [eus]))
  obtain ⟨x0, hx0⟩ : ∃ x0 : Value, x0 = .int .i64 c.kind := ⟨_, rfl⟩
  obtain ⟨x1, hx1⟩ : ∃ x0 : Value, x0 = .slice va c.vars.length cv := ⟨_, rfl⟩
  obtain ⟨x2, hx2⟩ : ∃ x0 : Value, x0 = .slice aa c.args.length ca := ⟨_, rfl⟩
  obtain ⟨x3, hx3⟩ : ∃ x0 : Value, x0 = .int .i64 c.bound := ⟨_, rfl⟩
  obtain ⟨x4, hx4⟩ : ∃ x0 : Value, x0 = .slice ra c.rows.length cr := ⟨_, rfl⟩
  obtain rfl : us = [x0, x1, x2, x3, x4] := by rw [eus, hx0, hx1, hx2, hx3, hx4]
  obtain ⟨wa, hwa⟩ : ∃ wa, wa = (w.alloc (.cells #[x0, x1, x2, x3, x4] 29)).alloc (.cells #[.bool false] 4) := ⟨_, rfl⟩
  have hb0 : Below w.heap.size w wa := by rw [hwa]; exact (b_alloc _ _).alloc (by simp) _
  have hsz : wa.heap.size = w.heap.size + 2 := by rw [hwa]; simp
  have ha : CBlk wa w.heap.size x0 x1 x2 x3 x4 := by rw [hwa]; exact (CBlk.new w _ _ _ _ _).below (b_alloc _ _) (by simp)
  have hr : TBlk 4 wa (w.heap.size + 1) #[.bool false] := by rw [hwa]; exact TBlk.newAt (by simp)
  have HC0 := Lib.hid h
  have H := Lib.hid (ConR.on h hb0)
  have GX := Lib.hid (IntR.on hx hb0)
  have HA := Lib.hid ha
  have HR := Lib.hid hr
  obtain ⟨a0, a1, a2, a3, a4⟩ := ha.cells
  have hr0 := hr.at_ 0 rfl
  have hr1 := hr.frozen 0
  clear h hx hx0 hx1 hx2 hx3 hx4 eus hus HUS ha hr
  obtain ⟨z, hz⟩ : ∃ z, z = w.heap.size := ⟨_, rfl⟩
  refine (callsIn_wide (n := 5)).1 ?_
  refine callsIn_of_wp_marks Try.func26 rfl trivial ?_ rfl
  refine wpIn_wide.2 ?_
  simp only [Try.ntmps26, List.size_toArray, List.length_cons, List.length_nil, Nat.reduceAdd, Nat.reduceSub, Array.replicate_succ, Array.replicate_zero, List.push_toArray, List.append_toArray, List.nil_append, List.cons_append]
  go_wp2_with fail
  rw [← hwa]
  clear hwa
  refine (domainsOk _ _ _ _ _ GX.out).mono ?_
  rintro e w1 ⟨rfl, hb1⟩
  have H1 := Lib.hid (ConR.on H.out hb1)
  have GX1 := Lib.hid (IntR.on GX.out hb1)
  have HA1 := Lib.hid (HA.out.below hb1 (by omega))
  have HR1 := Lib.hid (HR.out.below_ hb1 HR.out.lt)
  have hs1 := hb1.size
  have HB1 := Lib.hid (hb0.trans (hb1.mono (by omega)))
  obtain ⟨c0, c1, c2, c3, c4⟩ := HA1.out.cells
  have hr2 := HR1.out.at_ 0 rfl
  have hr3 := HR1.out.frozen 0
  clear a0 a1 a2 a3 a4 hr0 hr1 hb1 H GX HA HR
  cases t0 : dokF ds
  · have HE := Lib.hid (show ientF c ds = false by unfold ientF; rw [t0]; rfl)
    clear t0
    go_wp2_with fail
    refine ⟨_, results_cell1 rfl _ _ ⟨w.heap.size + 1, 0, none⟩ (.bool false) rfl (run_isAgg_plain Try.underlying4 rfl) ((HR1.out.store 0 _).at_ 0 rfl), ?_, ?_⟩
    · rw [HE.out]
    · exact HB1.out.setCell (p := ⟨w.heap.size + 1, 0, none⟩) (Nat.le_succ _) _
  obtain ⟨hl1, hl4, hdoms⟩ := dok_parts t0
  have HDM := Lib.hid hdoms
  rw [hl.out] at hl1 hl4
  have HD := Lib.hid t0
  clear t0 hdoms
  go_wp2_with fail
  refine (iValidConstraint _ c _ _ H1.out).mono ?_
  rintro e w2 ⟨rfl, hb2⟩
  have hvc : vconstF c (n : Int) = vconF c (n : Int) := by unfold vconstF; rw [inB_mk ⟨by omega, by omega⟩]; rfl
  rw [hvc]
  clear hvc
  have H2 := Lib.hid (ConR.on H1.out hb2)
  have GX2 := Lib.hid (IntR.on GX1.out hb2)
  have HA2 := Lib.hid (HA1.out.below hb2 (by omega))
  have HR2 := Lib.hid (HR1.out.below_ hb2 HR1.out.lt)
  have hs2 := hb2.size
  have HB2 := Lib.hid (HB1.out.trans (hb2.mono (by omega)))
  obtain ⟨d0, d1, d2, d3, d4⟩ := HA2.out.cells
  have hr4 := HR2.out.at_ 0 rfl
  have hr5 := HR2.out.frozen 0
  clear c0 c1 c2 c3 c4 hr2 hr3 hb2 H1 GX1 HA1 HR1 HB1 hb0
  cases t0 : vconF c (n : Int)
  · have HE := Lib.hid (show ientF c ds = false by unfold ientF; rw [hl.out, t0]; simp)
    clear t0
    go_wp2_with fail
    refine ⟨_, results_cell1 rfl _ _ ⟨w.heap.size + 1, 0, none⟩ (.bool false) rfl (run_isAgg_plain Try.underlying4 rfl) ((HR2.out.store 0 _).at_ 0 rfl), ?_, ?_⟩
    · rw [HE.out]
    · exact HB2.out.setCell (p := ⟨w.heap.size + 1, 0, none⟩) (Nat.le_succ _) _
  have hie : ientF c ds = entF c ds := by unfold ientF; rw [hl.out, t0, HD.out]; simp
  have HIE := Lib.hid hie
  have HV := Lib.hid t0
  have hvp := Lib.hid (vcon_vars t0 hl4)
  clear hie t0
  go_wp2_with fail
  refine (iword _ c _ _ _ ds _ H2.out GX2.out hvp.out.2.1 (by have := hvp.out.1; omega)).mono ?_
  rintro e w3 ⟨v, rfl, ho3, hb3⟩
  obtain ⟨ws, hws⟩ : ∃ ws, wordF c.vars ds = ws := ⟨_, rfl⟩
  have hwl : ws.length = c.vars.length := by rw [← hws, wordF_len]
  obtain ⟨m, hm⟩ : ∃ m, ws.length = m := ⟨_, rfl⟩
  have hm1 : 1 ≤ m ∧ m ≤ 4 := by have := hvp.out.1; omega
  rw [hws] at ho3
  have ho4 := ho3.1
  rw [hm] at ho4
  obtain ⟨gv, cc, cur, rfl, hgv, hgb, hgc⟩ := own_blk_int ho4 (by omega)
  have HGC := Lib.hid hgc
  have HWS := Lib.hid hws
  have HM := Lib.hid hm
  have HMV := Lib.hid (show c.vars.length = m from by omega)
  have H3 := Lib.hid (ConR.on H2.out hb3)
  have HA3 := Lib.hid (HA2.out.below hb3 (by omega))
  have HR3 := Lib.hid (HR2.out.below_ hb3 HR2.out.lt)
  have hs3 := hb3.size
  have HB3 := Lib.hid (HB2.out.trans (hb3.mono (by omega)))
  clear d0 d1 d2 d3 d4 hr4 hr5 hb3 H2 GX2 HA2 HR2 HB2 ho3 ho4 hws hm hgc hwl
  go_wp2_with fail
  refine (ituples _ _ _ _).mono ?_
  rintro e w4 ⟨rfl, hw4⟩
  obtain ⟨bD, hbD⟩ : ∃ bD, w3.heap.size = bD := ⟨_, rfl⟩
  have hd4 : TBlk 22 w4 bD #[.slice (some ⟨gv, 0, none⟩) m cc] := by rw [hw4]; exact TBlk.newAt hbD.symm
  have hg4 : TBlk 3 w4 gv cur := by rw [hw4]; exact hgb.alloc_ _
  have hs4 : w4.heap.size = bD + 1 := by rw [hw4]; simp [hbD]
  have hb34 : Below w3.heap.size w3 w4 := by rw [hw4]; exact b_alloc _ _
  have HA4 := Lib.hid (HA3.out.below hb34 (by omega))
  have HR4 := Lib.hid (HR3.out.below_ hb34 HR3.out.lt)
  have HB4 := Lib.hid (HB3.out.trans (hb34.mono (by omega)))
  rw [hbD]
  rw [hbD] at hs3
  clear hw4 hb34 H3 HA3 HR3 HB3 hbD hgb
  go_wp2_with fail
  have HG4 := Lib.hid hg4
  have HD4 := Lib.hid hd4
  have HSZ := Lib.hid (show w.heap.size + 2 ≤ gv ∧ gv < bD ∧ w.heap.size + 2 ≤ bD from ⟨by omega, by have := hg4.lt; have := hg4.ne hd4 (by decide); omega, by omega⟩)
  clear hg4 hd4 hsz hs1 hs2 hs3 hgv
  refine (wpIn_wide (n := 5)).1 ?_
  refine wp_range_direct (gf := 98) (lb := #[.pointer (some ⟨bD, 0, none⟩)]) rfl (enters_of Try.func98 (by kernel_rfl) rfl) ?_
  intro r hr1 hr2 hr3 hr4 hr5 hr6
  obtain ⟨B, hB⟩ : ∃ B, w4.heap.size = B := ⟨_, rfl⟩
  rw [hB]
  have HBD := Lib.hid (show B = bD + 1 from by rw [← hB]; exact hs4)
  let J : List (List Int) → World → Prop := fun vis W => Rdy B r W ∧ Below w.heap.size w W ∧ CBlk W w.heap.size x0 x1 x2 x3 x4 ∧ TBlk 4 W (w.heap.size + 1) #[.bool false] ∧ TBlk 22 W bD #[.slice (some ⟨gv, 0, none⟩) m cc] ∧ TBlk 3 W gv cur ∧ ∀ t ∈ vis, satF c t = true
  let Jx : World → Prop := fun W => Don B r .ret W ∧ Below w.heap.size w W ∧ TBlk 4 W (w.heap.size + 1) #[.bool false] ∧ entF c ds = false
  obtain ⟨W5, hW5⟩ : ∃ W5, (w4.alloc (.deferred (some []))).alloc (.loop r) = W5 := ⟨_, rfl⟩
  have hS5 : W5.heap.size = B + 2 := by rw [← hW5]; simp; omega
  have hJ0 : J [] W5 := by
    rw [← hW5]
    refine ⟨⟨?_, ?_⟩, (HB4.out.alloc (by have := HSZ.out; have := HBD.out; omega) _).alloc (by have := HSZ.out; have := HBD.out; simp; omega) _, (HA4.out.below (b_alloc _ _) HA4.out.lt).below (b_alloc _ _) (by have := HA4.out.lt; simp; omega), (HR4.out.alloc_ _).alloc_ _, (HD4.out.alloc_ _).alloc_ _, (HG4.out.alloc_ _).alloc_ _, by simp⟩
    · have := World.alloc_heap_new (w4.alloc (.deferred (some []))) (.loop r)
      rwa [World.size_alloc, hB] at this
    · have := World.alloc_heap_new w4 (.deferred (some []))
      rw [hB] at this
      exact ((b_alloc _ _).block _ (by rw [size_alloc_]; omega)).trans this
  have hws5 : Doms ws := by rw [← HWS.out]; exact word_doms (by rw [hl.out]; exact hvp.out.2.1) HDM.out
  rw [hW5]
  refine ((callsIn_wide (n := 5 - 1)).2 (tuples1 bD m (B + 1) gv 0 cc ws hws5 HM.out (by omega) W5 J Jx ?hJb ?hJd ?hY hJ0)).mono ?fin
  case hJb =>
    rintro vis W1 W' ⟨j1, j2, j3, j4, j5, j6, j7⟩ hb
    rw [hS5] at hb
    have := HSZ.out
    have := HBD.out
    exact ⟨j1.below (by omega) hb, j2.trans (hb.mono (by omega)), j3.below hb (by omega), j4.below_ hb (by omega), j5.below_ hb (by omega), j6.below_ hb (by omega), j7⟩
  case hJd =>
    rintro vis W1 ⟨j1, j2, j3, j4, j5, j6, j7⟩
    exact ⟨j5.at_ 0 rfl, fun j x hj => by rw [Nat.zero_add]; exact j6.at_ j (HGC.out j x hj)⟩
  case hY =>
    rintro mm g vis t W1 ⟨j1, j2, j3, j4, j5, j6, j7⟩ ht hg ⟨cs, hcs, hcb, hct⟩
    rw [hS5] at hg ⊢
    have htm := sat_tup (c := c) (ds := ds) HV.out hl4 (by rw [HWS.out]; exact ht)
    refine yield_direct (a1 := { tmps := #[.agg #[x0, x1, x2, x3, x4], .slice A n d, .pointer (some ⟨w.heap.size, 0, none⟩), undef, .pointer (some ⟨w.heap.size + 1, 0, none⟩), .slice (some ⟨g, 0, none⟩) m m, .slice A n d, .bool true, .bool false, .bool false, .agg #[x0, x1, x2, x3, x4], .slice A n d, .int .i64 n, .bool true, .bool false, .bool false,
          .agg #[x0, x1, x2, x3, x4], .slice A n d, .slice (some ⟨gv, 0, none⟩) m cc, .func (.func 98) #[] #[.pointer (some ⟨bD, 0, none⟩)], .slice (some ⟨g, 0, none⟩) m m, undef, undef, undef, undef], defers := [] }) j1 hr1 hr2 hr3 hr4 hr5 hr6 rfl (fun K hK => by gi_wp2; exact hK) ?_
    obtain ⟨W2, hW2⟩ : ∃ W2 : World, W1.putObj (B + 1) (.loop { r with state := .busy }) = W2 := ⟨_, rfl⟩
    have hBs : Bsy B r W2 := by rw [← hW2]; exact j1.busy
    have q2 : Below w.heap.size w W2 := by rw [← hW2]; exact j2.trans (put_below _ j1.1 (by have := HSZ.out; have := HBD.out; omega))
    have q3 : CBlk W2 w.heap.size x0 x1 x2 x3 x4 := by rw [← hW2]; exact (World.putObj_heap_other (by have := HSZ.out; have := HBD.out; omega)).trans j3
    have q4 : TBlk 4 W2 (w.heap.size + 1) #[.bool false] := by rw [← hW2]; exact j4.put_ j1.1 rfl
    have q5 : TBlk 22 W2 bD #[.slice (some ⟨gv, 0, none⟩) m cc] := by rw [← hW2]; exact j5.put_ j1.1 rfl
    have q6 : TBlk 3 W2 gv cur := by rw [← hW2]; exact j6.put_ j1.1 rfl
    have qg : TBlk 3 W2 g cs := by rw [← hW2]; exact hcb.put_ j1.1 rfl
    have qS : W2.heap.size = W1.heap.size := by rw [← hW2, put_size]
    have qH : ∀ k, k ≠ B + 1 → W2.heap[k]? = W1.heap[k]? := fun k hk => by rw [← hW2]; exact World.putObj_heap_other hk
    have hcon : ConR W2 W2.heap.size [x0, x1, x2, x3, x4] c := ConR.on HC0.out q2
    have hint : IntR W2 W2.heap.size (some ⟨g, 0, none⟩) m t := intR_blk qg hct (by rw [htm.2]; exact HMV.out) hm1.2
    have HQ := Lib.hid (And.intro q2 (And.intro q3 (And.intro q4 (And.intro q5 (And.intro q6 (And.intro qg (And.intro qS (And.intro qH hBs))))))))
    have HJ7 := Lib.hid j7
    have HTM := Lib.hid (And.intro htm ht)
    have HCON := Lib.hid hcon
    have HINT := Lib.hid hint
    have HHB := Lib.hid (show B + 1 < W2.heap.size from by have := (Array.getElem?_eq_some_iff.1 hBs.1).1; exact this)
    obtain ⟨k0, k1, k2, k3, k4⟩ := q3.cells
    have kr := q4.at_ 0 rfl
    have kf := q4.frozen 0
    rw [hW2]
    clear q2 q3 q4 q5 q6 qg qS qH j1 j2 j3 j4 j5 j6 j7 hcb hct hcs hW2 hcon hint hJ0 hW5 hr1 hr2 hr3 hr4 hr5 hr6 htm hBs hws5
    gi_wp2
    refine ⟨trivial, fun h => by simp [Fence.wide] at h, CallsIn.inRound _ (((callsIn_wide (n := mm - 1)).2 (isatisfied _ c _ _ _ t _ HCON.out HINT.out (Nat.le_refl _) HTM.out.1.1)).mono ?_)⟩
    rintro e W3 ⟨rfl, hb3⟩
    have HQ3 : Hid (Below w.heap.size w W3 ∧ CBlk W3 w.heap.size x0 x1 x2 x3 x4 ∧ TBlk 4 W3 (w.heap.size + 1) #[.bool false] ∧ TBlk 22 W3 bD #[.slice (some ⟨gv, 0, none⟩) m cc] ∧ TBlk 3 W3 gv cur ∧ W1.heap.size ≤ W3.heap.size ∧ (∀ k, k ≠ B + 1 → k < W1.heap.size → W3.heap[k]? = W1.heap[k]?) ∧ Bsy B r W3) := by
      obtain ⟨q2, q3, q4, q5, q6, qg, qS, qH, hBs⟩ := HQ.out
      have hs2 := q2.size
      exact Lib.hid ⟨q2.trans (hb3.mono hs2), q3.below hb3 q3.lt, q4.below_ hb3 q4.lt, q5.below_ hb3 q5.lt, q6.below_ hb3 q6.lt, by have := hb3.size; omega, fun k h1 h2 => (hb3.block k (by omega)).trans (qH k h1), ⟨(hb3.block _ HHB.out).trans hBs.1, (hb3.block _ (by have := HHB.out; omega)).trans hBs.2⟩⟩
    obtain ⟨q2, q3, q4, q5, q6, qS, qH, hBs⟩ := HQ3.out
    have kr := q4.at_ 0 rfl
    have kf := q4.frozen 0
    clear k0 k1 k2 k3 k4 hb3 HQ HCON HINT HHB q2 q3 q4 q5 q6 qS qH hBs
    cases hsat : satF c t
    · have HE := Lib.hid (show entF c ds = false by
        unfold entF
        rw [HWS.out]
        exact Bool.eq_false_iff.2 fun h => by have := List.all_eq_true.1 h t HTM.out.2; rw [hsat] at this; cases this)
      clear hsat
      gi_wp2
      obtain ⟨q2, q3, q4, q5, q6, qS, qH, hBs⟩ := HQ3.out
      have hz1 := HSZ.out
      have hz2 := HBD.out
      have hBs4 : Bsy B r (W3.setCell ⟨w.heap.size + 1, 0, none⟩ (.bool false)) := ⟨(Below.heap_setCell W3 ⟨w.heap.size + 1, 0, none⟩ _ _ (by show B + 1 ≠ w.heap.size + 1; omega)).trans hBs.1, (Below.heap_setCell W3 ⟨w.heap.size + 1, 0, none⟩ _ _ (by show B ≠ w.heap.size + 1; omega)).trans hBs.2⟩
      exact ⟨hBs4, .inr ⟨rfl, hBs4.done .ret, (q2.setCell (p := ⟨w.heap.size + 1, 0, none⟩) (Nat.le_succ _) _).trans (put_below _ hBs4.1 (by omega)), (q4.store 0 _).put_ hBs4.1 rfl, HE.out⟩⟩
    · have HST := Lib.hid hsat
      clear hsat
      gi_wp2
      obtain ⟨q2, q3, q4, q5, q6, qS, qH, hBs⟩ := HQ3.out
      have hz1 := HSZ.out
      have hz2 := HBD.out
      refine ⟨hBs, .inl ⟨rfl, ⟨hBs.ready, q2.trans (put_below _ hBs.1 (by omega)), (World.putObj_heap_other (by omega)).trans q3, q4.put_ hBs.1 rfl, q5.put_ hBs.1 rfl, q6.put_ hBs.1 rfl, fun x hx => ?_⟩, by rw [put_size]; exact qS, fun k h1 h2 => (World.putObj_heap_other (by omega)).trans (qH k (by omega) h2)⟩⟩
      rcases List.mem_append.1 hx with hx | hx
      · exact HJ7.out x hx
      · rw [List.mem_singleton.1 hx]; exact HST.out
  case fin =>
    rintro e W' ⟨⟨v, rfl⟩, (⟨hRd, j2, j3, j4, j5, j6, j7⟩ | ⟨hDn, j2, j4, hE⟩)⟩
    · refine ⟨⟨_, rfl⟩, .inl ⟨hRd, ?_⟩⟩
      have hent : entF c ds = true := by unfold entF; rw [HWS.out]; exact List.all_eq_true.2 j7
      obtain ⟨W3, hW3⟩ : ∃ W3 : World, W'.putObj (B + 1) (.loop { r with state := .exhausted, pending := none }) = W3 := ⟨_, rfl⟩
      rw [hW3]
      have hz1 := HSZ.out
      have hz2 := HBD.out
      have q4 : TBlk 4 W3 (w.heap.size + 1) #[.bool false] := by rw [← hW3]; exact j4.put_ hRd.1 rfl
      have q2 : Below w.heap.size w W3 := by rw [← hW3]; exact j2.trans (put_below _ hRd.1 (by omega))
      have hD3 : W3.heap[B]? = some (.deferred (some [])) := by rw [← hW3]; exact (World.putObj_heap_other (by omega)).trans hRd.2
      have HQ := Lib.hid (And.intro q2 (And.intro q4 (And.intro hD3 hent)))
      have kr := q4.at_ 0 rfl
      have kf := q4.frozen 0
      clear hW3 hRd j2 j3 j4 j5 j6 j7 q2 q4 hD3 hent hr1 hr2 hr3 hr4 hr5 hr6 hJ0 hW5 hws5 hB hs4
      dsimp only
      go_wp2_with fail
      obtain ⟨q2, q4, hD3, hent⟩ := HQ.out
      have hD4 : (W3.setCell ⟨w.heap.size + 1, 0, none⟩ (.bool true)).heap[B]? = some (.deferred (some [])) := (Below.heap_setCell W3 ⟨w.heap.size + 1, 0, none⟩ _ _ (by show B ≠ w.heap.size + 1; omega)).trans hD3
      refine ⟨by simp, .inl ⟨_, _, rfl, run_takeDeferred hD4, ?_⟩⟩
      refine ⟨_, results_cell1 rfl _ _ ⟨w.heap.size + 1, 0, none⟩ (.bool true) rfl (run_isAgg_plain Try.underlying4 rfl) (((q4.store 0 _).put_ hD4 rfl).at_ 0 rfl), ?_, ?_⟩
      · rw [HIE.out, hent]
      · exact (q2.setCell (p := ⟨w.heap.size + 1, 0, none⟩) (Nat.le_succ _) _).trans (put_below _ hD4 (by omega))
    · refine ⟨⟨_, rfl⟩, .inr ⟨.ret, hDn, ?_⟩⟩
      have hz1 := HSZ.out
      have hz2 := HBD.out
      obtain ⟨W3, hW3⟩ : ∃ W3 : World, W'.putObj (B + 1) (.loop { r with state := .exhausted, pending := some .ret }) = W3 := ⟨_, rfl⟩
      rw [hW3]
      have q4 : TBlk 4 W3 (w.heap.size + 1) #[.bool false] := by rw [← hW3]; exact j4.put_ hDn.1 rfl
      have q2 : Below w.heap.size w W3 := by rw [← hW3]; exact j2.trans (put_below _ hDn.1 (by omega))
      have hD3 : W3.heap[B]? = some (.deferred (some [])) := by rw [← hW3]; exact (World.putObj_heap_other (by omega)).trans hDn.2
      clear hW3 hDn j2 j4 hr1 hr2 hr3 hr4 hr5 hr6 hJ0 hW5 hws5 hB hs4
      dsimp only
      gi_wp2
      refine ⟨by simp, .inl ⟨_, _, rfl, run_takeDeferred hD3, ?_⟩⟩
      refine ⟨_, results_cell1 rfl _ _ ⟨w.heap.size + 1, 0, none⟩ (.bool false) rfl (run_isAgg_plain Try.underlying4 rfl) ((q4.put_ hD3 rfl).at_ 0 rfl), ?_, ?_⟩
      · rw [HIE.out, hE]
      · exact q2.trans (put_below _ hD3 (by omega))
end Go.Proofs.Ytfmdgdamelkelaa
/- spec's IsEntailed. -/
namespace Go.Proofs.Ytfmdgdamelkelaa
open Go.ChangeShapes Go.WideShapes Go.ChangeAt Go.RowKit
open Go.Shelf
set_option linter.unusedVariables false
set_option maxRecDepth 100000
attribute [local go_sem] Oper.semAt_some

/-- what begins with t and goes on with a value of d below k. -/
def belK (ws t : List Int) (d : Int) (k : Nat) : List (List Int) := (valsTo d k).flatMap fun u => extT ws (t ++ [u])
theorem belK_zero (ws t : List Int) (d : Int) : belK ws t d 0 = [] := rfl
theorem belK_yes {ws t : List Int} {d : Int} {k : Nat} (h : hasB d k = true) : belK ws t d (k + 1) = belK ws t d k ++ extT ws (t ++ [(k : Int)]) := by
  unfold belK
  rw [valsTo, h]
  simp
theorem belK_no {ws t : List Int} {d : Int} {k : Nat} (h : hasB d k = false) : belK ws t d (k + 1) = belK ws t d k := by
  unfold belK
  rw [valsTo, h]
  simp
theorem belK_six {ws t : List Int} {d : Int} (h : ws[t.length]? = some d) : belK ws t d 6 = extT ws t := (extT_step h).symm
theorem ext_false {c : Con} {ws t : List Int} {d : Int} {k : Nat} (h : ws[t.length]? = some d) (hk : k < 6) (hb : hasB d k = true) (he : (extT ws (t ++ [(k : Int)])).all (satF c) = false) : (extT ws t).all (satF c) = false := by
  refine Bool.eq_false_iff.2 fun h2 => ?_
  rw [Bool.eq_false_iff] at he
  refine he (List.all_eq_true.2 fun x hx => List.all_eq_true.1 h2 x ?_)
  rw [extT_step h]
  exact List.mem_flatMap.2 ⟨k, valsTo_has (by omega) (by omega) hb, hx⟩
theorem word_mem {vars ds : List Int} {i : Nat} {v d : Int} (hv : vars[i]? = some v) (hd : ds[v.toNat]? = some d) : (wordF vars ds)[i]? = some d := by
  rw [wordF_at hv, gat_eq hd]
theorem take_snocE {xs : List Int} {cs : Array Value} {v : Int} (h : ∀ (j : Nat) x, xs[j]? = some x → cs[j]? = some (.int .i64 x)) (hl : xs.length < cs.size) : ∀ (j : Nat) x, (xs ++ [v])[j]? = some x → (cs.setIfInBounds xs.length (.int .i64 v))[j]? = some (.int .i64 x) := by
  intro j x hj
  rcases Nat.lt_or_ge j xs.length with hlt | hge
  · rw [Array.getElem?_setIfInBounds_ne (by omega)]
    rw [List.getElem?_append_left hlt] at hj
    exact h j x hj
  · rw [List.getElem?_append_right hge] at hj
    have hj0 : j = xs.length := by
      rcases Nat.lt_or_ge (j - xs.length) 1 with h4 | h4
      · omega
      · rw [List.getElem?_eq_none (by simpa using h4)] at hj; cases hj
    subst hj0
    rw [Nat.sub_self] at hj
    simp at hj
    subst hj
    rw [Array.getElem?_setIfInBounds_self_of_lt (by omega)]
/-- t stands at the front of the cells. -/
def Front (m : Nat) (W : World) (g : Nat) (t : List Int) : Prop := ∃ cs : Array Value, cs.size = m ∧ TBlk 3 W g cs ∧ ∀ (j : Nat) x, t[j]? = some x → cs[j]? = some (.int .i64 x)
theorem Front.on {m g : Nat} {W W' : World} {t : List Int} (h : Front m W g t) (hb : Below W.heap.size W W') : Front m W' g t := by
  obtain ⟨cs, h1, h2, h3⟩ := h
  exact ⟨cs, h1, h2.below_ hb h2.lt, h3⟩
theorem Front.push {m g : Nat} {W : World} {t : List Int} (h : Front m W g t) (hl : t.length < m) (v : Int) : Front m (W.setCell ⟨g, t.length, none⟩ (.int .i64 v)) g (t ++ [v]) := by
  obtain ⟨cs, h1, h2, h3⟩ := h
  exact ⟨_, by rw [Array.size_setIfInBounds, h1], h2.store _ _, take_snocE h3 (by omega)⟩
theorem Front.pop {m g : Nat} {W : World} {t : List Int} {v : Int} (h : Front m W g (t ++ [v])) : Front m W g t := by
  obtain ⟨cs, h1, h2, h3⟩ := h
  refine ⟨cs, h1, h2, fun j x hj => h3 j x ?_⟩
  have hlt : j < t.length := by
    rcases Nat.lt_or_ge j t.length with h4 | h4
    · exact h4
    · rw [List.getElem?_eq_none h4] at hj; cases hj
  rw [List.getElem?_append_left hlt]; exact hj
theorem Front.intR {m g : Nat} {W : World} {t : List Int} (h : Front m W g t) (hl : t.length = m) (hm : m ≤ 4) : IntR W W.heap.size (some ⟨g, 0, none⟩) m t := by
  obtain ⟨cs, h1, h2, h3⟩ := h
  exact intR_blk h2 h3 hl hm
theorem Front.frozen {m g : Nat} {W : World} {t : List Int} (h : Front m W g t) (j : Nat) : W.frozen? ⟨g, j, none⟩ = false := by
  obtain ⟨cs, h1, h2, h3⟩ := h
  exact h2.frozen j
theorem Front.cell {m g j : Nat} {W : World} {t : List Int} (h : Front m W g t) (hj : j < m) : ∃ u, W.cell? ⟨g, j, none⟩ = some u := by
  obtain ⟨cs, h1, h2, h3⟩ := h
  exact ⟨_, h2.at_ j (Array.getElem?_eq_getElem (by omega))⟩
set_option maxHeartbeats 8000000 in
theorem sall (bE gx m n cd : Nat) (c : Con) (va aa ra : Option Addr) (cv ca cr : Nat) (ds : List Int) (A : Option Addr) (w0 : World) (hc : ConR w0 w0.heap.size [.int .i64 c.kind, .slice va c.vars.length cv, .slice aa c.args.length ca, .int .i64 c.bound, .slice ra c.rows.length cr] c)
    (hd : IntR w0 w0.heap.size A n ds) (hdm : Doms ds) (hvc : vconF c n = true) (h4 : n ≤ 4) (hm : c.vars.length = m) (hg : w0.heap.size ≤ bE ∧ w0.heap.size ≤ gx) :
    ∀ (r : Nat) (t : List Int) (W : World), t.length + r = m → PreDs (wordF c.vars ds) t → Below w0.heap.size w0 W →
      TBlk 79 W bE #[.int .i64 c.kind, .slice va m cv, .slice aa c.args.length ca, .int .i64 c.bound, .slice ra c.rows.length cr, .slice A n cd, .slice (some ⟨gx, 0, none⟩) m m] → Front m W gx t →
      Calls Try.prog 64 #[.pointer (some ⟨bE, 0, none⟩), .int .i64 t.length] W fun e W' => e = .returned (.bool ((extT (wordF c.vars ds) t).all (satF c))) ∧ Below w0.heap.size w0 W' ∧
        TBlk 79 W' bE #[.int .i64 c.kind, .slice va m cv, .slice aa c.args.length ca, .int .i64 c.bound, .slice ra c.rows.length cr, .slice A n cd, .slice (some ⟨gx, 0, none⟩) m m] ∧ Front m W' gx t := by
  obtain ⟨hv1, hv2, hv3⟩ := vcon_vars hvc h4
  have hvr : IntR w0 w0.heap.size va m c.vars := by
    obtain ⟨va', aa', ra', cv', ca', cr', e, g1, g2, g3, -⟩ := hc
    injection e with e1 e2
    injection e2 with e2 e3
    injection e2 with e2 e4 e5
    subst e2
    rw [hm] at g1
    exact g1
  intro r
  induction r with
  | zero =>
    intro t W htr hpre hb hE hX
    obtain rfl : t.length = m := by omega
    have hmem := hpre.mem (by rw [wordF_len]; omega)
    have hsat := (sat_tup hvc h4 hmem).1
    rw [extT_full (by rw [wordF_len]; omega)]
    have hcon := ConR.on hc hb
    have hint := hX.intR rfl (by omega)
    have c0 := hE.at_ 0 rfl
    have c1 := hE.at_ 1 rfl
    have c2 := hE.at_ 2 rfl
    have c3 := hE.at_ 3 rfl
    have c4 := hE.at_ 4 rfl
    have c6 := hE.at_ 6 rfl
    have hl4 : t.length ≤ 4 := by omega
    obtain ⟨k, hk⟩ : ∃ k, t.length = k := ⟨_, rfl⟩
    rw [hm, hk] at hcon
    rw [hk] at c1 c6 hint hE hX hl4 ⊢
    simp only [List.getElem_toArray, List.getElem_cons_zero, List.getElem_cons_succ] at c0 c1 c2 c3 c4 c6
    have HQ := Lib.hid (And.intro hsat (And.intro hcon (And.intro hint (And.intro hE (And.intro hX hb)))))
    clear hsat hcon hint hE hX hb hmem hpre htr hvr hc hd hdm hvc hk hm
    go_enter Try.func64, Try.ntmps64
    go_wp2_with fail
    go_still_tail 8, (by kernel_rfl)
    obtain ⟨g1, g2, g3, g4, g5, g6⟩ := HQ.out
    have hbd : Below W.heap.size W W.drew := below_drewN (Below.refl _ _) 1
    go_wp2_with fail
    refine (ssatisfies _ c _ _ _ t W.drew (ConR.on g2 hbd) (IntR.on g3 hbd) g1).mono ?_
    rintro e W3 ⟨rfl, hb3⟩
    have HQ3 := Lib.hid (And.intro (bgo g6 (bgo hbd hb3)) (And.intro (g4.below_ (bgo hbd hb3) g4.lt) (g5.on (bgo hbd hb3))))
    clear g1 g2 g3 g4 g5 g6 hbd hb3 HQ
    go_wp2_with fail
    go_ret
    exact ⟨ret_bool (by simp), HQ3.out.1, HQ3.out.2.1, HQ3.out.2.2⟩
  | succ r ih =>
    intro t W htr hpre hb hE hX
    obtain ⟨k, hk⟩ : ∃ k, t.length = k := ⟨_, rfl⟩
    have hkm : k < m := by omega
    have hkm' : ((k : Int) == (m : Int)) = false := by simp; omega
    obtain ⟨vb, vo, v, hva, hvb, hvk, hvc2⟩ := hvr.at_ hkm
    obtain ⟨hv0, hvn⟩ := hv2 v (List.mem_of_getElem? hvk)
    obtain ⟨vn, rfl⟩ : ∃ vn : Nat, v = (vn : Int) := ⟨v.toNat, by omega⟩
    obtain ⟨ab, ao, d, hA, hab, hdk, hdc⟩ := hd.at_ (k := vn) (by omega)
    subst hva hA
    have hws : (wordF c.vars ds)[t.length]? = some d := word_mem (by rw [hk]; exact hvk) (by rw [Int.toNat_natCast]; exact hdk)
    have hd63 := hdm d (List.mem_of_getElem? hdk)
    have HWS := Lib.hid hws
    have HPRE := Lib.hid hpre
    have HK := Lib.hid hk
    have HTR := Lib.hid htr
    have HHV := Lib.hid (show vn < n from by omega)
    have hE1 := hE.at_ 1 rfl
    have hE6 := hE.at_ 6 rfl
    simp only [List.getElem_toArray, List.getElem_cons_zero, List.getElem_cons_succ] at hE1 hE6
    have HB := Lib.hid hb
    have HE := Lib.hid hE
    have HX := Lib.hid hX
    have hvn2 : vn < n := by omega
    have hm4 : m ≤ 4 := by omega
    have hw0s := hb.size
    rw [hk]
    clear hws hpre hk htr hvk hdk hvr hc hd hdm hvc hv1 hv2 hv3 hb hE hX hv0 hvn
    go_enter Try.func64, Try.ntmps64
    go_wp2_with fail
    clear hE1 hE6
    go_loopw [5] (fun t5 wr => ∃ q : Nat, q ≤ 6 ∧ t5 = .int .i64 q ∧ Hid ((belK (wordF c.vars ds) t d q).all (satF c) = true) ∧ Hid (Below w0.heap.size w0 wr) ∧ Hid (TBlk 79 wr bE #[.int .i64 c.kind, .slice (some ⟨vb, vo, none⟩) m cv, .slice aa c.args.length ca, .int .i64 c.bound, .slice ra c.rows.length cr, .slice (some ⟨ab, ao, none⟩) n cd, .slice (some ⟨gx, 0, none⟩) m m]) ∧ Hid (Front m wr gx t)) (fun t5 _ => 6 - (intOf t5).toNat)
    case atStart => exact ⟨0, by omega, rfl, by rw [belK_zero]; rfl, HB.out, HE.out, HX.out⟩
    case round =>
      obtain ⟨q, hq, rfl, hall, hbq, hEq, hXq⟩ := hrel
      clear HB HE HX
      by_cases hlt : q < 6
      · have e1 := hEq.out.at_ 1 rfl
        have e5 := hEq.out.at_ 5 rfl
        have e6 := hEq.out.at_ 6 rfl
        simp only [List.getElem_toArray, List.getElem_cons_zero, List.getElem_cons_succ] at e1 e5 e6
        have ev : wr.cell? ⟨vb, vo + k, none⟩ = some (.int .i64 vn) := (hbq.out.cell (p := ⟨vb, _, none⟩) hvb).trans hvc2
        have ed : wr.cell? ⟨ab, ao + vn, none⟩ = some (.int .i64 d) := (hbq.out.cell (p := ⟨ab, _, none⟩) hab).trans hdc
        have hdh : dhB d q = hasB d q := by unfold dhB; rw [inB_mk ⟨by omega, by omega⟩]; rfl
        cases hh : hasB d q
        · have HH := Lib.hid hh
          rw [hh] at hdh
          clear hh
          go_wp2_with fail
          go_still_tail 15, (by kernel_rfl)
          go_wp2_with fail
          refine (sdomainHas _ _ hd63.1 _).mono ?_
          rw [hdh]
          rintro e W3 ⟨rfl, rfl⟩
          have hbd : Below wr.heap.size wr wr.drew := below_drewN (Below.refl _ _) 1
          have HN := Lib.hid (And.intro (hbq.out.trans (hbd.mono hbq.out.size)) (And.intro (hEq.out.below_ hbd hEq.out.lt) (hXq.out.on hbd)))
          clear hbd
          go_wp2_with fail
          go_roundw
          case rel => exact ⟨q + 1, by omega, by go_num, by rw [belK_no HH.out]; exact hall.out, HN.out.1, HN.out.2.1, HN.out.2.2⟩
          case measure => simp [intOf]; omega
        · have HH := Lib.hid hh
          rw [hh] at hdh
          clear hh
          go_wp2_with fail
          go_still_tail 15, (by kernel_rfl)
          go_wp2_with fail
          refine (sdomainHas _ _ hd63.1 _).mono ?_
          rw [hdh]
          rintro e W3 ⟨rfl, rfl⟩
          have hbd : Below wr.heap.size wr wr.drew := below_drewN (Below.refl _ _) 1
          have hb3 := hbq.out.trans (hbd.mono hbq.out.size)
          have hE3 := hEq.out.below_ hbd hEq.out.lt
          have hX3 := hXq.out.on hbd
          have hgE : gx ≠ bE := by
            obtain ⟨cs, _, h2, _⟩ := hX3
            exact h2.ne hE3 (by decide)
          obtain ⟨u0, hu0⟩ := hX3.cell hkm
          have hf0 := hX3.frozen k
          have hX4 := hX3.push (by have := HK.out; omega) q
          rw [HK.out] at hX4
          have hE4 := hE3.far (j := k) (u := .int .i64 q) hgE.symm
          have hb4 := hb3.setCell (p := ⟨gx, k, none⟩) hg.2 (.int .i64 q)
          have hI := ih (t ++ [(q : Int)]) _ (by rw [List.length_append, List.length_singleton]; have := HTR.out; omega) (HPRE.out.push HWS.out (valsTo_has (by omega) (by omega) HH.out)) hb4 hE4 hX4
          have hlen : (((t ++ [(q : Int)]).length : Nat) : Int) = (k : Int) + 1 := by rw [List.length_append, List.length_singleton, HK.out]; omega
          rw [hlen] at hI
          have HI := Lib.hid hI
          have E6 := hE3.at_ 6 rfl
          simp only [List.getElem_toArray, List.getElem_cons_zero, List.getElem_cons_succ] at E6
          clear hbd hb3 hE3 hX3 hX4 hE4 hb4 hI hlen ih e1 e5 e6 ev ed
          go_wp2_with fail
          refine HI.out.mono ?_
          rintro e W5 ⟨rfl, hb5, hE5, hX5⟩
          have HN := Lib.hid (And.intro hb5 (And.intro hE5 hX5.pop))
          clear hb5 hE5 hX5 HI E6 hu0 hf0
          cases hres : (extT (wordF c.vars ds) (t ++ [(q : Int)])).all (satF c)
          · have HF := Lib.hid (ext_false HWS.out hlt HH.out hres)
            clear hres
            go_wp2_with fail
            go_ret
            exact ⟨ret_bool HF.out.symm, HN.out.1, HN.out.2.1, HN.out.2.2⟩
          · have HR := Lib.hid hres
            clear hres
            go_wp2_with fail
            go_roundw
            case rel => exact ⟨q + 1, by omega, by go_num, by rw [belK_yes HH.out, List.all_append, hall.out, HR.out]; rfl, HN.out.1, HN.out.2.1, HN.out.2.2⟩
            case measure => simp [intOf]; omega
      · obtain rfl : q = 6 := by omega
        go_wp2_with fail
        go_ret
        refine ⟨?_, hbq.out, hEq.out, hXq.out⟩
        have := hall.out
        rw [belK_six HWS.out] at this
        exact ret_bool this.symm
theorem make_blk1 {P : Program} (t e : TypeId) (i : TypeInfo) (z : Value) (ht : P.underlying t = some (.slice e)) (hi : P.info? e = some i) (hz : i.zero = some z) (hs : i.size = 1) (h1 : z.cells = #[z]) (n : Nat) (hb : i.bytes * n ≤ 281474976710656) (h63 : n ≤ maxLen) :
    ∃ Z : Array Value, Z.toList = List.replicate n z ∧ ∀ W : World, Sem.run P (Instr.makeSlice t (.int .i64 (n : Int)) (.int .i64 (n : Int))) W = .ok (.slice (some ⟨W.heap.size, 0, none⟩) n n) (W.alloc (.cells Z e)) := by
  refine ⟨madeCells z.cells (n * i.size), ?_, fun W => ?_⟩
  · rw [hs, Nat.mul_one, h1]; exact toList_madeCells_one _ _
  · have h := run_make (P := P) W t e i z ht hi hz .i64 .i64 (n : Int) (n : Int) (Int.natCast_nonneg _) (Int.le_refl _) (by rw [← Int.natCast_mul]; exact Int.ofNat_le.2 hb) (by unfold maxLen at h63; omega)
    simpa using h
set_option maxHeartbeats 8000000 in
theorem sIsEntailed (us : List Value) (c : Con) (A : Option Addr) (n d : Nat) (ds : List Int) (w : World) (h : ConR w w.heap.size us c) (hx : IntR w w.heap.size A n ds) :
    Calls Try.prog 27 #[.agg us.toArray, .slice A n d] w fun e w' => e = .returned (.bool (ientF c ds)) ∧ Below w.heap.size w w' := by
  obtain ⟨i0, hi0, hz0, hz1, hz2⟩ := info_parts info_int
  have hl := Lib.hid hx.len
  obtain ⟨va, aa, ra, cv, ca, cr, rfl, -⟩ := id h
  obtain ⟨wa, hwa⟩ : ∃ wa, wa = w.alloc (.cells #[.int .i64 c.kind, .slice va c.vars.length cv, .slice aa c.args.length ca, .int .i64 c.bound, .slice ra c.rows.length cr] 29) := ⟨_, rfl⟩
  have hb0 : Below w.heap.size w wa := by rw [hwa]; exact b_alloc _ _
  have ha : CBlk wa w.heap.size (.int .i64 c.kind) (.slice va c.vars.length cv) (.slice aa c.args.length ca) (.int .i64 c.bound) (.slice ra c.rows.length cr) := by rw [hwa]; exact CBlk.new w _ _ _ _ _
  have HC1 := Lib.hid (ConR.on h hb0)
  have GX := Lib.hid (IntR.on hx hb0)
  have HC0 := Lib.hid h
  have HX0 := Lib.hid hx
  have HA := Lib.hid ha
  obtain ⟨a0, a1, a2, a3, a4⟩ := ha.cells
  clear ha h hx
  go_enter Try.func27, Try.ntmps27
  go_wp2_with fail
  rw [← hwa]
  clear hwa
  refine (svalidDomainsF _ _ _ _ _ GX.out).mono ?_
  rintro e w' ⟨rfl, rfl⟩
  cases t0 : dokF ds
  · have HE := Lib.hid (show ientF c ds = false by unfold ientF; rw [t0]; rfl)
    clear t0
    go_wp2_with fail
    go_ret
    exact ⟨ret_bool HE.out.symm, hb0⟩
  obtain ⟨hl1, hl4, hdoms⟩ := dok_parts t0
  have HDM := Lib.hid hdoms
  rw [hl.out] at hl1 hl4
  have HD := Lib.hid t0
  clear t0 hdoms
  go_wp2_with fail
  refine (svalidConstraint _ c _ _ HC1.out).mono ?_
  rintro e w2 ⟨rfl, hb2⟩
  have HA2 := Lib.hid (HA.out.below hb2 HA.out.lt)
  have hsw : w.heap.size < w2.heap.size := HA2.out.lt
  have HB2 := Lib.hid (bgo hb0 hb2)
  obtain ⟨d0, d1, d2, d3, d4⟩ := HA2.out.cells
  clear a0 a1 a2 a3 a4 hb2 HC1 GX HA hb0
  cases t0 : vconF c (n : Int)
  · have HE := Lib.hid (show ientF c ds = false by unfold ientF; rw [hl.out, t0]; simp)
    clear t0
    go_wp2_with fail
    go_ret
    exact ⟨ret_bool HE.out.symm, HB2.out⟩
  have HIE := Lib.hid (show ientF c ds = entF c ds by unfold ientF; rw [hl.out, t0, HD.out]; simp)
  have HV := Lib.hid t0
  have hvp := Lib.hid (vcon_vars t0 hl4)
  obtain ⟨m, hm⟩ : ∃ m, c.vars.length = m := ⟨_, rfl⟩
  have hm4 : m ≤ 4 := by have := hvp.out.1; omega
  obtain ⟨Z, hZ, hmk⟩ := make_blk1 (P := Try.prog) 22 3 i0 _ Try.underlying22 hi0 hz0 hz1 rfl m (by rw [hz2]; omega) (by unfold maxLen; omega)
  have HZ := Lib.hid hZ
  have HM := Lib.hid hm
  rw [hm] at d1
  clear t0 hm hZ
  go_wp2_with fail
  have hSk : ∀ w', Below w2.heap.size w2 w' → w'.cell? ⟨w.heap.size, 0, none⟩ = some (.int .i64 c.kind) ∧ w'.cell? ⟨w.heap.size, 1, none⟩ = some (.slice va m cv) ∧ w'.cell? ⟨w.heap.size, 2, none⟩ = some (.slice aa c.args.length ca) ∧ w'.cell? ⟨w.heap.size, 3, none⟩ = some (.int .i64 c.bound) ∧ w'.cell? ⟨w.heap.size, 4, none⟩ = some (.slice ra c.rows.length cr) :=
    fun w' hb => ⟨(hb.cell (p := ⟨_, _, none⟩) hsw).trans d0, (hb.cell (p := ⟨_, _, none⟩) hsw).trans d1, (hb.cell (p := ⟨_, _, none⟩) hsw).trans d2, (hb.cell (p := ⟨_, _, none⟩) hsw).trans d3, (hb.cell (p := ⟨_, _, none⟩) hsw).trans d4⟩
  refine wp_region_held_drew (S := fun w' => w'.cell? ⟨w.heap.size, 0, none⟩ = some (.int .i64 c.kind) ∧ w'.cell? ⟨w.heap.size, 1, none⟩ = some (.slice va m cv) ∧ w'.cell? ⟨w.heap.size, 2, none⟩ = some (.slice aa c.args.length ca) ∧ w'.cell? ⟨w.heap.size, 3, none⟩ = some (.int .i64 c.bound) ∧ w'.cell? ⟨w.heap.size, 4, none⟩ = some (.slice ra c.rows.length cr)) (by kernel_rfl) (hSk _ (below_drewN (Below.refl _ _) 1)) (fun hHeld => ?_)
  refine wpAnyH_take (i := 0) (oi := { dst := _, op := _, type := _, pos := _, after := _, guard := _ }) (v := ?v0) rfl (by kernel_rfl) (by kernel_rfl) (by kernel_rfl) (fun _ _ _ h => h) (Or.inl ⟨by rfl, ?y0⟩) hHeld ?r0
  case y0 => (intro w hSw; (try dsimp only at hSw); go_simp; try with_reducible rfl)
  try simp only [Act.put, List.setIfInBounds_toArray, List.set_cons_zero, List.set_cons_succ]
  refine wpAnyH_take (i := 1) (oi := { dst := _, op := _, type := _, pos := _, after := _, guard := _ }) (v := ?v1) rfl (by kernel_rfl) (by kernel_rfl) (by kernel_rfl) (fun _ _ _ h => h) (Or.inl ⟨by rfl, ?y1⟩) hHeld ?r1
  case y1 => (intro w hSw; (try dsimp only at hSw); go_simp; try with_reducible rfl)
  try simp only [Act.put, List.setIfInBounds_toArray, List.set_cons_zero, List.set_cons_succ]
  refine wpAnyH_take (i := 2) (oi := { dst := _, op := _, type := _, pos := _, after := _, guard := _ }) (v := ?v2) rfl (by kernel_rfl) (by kernel_rfl) (by kernel_rfl) (fun _ _ _ h => h) (Or.inl ⟨by rfl, ?y2⟩) hHeld ?r2
  case y2 => (intro w hSw; (try dsimp only at hSw); go_simp; try with_reducible rfl)
  try simp only [Act.put, List.setIfInBounds_toArray, List.set_cons_zero, List.set_cons_succ]
  refine wpAnyH_take (i := 3) (oi := { dst := _, op := _, type := _, pos := _, after := _, guard := _ }) (v := ?v3) rfl (by kernel_rfl) (by kernel_rfl) (by kernel_rfl) (fun _ _ _ h => h) (Or.inl ⟨by rfl, ?y3⟩) hHeld ?r3
  case y3 => (intro w hSw; (try dsimp only at hSw); go_simp; try with_reducible rfl)
  try simp only [Act.put, List.setIfInBounds_toArray, List.set_cons_zero, List.set_cons_succ]
  refine wpAnyH_take (i := 4) (oi := { dst := _, op := _, type := _, pos := _, after := _, guard := _ }) (v := ?v4) rfl (by kernel_rfl) (by kernel_rfl) (by kernel_rfl) (fun _ _ _ h => h) (Or.inl ⟨by rfl, ?y4⟩) hHeld ?r4
  case y4 => (intro w hSw; (try dsimp only at hSw); go_simp; try with_reducible rfl)
  try simp only [Act.put, List.setIfInBounds_toArray, List.set_cons_zero, List.set_cons_succ]
  refine wpAnyH_ready (rs := [5]) (by kernel_rfl) (by simp) ?_
  refine AllReadyH.cons (o := { dst := _, op := _, type := _, pos := _, after := _, guard := _ }) rfl (fun K hK => ?_) AllReadyH.nil
  go_simp
  refine hK.out _ _ ?_ (fun hHeld => ?_)
  · exact hSk _ (below_drewN (b_alloc _ _) 1)
  clear hK K
  try simp only [Act.put, List.setIfInBounds_toArray, List.set_cons_zero, List.set_cons_succ]
  refine wpAnyH_take (i := 6) (oi := { dst := _, op := _, type := _, pos := _, after := _, guard := _ }) (v := ?v6) rfl (by kernel_rfl) (by kernel_rfl) (by kernel_rfl) (fun _ _ _ h => h) (Or.inl ⟨by rfl, ?y6⟩) hHeld ?r6
  case y6 => (intro w hSw; (try dsimp only at hSw); go_simp; try with_reducible rfl)
  try simp only [Act.put, List.setIfInBounds_toArray, List.set_cons_zero, List.set_cons_succ]
  refine wpAnyH_ready (rs := [7]) (by kernel_rfl) (by simp) ?_
  refine AllReadyH.cons (o := { dst := _, op := _, type := _, pos := _, after := _, guard := _ }) rfl (fun K hK => ?_) AllReadyH.nil
  go_simp
  refine hK.out _ _ ?_ (fun hHeld => ?_)
  · exact hSk _ (below_drewN ((b_alloc _ _).alloc (by simp) _) 1)
  clear hK K
  try simp only [Act.put, List.setIfInBounds_toArray, List.set_cons_zero, List.set_cons_succ]
  refine wpAnyH_take (i := 8) (oi := { dst := _, op := _, type := _, pos := _, after := _, guard := _ }) (v := ?v8) rfl (by kernel_rfl) (by kernel_rfl) (by kernel_rfl) (fun _ _ _ h => h) (Or.inl ⟨by rfl, ?y8⟩) hHeld ?r8
  case y8 => (intro w hSw; (try dsimp only at hSw); go_simp; try with_reducible rfl)
  try simp only [Act.put, List.setIfInBounds_toArray, List.set_cons_zero, List.set_cons_succ]
  refine wpAnyH_done (by kernel_rfl) ?_ _
  go_wp2_with fail
  have hZs : Z.size = m := by rw [← Array.length_toList, HZ.out, List.length_replicate]
  have hI := sall (w2.heap.size + 1) w2.heap.size m n d c va aa ra cv ca cr ds A w2 (ConR.on HC0.out HB2.out) (IntR.on HX0.out HB2.out) HDM.out HV.out hl4 HM.out ⟨by omega, Nat.le_refl _⟩ m [] _ (by simp) (fun j d v _ hv => by simp at hv)
    (below_drewN ((b_alloc w2 (.cells Z 3)).alloc (by simp) (.cells #[.int .i64 c.kind, .slice va m cv, .slice aa c.args.length ca, .int .i64 c.bound, .slice ra c.rows.length cr, .slice A n d, .slice (some ⟨w2.heap.size, 0, none⟩) m m] 79)) 1)
    ((TBlk.newAt (by simp)).drewN_ 1) ⟨Z, hZs, ((TBlk.newAt rfl).alloc_ _).drewN_ 1, fun j x hj => by simp at hj⟩
  have HI := Lib.hid hI
  clear hI hHeld hSk hmk d0 d1 d2 d3 d4 hZs
  refine HI.out.mono ?_
  rintro e w5 ⟨rfl, hb5, -, -⟩
  have HB5 := Lib.hid (bgo HB2.out hb5)
  have HR := Lib.hid (show (extT (wordF c.vars ds) []).all (satF c) = ientF c ds by rw [HIE.out, extT_nil]; rfl)
  clear hb5 HI
  go_wp2_with fail
  go_ret
  exact ⟨ret_bool HR.out, HB5.out⟩
end Go.Proofs.Ytfmdgdamelkelaa
/- impl's filter. -/
namespace Go.Proofs.Ytfmdgdamelkelaa
open Go.ChangeShapes Go.WideShapes Go.ChangeAt Go.RowKit
open Go.Shelf
set_option linter.unusedVariables false
set_option maxRecDepth 100000
attribute [local go_sem] Oper.semAt_some

/-- Numbers in memory as what an append takes. -/
theorem IntR.srcF {w : World} {B n c : Nat} {A : Option Addr} {xs : List Int} (h : IntR w B A n xs) (h0 : 0 < n) : Src w 1 A n c (xs.map (.int .i64)) := by
  obtain ⟨h1, -, h2⟩ := h
  obtain ⟨b, o, rfl, hb, hc⟩ := h2 h0
  refine .inr ⟨_, rfl, by rw [List.length_map, h1]; omega, fun j u hj => ?_⟩
  rw [List.getElem?_map] at hj
  cases hx : xs[j]? with
  | none => rw [hx] at hj; cases hj
  | some x =>
    rw [hx] at hj
    obtain ⟨u', hu, he⟩ := hc j x hx
    simp only [Option.map_some, Option.some.injEq] at hj
    rw [← hj, Addr.add_lit]
    rw [hu, he]
set_option maxHeartbeats 4000000 in
theorem scopyRF (A : Option Addr) (n c : Nat) (xs : List Int) (w : World) (h : IntR w w.heap.size A n xs) (h0 : 0 < n) (hn : n ≤ 1048576) :
    Calls Try.prog 116 #[.slice A n c] w fun e w' => ∃ v', e = .returned v' ∧ OwnI 3 w' w.heap.size v' xs ∧ Below w.heap.size w w' := by
  obtain ⟨i0, hi0, hz0, hz1, hz2⟩ := info_parts info_int
  have hl := Lib.hid h.len
  have ol : (w.alloc (.cells #[] 3)).ownsRow w.heap.size 3 1 (.slice (some ⟨w.heap.size, 0, none⟩) 0 0) 0 [] := World.ownsRow_lit w #[] 0 (Nat.le_refl _) (by decide) rfl
  have hs : Src (w.alloc (.cells #[] 3)) 1 A n c (xs.map (.int .i64)) := (IntR.on h (b_alloc w (.cells #[] 3))).srcF h0
  clear h
  go_enter Try.func116, Try.ntmps116
  go_wp2_with (at_builtin; refine wpList_append_any rfl _ _ 22 rfl w.heap.size 3 i0 _ 1 8 Try.underlying22 hi0 hz0 hz1 hz2 rfl (by decide) (.slice (some ⟨w.heap.size, 0, none⟩) 0 0) _ _ rfl ol _ _ _ _ rfl hs (by simp [Value.oneCell']) (by unfold maxLen; omega) (by omega) (by rw [size_alloc_]; omega) ?_; intro v1 w1 ho1 hb1 _ _)
  have ho2 : OwnI 3 w1 w.heap.size v1 xs := ⟨by rw [hl.out]; simpa using ho1, by rw [hl.out]; omega⟩
  go_ret
  exact ⟨v1, rfl, ho2, (b_alloc _ _).trans hb1⟩
set_option maxHeartbeats 4000000 in
theorem cloneRF (A : Option Addr) (n c : Nat) (xs : List Int) (w : World) (h : IntR w w.heap.size A n xs) (h0 : 0 < n) (hn : n ≤ 1048576) :
    Calls Try.prog 90 #[.slice A n c] w fun e w' => ∃ v', e = .returned v' ∧ OwnI 3 w' w.heap.size v' xs ∧ Below w.heap.size w w' := by
  obtain ⟨i0, hi0, hz0, hz1, hz2⟩ := info_parts info_int
  have hl := Lib.hid h.len
  have ol : (w.alloc (.cells #[] 3)).ownsRow w.heap.size 3 1 (.slice (some ⟨w.heap.size, 0, none⟩) 0 0) 0 [] := World.ownsRow_lit w #[] 0 (Nat.le_refl _) (by decide) rfl
  have hs : Src (w.alloc (.cells #[] 3)) 1 A n c (xs.map (.int .i64)) := (IntR.on h (b_alloc w (.cells #[] 3))).srcF h0
  obtain ⟨b, o, rfl, -⟩ := h.2.2 h0
  clear h
  have q22 : ∀ (w : World) (a : Option Addr) (n c n' c' : Nat), (binOp .eql 22 (.slice a n c) (.slice none n' c')).run Try.prog w = .ok (.bool a.isNone) w := fun w a n c n' c' => Lib.run_eql_slice_nil w _ _ a n c n' c' Try.underlying22
  have u22 : ∀ w, Sem.run Try.prog (underlying 22) w = .ok (TypeDesc.slice 3) w := run_underlying Try.underlying22
  go_enter Try.func90, Try.ntmps90
  go_wp2_with (at_builtin; refine wpList_append_any rfl _ _ 22 rfl w.heap.size 3 i0 _ 1 8 Try.underlying22 hi0 hz0 hz1 hz2 rfl (by decide) (.slice (some ⟨w.heap.size, 0, none⟩) 0 0) _ _ rfl ol _ _ _ _ rfl hs (by simp [Value.oneCell']) (by unfold maxLen; omega) (by omega) (by rw [size_alloc_]; omega) ?_; intro v1 w1 ho1 hb1 _ _)
  have ho2 : OwnI 3 w1 w.heap.size v1 xs := ⟨by rw [hl.out]; simpa using ho1, by rw [hl.out]; omega⟩
  go_ret
  exact ⟨v1, rfl, ho2, (b_alloc _ _).trans hb1⟩
theorem updTo_at2 {acc t : List Int} {k : Nat} {v : Int} (hl : acc.length = t.length) (hv : t[k]? = some v) : ∃ a, acc[k]? = some a ∧ (updTo acc t k)[k]? = some a := by
  have hk : k < t.length := by
    rcases Nat.lt_or_ge k t.length with h | h
    · exact h
    · rw [List.getElem?_eq_none h] at hv; cases hv
  exact ⟨_, List.getElem?_eq_getElem (by omega), updTo_at hl (List.getElem?_eq_getElem (by omega))⟩
theorem HoldR.put_ {w : World} {base n size l : Nat} {e : TypeId} {v : Value} {xs : List Value} {o o' : Obj} (h : HoldR w base e size v n xs) (hl : w.heap[l]? = some o) (ho : o.isCells = false) : HoldR (w.putObj l o') base e size v n xs :=
  ⟨h.1, h.2.imp id fun ⟨g, cap, cur, h1, h2, h3, r⟩ => ⟨g, cap, cur, h1, h2, TBlk.put_ (t := e) h3 hl ho, r⟩⟩
theorem putTo_succ {ds vars sup : List Int} {k v : Nat} {a : Int} (hv : vars[k]? = some (v : Int)) (ha : sup[k]? = some a) : putTo ds vars sup (k + 1) = (putTo ds vars sup k).set v a := by
  rw [putTo, gat_eq hv, gat_eq ha, Int.toNat_natCast]
theorem filF_len (c : Con) (ds : List Int) : (filF c ds).length = ds.length := putTo_len _ _ _ _
theorem wrap_pow6 : ∀ a : Fin 6, IntKind.i64.wrap (2 ^ (a.val : Int).toNat) = 2 ^ (a.val : Int).toNat := by decide +kernel
theorem wrap_pow {v : Int} (h0 : 0 ≤ v) (h1 : v ≤ 5) : IntKind.i64.wrap (2 ^ v.toNat) = 2 ^ v.toNat := by
  obtain ⟨a, rfl⟩ := fin6 h0 h1
  exact wrap_pow6 a
/-- what Filter gives. -/
def filtF (c : Con) (ds : List Int) : List Int := if dokF ds && vconF c ds.length then filF c ds else []
theorem filtF_len (c : Con) (ds : List Int) : (filtF c ds).length ≤ 4 := by
  unfold filtF
  split
  · rename_i h
    simp only [Bool.and_eq_true] at h
    rw [filF_len]; exact (dok_parts h.1).2.1
  · simp
end Go.Proofs.Ytfmdgdamelkelaa
/- spec's tuples. -/
namespace Go.Proofs.Ytfmdgdamelkelaa
open Go.ChangeShapes Go.WideShapes Go.ChangeAt Go.RowKit
open Go.Shelf
set_option linter.unusedVariables false
set_option maxRecDepth 100000
attribute [local go_sem] Oper.semAt_some

/-- what lies at or above B stays. -/
def Hi (B : Nat) (W W' : World) : Prop := W.heap.size ≤ W'.heap.size ∧ ∀ b, B ≤ b → b < W.heap.size → W'.heap[b]? = W.heap[b]?
theorem Hi.of_below {B : Nat} {W W' : World} (h : Below W.heap.size W W') : Hi B W W' := ⟨h.size, fun b _ hb => h.block b hb⟩
theorem Hi.set {B g j : Nat} (W : World) (u : Value) (hg : g < B) : Hi B W (W.setCell ⟨g, j, none⟩ u) := ⟨by simp, fun b h1 _ => Below.heap_setCell W ⟨g, j, none⟩ u b (by show b ≠ g; omega)⟩
theorem Hi.trans {B : Nat} {W W1 W2 : World} (h : Hi B W W1) (k : Hi B W1 W2) : Hi B W W2 := ⟨Nat.le_trans h.1 k.1, fun b h1 h2 => (k.2 b h1 (Nat.lt_of_lt_of_le h2 h.1)).trans (h.2 b h1 h2)⟩
theorem own_hi {W W' : World} {B n size : Nat} {e : TypeId} {v : Value} {xs : List Value} (h : W.ownsRow B e size v n xs) (k : Hi B W W') : W'.ownsRow B e size v n xs :=
  ⟨h.1, h.2.imp id fun ⟨g, cap, cur, h1, h2, h3, r⟩ => ⟨g, cap, cur, h1, h2, (k.2 g h2 (Array.getElem?_eq_some_iff.1 h3).1).trans h3, r⟩⟩
/-- the tuples found so far. -/
abbrev FoundS (W : World) (B : Nat) (v : Value) (fs : List (List Int)) : Prop := OwnOf 22 (OwnI 3) W B v fs
theorem FoundS.hi {W W' : World} {B : Nat} {v : Value} {fs : List (List Int)} (h : FoundS W B v fs) (k : Hi B W W') : FoundS W' B v fs := by
  obtain ⟨us, h1, h2, h3, h4⟩ := h
  exact ⟨us, h1, own_hi h2 k, h3, fun i u x hu hx => ⟨own_hi (h4 i u x hu hx).1 k, (h4 i u x hu hx).2⟩⟩
theorem FoundS.nil (W : World) (B : Nat) : FoundS W B (.slice none 0 0) [] := ⟨[], rfl, World.ownsRow_nil _ _ _ _, by simp, fun i u x hu => by simp at hu⟩
theorem grown_low {W W' : World} {B n size b : Nat} {e : TypeId} {v : Value} {xs : List Value} (h : W.ownsRow B e size v n xs) (hg : W.grownBy W' v.ownBlock) (hb : b < B) (hs : b < W.heap.size) : W'.heap[b]? = W.heap[b]? :=
  hg.block b hs (fun e => by have := (h.lt b e.symm).1; omega)
theorem vals_le (d : Int) : ∀ k, (valsTo d k).length ≤ k
  | 0 => by simp [valsTo]
  | k + 1 => by have := vals_le d k; rw [valsTo, List.length_append]; split <;> simp <;> omega
theorem flat_le6 {α : Type} (f : α → List (List Int)) (b : Nat) : ∀ l : List α, (∀ x ∈ l, (f x).length ≤ b) → (l.flatMap f).length ≤ l.length * b
  | [], _ => by simp
  | x :: l, h => by
    have h1 := h x (by simp)
    have h2 := flat_le6 f b l fun y hy => h y (by simp [hy])
    rw [List.flatMap_cons, List.length_append, List.length_cons, Nat.succ_mul]; omega
theorem allT_le : ∀ ds : List Int, (allT ds).length ≤ 6 ^ ds.length
  | [] => by simp [allT]
  | d :: ds => by
    have h := flat_le6 (fun v => (allT ds).map (v :: ·)) (6 ^ ds.length) (valsTo d 6) fun v _ => by rw [List.length_map]; exact allT_le ds
    have hv := vals_le d 6
    rw [allT, List.length_cons, Nat.pow_succ]
    have := Nat.mul_le_mul_right (6 ^ ds.length) hv
    omega
theorem extT_le {ws t : List Int} {r : Nat} (h : ws.length = t.length + r) : (extT ws t).length ≤ 6 ^ r := by
  unfold extT
  rw [List.length_map]
  have := allT_le (ws.drop t.length)
  rwa [List.length_drop, show ws.length - t.length = r by omega] at this
theorem belK_le {ws t : List Int} {r : Nat} (h : ws.length = t.length + (r + 1)) (d : Int) (k : Nat) : (belK ws t d k).length ≤ k * 6 ^ r := by
  have := flat_le6 (fun u => extT ws (t ++ [u])) (6 ^ r) (valsTo d k) fun u _ => extT_le (by simp; omega)
  exact Nat.le_trans this (Nat.mul_le_mul_right _ (vals_le d k))
set_option maxHeartbeats 16000000 in
theorem stwalk (bE gx B m n cd : Nat) (c : Con) (va aa ra : Option Addr) (cv ca cr : Nat) (ds : List Int) (A : Option Addr) (w0 : World) (hc : ConR w0 w0.heap.size [.int .i64 c.kind, .slice va c.vars.length cv, .slice aa c.args.length ca, .int .i64 c.bound, .slice ra c.rows.length cr] c)
    (hd : IntR w0 w0.heap.size A n ds) (hdm : Doms ds) (hvc : vconF c n = true) (h4 : n ≤ 4) (hm : c.vars.length = m) (hg : w0.heap.size ≤ bE ∧ w0.heap.size ≤ gx ∧ bE < B ∧ gx < B) :
    ∀ (r : Nat) (t : List Int) (fs : List (List Int)) (vf : Value) (W : World), t.length + r = m → PreDs (wordF c.vars ds) t → Below w0.heap.size w0 W → B ≤ W.heap.size →
      TBlk 92 W bE #[.int .i64 c.kind, .slice va m cv, .slice aa c.args.length ca, .int .i64 c.bound, .slice ra c.rows.length cr, .slice A n cd, .slice (some ⟨gx, 0, none⟩) m m, vf] → Front m W gx t → FoundS W B vf fs → fs.length + 6 ^ r ≤ 5000 →
      Calls Try.prog 85 #[.pointer (some ⟨bE, 0, none⟩), .int .i64 t.length] W fun e W' => (∃ v, e = .returned v) ∧ Below w0.heap.size w0 W' ∧ W.heap.size ≤ W'.heap.size ∧ ∃ vf' : Value,
        TBlk 92 W' bE #[.int .i64 c.kind, .slice va m cv, .slice aa c.args.length ca, .int .i64 c.bound, .slice ra c.rows.length cr, .slice A n cd, .slice (some ⟨gx, 0, none⟩) m m, vf'] ∧ Front m W' gx t ∧ FoundS W' B vf' (fs ++ (extT (wordF c.vars ds) t).filter (satF c)) := by
  obtain ⟨i1, hi1, hy0, hy1, hy2⟩ := info_parts (P := Try.prog) (e := 22) (z := .slice none 0 0) (size := 1) (bytes := 24) (by kernel_rfl)
  obtain ⟨hv1, hv2, hv3⟩ := vcon_vars hvc h4
  have hvr : IntR w0 w0.heap.size va m c.vars := by
    obtain ⟨va', aa', ra', cv', ca', cr', e, g1, g2, g3, -⟩ := hc
    injection e with e1 e2
    injection e2 with e2 e3
    injection e2 with e2 e4 e5
    subst e2
    rw [hm] at g1
    exact g1
  intro r
  induction r with
  | zero =>
    intro t fs vf W htr hpre hb hBW hE hX hF hfl
    obtain rfl : t.length = m := by omega
    have hmem := hpre.mem (by rw [wordF_len]; omega)
    have hsat := (sat_tup hvc h4 hmem).1
    rw [extT_full (by rw [wordF_len]; omega)]
    have hcon := ConR.on hc hb
    have hint := hX.intR rfl (by omega)
    have c0 := hE.at_ 0 rfl
    have c1 := hE.at_ 1 rfl
    have c2 := hE.at_ 2 rfl
    have c3 := hE.at_ 3 rfl
    have c4 := hE.at_ 4 rfl
    have c6 := hE.at_ 6 rfl
    have hl4 : t.length ≤ 4 := by omega
    obtain ⟨m, hk⟩ : ∃ k, t.length = k := ⟨_, rfl⟩
    rw [hm, hk] at hcon
    rw [hk] at c1 c6 hint hE hX hl4 ⊢
    simp only [List.getElem_toArray, List.getElem_cons_zero, List.getElem_cons_succ] at c0 c1 c2 c3 c4 c6
    have HQ := Lib.hid (And.intro hsat (And.intro hcon (And.intro hint (And.intro hE (And.intro hX (And.intro hF hb))))))
    have HTL := Lib.hid hk
    have hm1 : 1 ≤ m := by omega
    clear hsat hcon hint hE hX hb hmem hpre htr hvr hc hd hdm hvc hk hm hF
    go_enter Try.func85, Try.ntmps85
    go_wp2_with fail
    go_still_tail 8, (by kernel_rfl)
    go_wp2_with fail
    obtain ⟨g1, g2, g3, g4, g5, g7, g6⟩ := HQ.out
    have hbd : Below W.heap.size W W.drew := below_drewN (Below.refl _ _) 1
    refine (ssatisfies _ c _ _ _ t W.drew (ConR.on g2 hbd) (IntR.on g3 hbd) g1).mono ?_
    rintro e W3 ⟨rfl, hb3⟩
    have hs3 := (bgo hbd hb3).size
    have HQ3 := Lib.hid (And.intro (bgo g6 (bgo hbd hb3)) (And.intro (g4.below_ (bgo hbd hb3) g4.lt) (And.intro (g5.on (bgo hbd hb3)) (g7.hi (Hi.of_below (bgo hbd hb3))))))
    clear g1 g2 g3 g4 g5 g6 g7 hbd hb3 HQ c0 c1 c2 c3 c4 c6
    cases hst : satF c t
    · have HST := Lib.hid (show [t].filter (satF c) = [] by simp [hst])
      clear hst
      go_wp2_with fail
      refine bodyPost_ret (results_none rfl _ _ _) rfl ?_
      obtain ⟨g1, g2, g3, g4⟩ := HQ3.out
      exact ⟨⟨_, rfl⟩, g1, hs3, _, g2, g3, by rw [HST.out, List.append_nil]; exact g4⟩
    · have HST := Lib.hid (show [t].filter (satF c) = [t] by simp [hst])
      clear hst
      obtain ⟨g1, g2, g3, us, k1, k2, k3, k4⟩ := HQ3.out
      have hint3 := Lib.hid (IntR.on (g3.intR HTL.out hl4) (below_drewN (Below.refl W3.heap.size W3) 1))
      have d6 : W3.drew.cell? ⟨bE, 6, none⟩ = some (.slice (some ⟨gx, 0, none⟩) m m) := g2.at_ 6 rfl
      have d7 : W3.drew.cell? ⟨bE, 7, none⟩ = some vf := g2.at_ 7 rfl
      have hbd3 : Below W3.heap.size W3 W3.drew := below_drewN (Below.refl _ _) 1
      have hK2 := Lib.hid k2
      have hK4 := Lib.hid k4
      have hG2 := Lib.hid g2
      have hG3 := Lib.hid g3
      have hbE3 : bE < W3.heap.size := g2.lt
      have hfl' : fs.length ≤ 5000 := by omega
      have HB3 : Hid (B ≤ W3.drew.heap.size) := Lib.hid (Nat.le_trans hBW (Nat.le_trans hs3 hbd3.size))
      clear g2 g3 k2 k4 HQ3
      go_wp2_with fail
      go_region_law (first
        | (refine step_append_any (by rfl) _ _ 23 (by rfl) B 22 i1 _ 1 24 Try.underlying23 hi1 hy0 hy1 hy2 rfl (by omega) vf fs.length us (by rfl) ho6.out (some ⟨W6.heap.size, 0, none⟩) 1 [.slice A6 t.length c6] (by exact ⟨_, rfl, .inr ⟨_, rfl, rfl, cell_one_new _ _ _⟩⟩) (by simp [Value.oneCell']) (by unfold maxLen; omega) (by omega) (by rw [size_alloc_]; omega) ?_
           intro v1 W7 hown hbw hgr _
           obtain ⟨A7, c7, rfl⟩ := (HoldR.of_own hown).form
           have T7 : TBlk 92 W7 bE _ := (grown_low ho6.out hgr hg.2.2.1 (by rw [size_alloc_]; omega)).trans T6.out
           have e7 := T7.at_ 7 rfl
           have f7 := T7.frozen 7)
        | (go_simp
           go_at_call 116
           refine (scopyRF _ _ _ t _ hint3.out (by omega) (by omega)).mono ?_
           rintro e W6 ⟨v6, rfl, o6, hb6⟩
           obtain ⟨A6, c6, rfl, -⟩ := o6.read
           have bA := b_alloc W6 (.cells #[.slice A6 t.length c6] 22)
           have b36 := bgo hbd3 hb6
           have T6 := Lib.hid ((hG2.out.below_ b36 hbE3).alloc_ (.cells #[.slice A6 t.length c6] 22))
           have ho6 := Lib.hid (own_below (own_below hK2.out b36) bA)
           have d7b := fun o => ((hG2.out.below_ b36 hbE3).alloc_ o).at_ 7 rfl
           have d7c := (hG2.out.below_ b36 hbE3).at_ 7 rfl
           have z6 := b36.size))
      all_goals
        have hza : (W6.alloc (.cells #[.slice A6 t.length c6] 22)).heap.size = W6.heap.size + 1 := size_alloc_ _ _
        have hz7 := hgr.size
        have hsn : FoundS W7 B (.slice A7 (fs.length + 1) c7) (fs ++ [t]) := OwnRows.snoc (by decide) k1 ho6.out (fun i u x hu hx => by
          have k := hK4.out i u x hu hx
          exact ⟨own_below (own_below k.1 b36) bA, k.2⟩) (show OwnI 3 _ B (.slice A6 t.length c6) t from ⟨own_base (own_below o6.1 bA) HB3.out, o6.2⟩) (by omega) hown hgr
        have hBF : Below w0.heap.size w0 W7 := ((g1.trans (b36.mono g1.size)).trans (bA.mono (by have := g1.size; omega))).trans (hbw.mono (by omega))
        have hXF : Front m W7 gx t := by
          obtain ⟨cs, q1, q2, q3⟩ := (hG3.out.on b36).on bA
          exact ⟨cs, q1, (grown_low ho6.out hgr hg.2.2.2 q2.lt).trans q2, q3⟩
        have HFIN := Lib.hid (And.intro (hsn.hi (Hi.set (g := bE) (j := 7) W7 (.slice A7 (fs.length + 1) c7) hg.2.2.1)) (And.intro (hBF.setCell (p := ⟨bE, 7, none⟩) hg.1 (.slice A7 (fs.length + 1) c7)) (And.intro (T7.store 7 (.slice A7 (fs.length + 1) c7)) (show Front m (W7.setCell ⟨bE, 7, none⟩ (.slice A7 (fs.length + 1) c7)) gx t by
          obtain ⟨cs, q1, q2, q3⟩ := hXF
          exact ⟨cs, q1, q2.far (fun e => (T7.ne q2 (by decide)) e.symm), q3⟩))))
        have hzs : (W7.setCell ⟨bE, 7, none⟩ (.slice A7 (fs.length + 1) c7)).heap.size = W7.heap.size := by simp [World.setCell]
        have hzf : W.heap.size ≤ W7.heap.size := by omega
        clear hsn hBF hXF T7 e7 f7 hown hbw hgr d6 d7 b36 bA T6 ho6 o6 d7b d7c hb6
        go_wp2_with fail
        refine bodyPost_ret (results_none rfl _ _ _) rfl ?_
        obtain ⟨q1, q2, q3, q4⟩ := HFIN.out
        exact ⟨⟨_, rfl⟩, q2, by rw [hzs]; exact hzf, _, q3, q4, by rw [HST.out]; exact q1⟩
  | succ r ih =>
    intro t fs vf W htr hpre hb hBW hE hX hF hfl
    obtain ⟨k, hk⟩ : ∃ k, t.length = k := ⟨_, rfl⟩
    have hkm : k < m := by omega
    have hkm' : ((k : Int) == (m : Int)) = false := by simp; omega
    obtain ⟨vb, vo, v, hva, hvb, hvk, hvc2⟩ := hvr.at_ hkm
    obtain ⟨hv0, hvn⟩ := hv2 v (List.mem_of_getElem? hvk)
    obtain ⟨vn, rfl⟩ : ∃ vn : Nat, v = (vn : Int) := ⟨v.toNat, by omega⟩
    obtain ⟨ab, ao, d, hA, hab, hdk, hdc⟩ := hd.at_ (k := vn) (by omega)
    subst hva hA
    have hws : (wordF c.vars ds)[t.length]? = some d := word_mem (by rw [hk]; exact hvk) (by rw [Int.toNat_natCast]; exact hdk)
    have hd63 := hdm d (List.mem_of_getElem? hdk)
    have hwl : (wordF c.vars ds).length = t.length + (r + 1) := by rw [wordF_len]; omega
    have HBL := Lib.hid (fun q => belK_le hwl d q)
    have HWS := Lib.hid hws
    have HPRE := Lib.hid hpre
    have HK := Lib.hid hk
    have HTR := Lib.hid htr
    have HHV := Lib.hid (show vn < n from by omega)
    have hE1 := hE.at_ 1 rfl
    have hE6 := hE.at_ 6 rfl
    simp only [List.getElem_toArray, List.getElem_cons_zero, List.getElem_cons_succ] at hE1 hE6
    have HB := Lib.hid hb
    have HE := Lib.hid hE
    have HX := Lib.hid hX
    have HS := Lib.hid hF
    have HFL := Lib.hid hfl
    have hvn2 : vn < n := by omega
    have hm4 : m ≤ 4 := by omega
    have hw0s := hb.size
    rw [hk]
    clear hws hpre hk htr hvk hdk hvr hc hd hdm hvc hv1 hv2 hv3 hb hE hX hv0 hvn hF hwl hfl
    go_enter Try.func85, Try.ntmps85
    go_wp2_with fail
    clear hE1 hE6
    go_loopw [4] (fun t4 wr => ∃ (q : Nat) (vf : Value), q ≤ 6 ∧ t4 = .int .i64 q ∧ Hid (FoundS wr B vf (fs ++ (belK (wordF c.vars ds) t d q).filter (satF c))) ∧ Hid (Below w0.heap.size w0 wr) ∧ Hid (W.heap.size ≤ wr.heap.size) ∧ Hid (TBlk 92 wr bE #[.int .i64 c.kind, .slice (some ⟨vb, vo, none⟩) m cv, .slice aa c.args.length ca, .int .i64 c.bound, .slice ra c.rows.length cr, .slice (some ⟨ab, ao, none⟩) n cd, .slice (some ⟨gx, 0, none⟩) m m, vf]) ∧ Hid (Front m wr gx t)) (fun t4 _ => 6 - (intOf t4).toNat)
    case atStart => exact ⟨0, vf, by omega, rfl, Lib.hid (by rw [belK_zero]; simpa using HS.out), HB.out, Lib.hid (Nat.le_refl _), HE.out, HX.out⟩
    case round =>
      obtain ⟨q, vq, hq, rfl, hall, hbq, hzq, hEq, hXq⟩ := hrel
      clear HB HE HX HS
      by_cases hlt : q < 6
      · have e1 := hEq.out.at_ 1 rfl
        have e5 := hEq.out.at_ 5 rfl
        have e6 := hEq.out.at_ 6 rfl
        simp only [List.getElem_toArray, List.getElem_cons_zero, List.getElem_cons_succ] at e1 e5 e6
        have ev : wr.cell? ⟨vb, vo + k, none⟩ = some (.int .i64 vn) := (hbq.out.cell (p := ⟨vb, _, none⟩) hvb).trans hvc2
        have ed : wr.cell? ⟨ab, ao + vn, none⟩ = some (.int .i64 d) := (hbq.out.cell (p := ⟨ab, _, none⟩) hab).trans hdc
        have hdh : dhB d q = hasB d q := by unfold dhB; rw [inB_mk ⟨by omega, by omega⟩]; rfl
        cases hh : hasB d q
        · have HH := Lib.hid hh
          rw [hh] at hdh
          clear hh
          go_wp2_with fail
          go_still_tail 15, (by kernel_rfl)
          go_wp2_with fail
          refine (sdomainHas _ _ hd63.1 _).mono ?_
          rw [hdh]
          rintro e W3 ⟨rfl, rfl⟩
          have hbd : Below wr.heap.size wr wr.drew := below_drewN (Below.refl _ _) 1
          have HN := Lib.hid (And.intro (hbq.out.trans (hbd.mono hbq.out.size)) (And.intro (hEq.out.below_ hbd hEq.out.lt) (And.intro (hXq.out.on hbd) (hall.out.hi (Hi.of_below hbd)))))
          clear hbd
          go_wp2_with fail
          go_roundw
          case rel => exact ⟨q + 1, vq, by omega, by go_num, Lib.hid (by rw [belK_no HH.out]; exact HN.out.2.2.2), HN.out.1, hzq, HN.out.2.1, HN.out.2.2.1⟩
          case measure => simp [intOf]; omega
        · have HH := Lib.hid hh
          rw [hh] at hdh
          clear hh
          go_wp2_with fail
          go_still_tail 15, (by kernel_rfl)
          go_wp2_with fail
          refine (sdomainHas _ _ hd63.1 _).mono ?_
          rw [hdh]
          rintro e W3 ⟨rfl, rfl⟩
          have hbd : Below wr.heap.size wr wr.drew := below_drewN (Below.refl _ _) 1
          have hb3 := hbq.out.trans (hbd.mono hbq.out.size)
          have hE3 := hEq.out.below_ hbd hEq.out.lt
          have hX3 := hXq.out.on hbd
          have hF3 := (hall.out.hi (Hi.of_below hbd)).hi (Hi.set (j := k) wr.drew (.int .i64 q) hg.2.2.2)
          have hgE : gx ≠ bE := by
            obtain ⟨cs, _, h2, _⟩ := hX3
            exact h2.ne hE3 (by decide)
          obtain ⟨u0, hu0⟩ := hX3.cell hkm
          have hf0 := hX3.frozen k
          have hX4 := hX3.push (by have := HK.out; omega) q
          rw [HK.out] at hX4
          have hE4 := hE3.far (j := k) (u := .int .i64 q) hgE.symm
          have hb4 := hb3.setCell (p := ⟨gx, k, none⟩) hg.2.1 (.int .i64 q)
          have hzz : (wr.drew.setCell ⟨gx, k, none⟩ (.int .i64 q)).heap.size = wr.heap.size := by simp [World.setCell]
          have hln : (fs ++ (belK (wordF c.vars ds) t d q).filter (satF c)).length + 6 ^ r ≤ 5000 := by
            have h1 := List.length_filter_le (satF c) (belK (wordF c.vars ds) t d q)
            have h2 := HBL.out q
            have h3 := HFL.out
            have h4 : q * 6 ^ r ≤ 5 * 6 ^ r := Nat.mul_le_mul_right _ (by omega)
            rw [List.length_append]
            rw [Nat.pow_succ] at h3
            omega
          have hI := ih (t ++ [(q : Int)]) (fs ++ (belK (wordF c.vars ds) t d q).filter (satF c)) vq _ (by rw [List.length_append, List.length_singleton]; have := HTR.out; omega) (HPRE.out.push HWS.out (valsTo_has (by omega) (by omega) HH.out)) hb4 (by rw [hzz]; have := hzq.out; omega) hE4 hX4 hF3 hln
          rw [hzz] at hI
          have hlen : (((t ++ [(q : Int)]).length : Nat) : Int) = (k : Int) + 1 := by rw [List.length_append, List.length_singleton, HK.out]; omega
          rw [hlen] at hI
          have HI := Lib.hid hI
          have E6 := hE3.at_ 6 rfl
          simp only [List.getElem_toArray, List.getElem_cons_zero, List.getElem_cons_succ] at E6
          clear hbd hb3 hE3 hX3 hF3 hX4 hE4 hb4 hI hlen ih e1 e5 e6 ev ed hzz hln
          go_wp2_with fail
          refine HI.out.mono ?_
          rintro e W5 ⟨⟨v5, rfl⟩, hb5, hz5, vq5, hE5, hX5, hF5⟩
          have HN := Lib.hid (And.intro hb5 (And.intro hE5 (And.intro hX5.pop hF5)))
          have HZ5 : Hid (W.heap.size ≤ W5.heap.size) := Lib.hid (Nat.le_trans hzq.out hz5)
          clear hb5 hE5 hX5 HI E6 hu0 hf0 hF5 hz5
          go_wp2_with fail
          go_roundw
          case rel => exact ⟨q + 1, vq5, by omega, by go_num, Lib.hid (by rw [belK_yes HH.out, List.filter_append, ← List.append_assoc]; exact HN.out.2.2.2), HN.out.1, HZ5, HN.out.2.1, HN.out.2.2.1⟩
          case measure => simp [intOf]; omega
      · obtain rfl : q = 6 := by omega
        go_wp2_with fail
        refine bodyPost_end (results_none rfl _ _ _) rfl ?_
        have := hall.out
        rw [belK_six HWS.out] at this
        exact ⟨⟨_, rfl⟩, hbq.out, hzq.out, vq, hEq.out, hXq.out, this⟩
end Go.Proofs.Ytfmdgdamelkelaa
/- What BuildDiagram gives. No program in sight. -/
namespace Go.Proofs.Ytfmdgdamelkelaa
set_option linter.unusedVariables false
set_option maxRecDepth 100000

theorem cmp_ok {sat : List Int → Bool} {ws : List Int} : ∀ (r : Nat) (x : List Int), x.length + r = ws.length → (cmpF sat ws x).Nodup ∧ ∀ t ∈ cmpF sat ws x, t.length = r ∧ ∀ v ∈ t, (0 : Int) ≤ v ∧ v ≤ 5
  | 0, x, h => by
    rw [cmp_full (by omega)]
    split <;> simp
  | r + 1, x, h => by
    have hx : x.length < ws.length := by omega
    rw [cmp_step (List.getElem?_eq_getElem hx)]
    have ih := fun v : Nat => cmp_ok (sat := sat) (ws := ws) r (x ++ [(v : Int)]) (by simp; omega)
    refine ⟨flatV_nodup fun v hv => ?_, fun t ht => ?_⟩
    · show (if _ then _ else _ : List (List Int)).Nodup
      split
      · exact (ih v).1
      · exact List.nodup_nil
    · obtain ⟨v, s, hv, hs, rfl⟩ := flatV_mem.1 ht
      have hs' : s ∈ cmpF sat ws (x ++ [(v : Int)]) := by
        have := hs
        split at this
        · exact this
        · simp at this
      obtain ⟨h1, h2⟩ := (ih v).2 s hs'
      refine ⟨by simp [h1], fun u hu => ?_⟩
      rcases List.mem_cons.1 hu with rfl | hu
      · omega
      · exact h2 u hu
/-- all tuples that satisfy. -/
def allF (c : Con) (ds : List Int) : List (List Int) := cmpF (satF c) (wordF c.vars ds) []
theorem allF_eq (c : Con) (ds : List Int) : (allT (wordF c.vars ds)).filter (satF c) = allF c ds := by
  unfold allF cmpF
  simp
theorem allF_len (c : Con) (ds : List Int) (h : c.vars.length ≤ 4) : (allF c ds).length ≤ 5000 := by
  rw [← allF_eq]
  refine Nat.le_trans (List.length_filter_le _ _) (Nat.le_trans (allT_le _) ?_)
  rw [wordF_len]
  have : c.vars.length = 0 ∨ c.vars.length = 1 ∨ c.vars.length = 2 ∨ c.vars.length = 3 ∨ c.vars.length = 4 := by omega
  rcases this with h | h | h | h | h <;> rw [h] <;> decide
theorem allF_lay {c : Con} {ds : List Int} (h4 : c.vars.length ≤ 4) (h : allF c ds ≠ []) : Lay c.vars.length [allF c ds] := by
  have hk := cmp_ok (sat := satF c) (ws := wordF c.vars ds) c.vars.length [] (by rw [wordF_len]; simp)
  refine ⟨by simp, by simp, fun L hL => ?_⟩
  rw [List.mem_singleton.1 hL]
  exact ⟨h, hk.1, Nat.le_trans (allF_len c ds h4) (by omega), hk.2⟩
def bdgF (c : Con) (ds : List Int) : List (List (List Int)) := if dokF ds && vconF c ds.length then (if allF c ds = [] then [] else bdL c.vars.length [allF c ds]) else []
theorem bd_take (m : Nat) (lay : List (List (List Int))) {i : Nat} (h : i < m) : (bdL m lay).take (i + 1) = (bdL m lay).take i ++ [(layN lay i).map (rowG chS (layN lay (i + 1)))] := by
  rw [List.take_add_one, bd_at m lay i h]; rfl
theorem lay_bounds {m : Nat} (h4 : m ≤ 4) {all : List (List Int)} (h : Lay m [all]) {i : Nat} (hi : i < m) : (layN [all] i).length ≤ 5000 ∧ ∀ L ∈ layN [all] i, L.length ≤ 100000 ∧ ∀ t ∈ L, t ≠ [] := by
  have hk := Lay.at_ (lay := [all]) (f := m - i) (i := i) (by rwa [Nat.sub_add_cancel (by omega)])
  refine ⟨Nat.le_trans (layN_len [all] (by simp) i) ?_, fun L hL => ?_⟩
  · have : i = 0 ∨ i = 1 ∨ i = 2 ∨ i = 3 := by omega
    rcases this with rfl | rfl | rfl | rfl <;> decide
  · obtain ⟨-, -, h3, h5⟩ := hk.ok L hL
    refine ⟨h3, fun t ht e => ?_⟩
    have := (h5 t ht).1
    rw [e] at this
    simp at this
    omega
end Go.Proofs.Ytfmdgdamelkelaa
/- spec's tuples: the list of all tuples that satisfy. -/
namespace Go.Proofs.Ytfmdgdamelkelaa
open Go.ChangeShapes Go.WideShapes Go.ChangeAt Go.RowKit
open Go.Shelf
set_option linter.unusedVariables false
set_option maxRecDepth 100000
attribute [local go_sem] Oper.semAt_some

/-- the load of a whole constraint (it also makes the loads' match equations known to this text). -/
theorem ld_con (ρ : Operand → Value) (k b : Nat) (dst) (ty pos aft) (w : World) (x0 x1 x2 x3 x4 : Value) (hk : ρ (Operand.tmp k) = Value.pointer (some ⟨b, 0, none⟩))
    (h0 : w.cell? ⟨b, 0, none⟩ = some x0) (h1 : w.cell? ⟨b, 1, none⟩ = some x1) (h2 : w.cell? ⟨b, 2, none⟩ = some x2) (h3 : w.cell? ⟨b, 3, none⟩ = some x3) (h4 : w.cell? ⟨b, 4, none⟩ = some x4) :
    Sem.run Try.prog (execOp ρ { dst := dst, op := .load 29 (.tmp k), type := ty, pos := pos, after := aft, guard := none }) w = Result.ok (Next.value (Value.agg #[x0, x1, x2, x3, x4])) w := by
  go_simp
theorem six_le {m : Nat} (h : m ≤ 4) : 6 ^ m ≤ 5000 := by
  have : m = 0 ∨ m = 1 ∨ m = 2 ∨ m = 3 ∨ m = 4 := by omega
  rcases this with rfl | rfl | rfl | rfl | rfl <;> decide
theorem FoundS.base {W : World} {B C : Nat} {v : Value} {fs : List (List Int)} (h : FoundS W B v fs) (k : C ≤ B) : FoundS W C v fs := by
  obtain ⟨us, h1, h2, h3, h4⟩ := h
  exact ⟨us, h1, own_base h2 k, h3, fun i u x hu hx => ⟨own_base (h4 i u x hu hx).1 k, (h4 i u x hu hx).2⟩⟩
theorem FoundS.below_ {W W' : World} {B : Nat} {v : Value} {fs : List (List Int)} (h : FoundS W B v fs) (k : Below W.heap.size W W') : FoundS W' B v fs := h.hi (Hi.of_below k)
set_option maxHeartbeats 8000000 in
theorem stuples (us : List Value) (c : Con) (A : Option Addr) (n d : Nat) (ds : List Int) (w : World) (h : ConR w w.heap.size us c) (hx : IntR w w.heap.size A n ds) (hdm : Doms ds) (hvc : vconF c n = true) (hl4 : n ≤ 4) :
    Calls Try.prog 47 #[.agg us.toArray, .slice A n d] w fun e w' => ∃ v, e = .returned v ∧ FoundS w' w.heap.size v ((allT (wordF c.vars ds)).filter (satF c)) ∧ Below w.heap.size w w' := by
  obtain ⟨i0, hi0, hz0, hz1, hz2⟩ := info_parts info_int
  obtain ⟨va, aa, ra, cv, ca, cr, rfl, -⟩ := id h
  obtain ⟨wa, hwa⟩ : ∃ wa, wa = w.alloc (.cells #[.int .i64 c.kind, .slice va c.vars.length cv, .slice aa c.args.length ca, .int .i64 c.bound, .slice ra c.rows.length cr] 29) := ⟨_, rfl⟩
  have hb0 : Below w.heap.size w wa := by rw [hwa]; exact b_alloc _ _
  have ha : CBlk wa w.heap.size (.int .i64 c.kind) (.slice va c.vars.length cv) (.slice aa c.args.length ca) (.int .i64 c.bound) (.slice ra c.rows.length cr) := by rw [hwa]; exact CBlk.new w _ _ _ _ _
  have HC0 := Lib.hid (ConR.on h hb0)
  have HX0 := Lib.hid (IntR.on hx hb0)
  have HB0 := Lib.hid hb0
  have HDM := Lib.hid hdm
  have HV := Lib.hid hvc
  have hsw : w.heap.size < wa.heap.size := ha.lt
  obtain ⟨d0, d1, d2, d3, d4⟩ := ha.cells
  have hvp := vcon_vars hvc hl4
  obtain ⟨m, hm⟩ : ∃ m, c.vars.length = m := ⟨_, rfl⟩
  have hm4 : m ≤ 4 := by have := hvp.1; omega
  obtain ⟨Z, hZ, hmk⟩ := make_blk1 (P := Try.prog) 22 3 i0 _ Try.underlying22 hi0 hz0 hz1 rfl m (by rw [hz2]; omega) (by unfold maxLen; omega)
  have HZ := Lib.hid hZ
  have HM := Lib.hid hm
  rw [hm] at d1
  clear ha h hx hZ hdm hvc hvp hb0 hm
  go_enter Try.func47, Try.ntmps47
  go_wp2_with fail
  rw [← hwa]
  clear hwa
  have hSk : ∀ w', Below wa.heap.size wa w' → w'.cell? ⟨w.heap.size, 0, none⟩ = some (.int .i64 c.kind) ∧ w'.cell? ⟨w.heap.size, 1, none⟩ = some (.slice va m cv) ∧ w'.cell? ⟨w.heap.size, 2, none⟩ = some (.slice aa c.args.length ca) ∧ w'.cell? ⟨w.heap.size, 3, none⟩ = some (.int .i64 c.bound) ∧ w'.cell? ⟨w.heap.size, 4, none⟩ = some (.slice ra c.rows.length cr) :=
    fun w' hb => ⟨(hb.cell (p := ⟨_, _, none⟩) hsw).trans d0, (hb.cell (p := ⟨_, _, none⟩) hsw).trans d1, (hb.cell (p := ⟨_, _, none⟩) hsw).trans d2, (hb.cell (p := ⟨_, _, none⟩) hsw).trans d3, (hb.cell (p := ⟨_, _, none⟩) hsw).trans d4⟩
  refine wp_region_held_drew (S := fun w' => w'.cell? ⟨w.heap.size, 0, none⟩ = some (.int .i64 c.kind) ∧ w'.cell? ⟨w.heap.size, 1, none⟩ = some (.slice va m cv) ∧ w'.cell? ⟨w.heap.size, 2, none⟩ = some (.slice aa c.args.length ca) ∧ w'.cell? ⟨w.heap.size, 3, none⟩ = some (.int .i64 c.bound) ∧ w'.cell? ⟨w.heap.size, 4, none⟩ = some (.slice ra c.rows.length cr)) (by kernel_rfl) (hSk _ (below_drewN (Below.refl _ _) 1)) (fun hHeld => ?_)
  refine wpAnyH_take (i := 0) (oi := { dst := _, op := _, type := _, pos := _, after := _, guard := _ }) (v := ?v0) rfl (by kernel_rfl) (by kernel_rfl) (by kernel_rfl) (fun _ _ _ h => h) (Or.inl ⟨by rfl, ?y0⟩) hHeld ?r0
  case y0 => (intro w hSw; (try dsimp only at hSw); go_simp; try with_reducible rfl)
  try simp only [Act.put, List.setIfInBounds_toArray, List.set_cons_zero, List.set_cons_succ]
  refine wpAnyH_take (i := 1) (oi := { dst := _, op := _, type := _, pos := _, after := _, guard := _ }) (v := ?v1) rfl (by kernel_rfl) (by kernel_rfl) (by kernel_rfl) (fun _ _ _ h => h) (Or.inl ⟨by rfl, ?y1⟩) hHeld ?r1
  case y1 => (intro w hSw; (try dsimp only at hSw); go_simp; try with_reducible rfl)
  try simp only [Act.put, List.setIfInBounds_toArray, List.set_cons_zero, List.set_cons_succ]
  refine wpAnyH_take (i := 2) (oi := { dst := _, op := _, type := _, pos := _, after := _, guard := _ }) (v := ?v2) rfl (by kernel_rfl) (by kernel_rfl) (by kernel_rfl) (fun _ _ _ h => h) (Or.inl ⟨by rfl, ?y2⟩) hHeld ?r2
  case y2 => (intro w hSw; (try dsimp only at hSw); go_simp; try with_reducible rfl)
  try simp only [Act.put, List.setIfInBounds_toArray, List.set_cons_zero, List.set_cons_succ]
  refine wpAnyH_take (i := 3) (oi := { dst := _, op := _, type := _, pos := _, after := _, guard := _ }) (v := ?v3) rfl (by kernel_rfl) (by kernel_rfl) (by kernel_rfl) (fun _ _ _ h => h) (Or.inl ⟨by rfl, ?y3⟩) hHeld ?r3
  case y3 => (intro w hSw; (try dsimp only at hSw); go_simp; try with_reducible rfl)
  try simp only [Act.put, List.setIfInBounds_toArray, List.set_cons_zero, List.set_cons_succ]
  refine wpAnyH_take (i := 4) (oi := { dst := _, op := _, type := _, pos := _, after := _, guard := _ }) (v := ?v4) rfl (by kernel_rfl) (by kernel_rfl) (by kernel_rfl) (fun _ _ _ h => h) (Or.inl ⟨by rfl, ?y4⟩) hHeld ?r4
  case y4 => (intro w hSw; (try dsimp only at hSw); go_simp; try with_reducible rfl)
  try simp only [Act.put, List.setIfInBounds_toArray, List.set_cons_zero, List.set_cons_succ]
  refine wpAnyH_ready (rs := [5]) (by kernel_rfl) (by simp) ?_
  refine AllReadyH.cons (o := { dst := _, op := _, type := _, pos := _, after := _, guard := _ }) rfl (fun K hK => ?_) AllReadyH.nil
  go_simp
  refine hK.out _ _ ?_ (fun hHeld => ?_)
  · exact hSk _ (below_drewN (b_alloc _ _) 1)
  clear hK K
  try simp only [Act.put, List.setIfInBounds_toArray, List.set_cons_zero, List.set_cons_succ]
  refine wpAnyH_take (i := 6) (oi := { dst := _, op := _, type := _, pos := _, after := _, guard := _ }) (v := ?v6) rfl (by kernel_rfl) (by kernel_rfl) (by kernel_rfl) (fun _ _ _ h => h) (Or.inl ⟨by rfl, ?y6⟩) hHeld ?r6
  case y6 => (intro w hSw; (try dsimp only at hSw); go_simp; try with_reducible rfl)
  try simp only [Act.put, List.setIfInBounds_toArray, List.set_cons_zero, List.set_cons_succ]
  refine wpAnyH_ready (rs := [7]) (by kernel_rfl) (by simp) ?_
  refine AllReadyH.cons (o := { dst := _, op := _, type := _, pos := _, after := _, guard := _ }) rfl (fun K hK => ?_) AllReadyH.nil
  go_simp
  refine hK.out _ _ ?_ (fun hHeld => ?_)
  · exact hSk _ (below_drewN ((b_alloc _ _).alloc (by simp) _) 1)
  clear hK K
  try simp only [Act.put, List.setIfInBounds_toArray, List.set_cons_zero, List.set_cons_succ]
  refine wpAnyH_take (i := 8) (oi := { dst := _, op := _, type := _, pos := _, after := _, guard := _ }) (v := ?v8) rfl (by kernel_rfl) (by kernel_rfl) (by kernel_rfl) (fun _ _ _ h => h) (Or.inl ⟨by rfl, ?y8⟩) hHeld ?r8
  case y8 => (intro w hSw; (try dsimp only at hSw); go_simp; try with_reducible rfl)
  try simp only [Act.put, List.setIfInBounds_toArray, List.set_cons_zero, List.set_cons_succ]
  refine wpAnyH_done (by kernel_rfl) ?_ _
  go_wp2_with fail
  have hZs : Z.size = m := by rw [← Array.length_toList, HZ.out, List.length_replicate]
  have hI := stwalk (wa.heap.size + 1) wa.heap.size (wa.heap.size + 2) m n d c va aa ra cv ca cr ds A wa HC0.out HX0.out HDM.out HV.out hl4 HM.out ⟨by omega, Nat.le_refl _, by omega, by omega⟩ m [] [] (.slice none 0 0) _ (by simp) (fun j d v _ hv => by simp at hv)
    (below_drewN ((b_alloc wa (.cells Z 3)).alloc (by simp) (.cells #[.int .i64 c.kind, .slice va m cv, .slice aa c.args.length ca, .int .i64 c.bound, .slice ra c.rows.length cr, .slice A n d, .slice (some ⟨wa.heap.size, 0, none⟩) m m, .slice none 0 0] 92)) 1)
    (by simp [World.drewN])
    ((TBlk.newAt (by simp)).drewN_ 1) ⟨Z, hZs, ((TBlk.newAt rfl).alloc_ _).drewN_ 1, fun j x hj => by simp at hj⟩ (FoundS.nil _ _) (by rw [List.length_nil, Nat.zero_add]; exact six_le hm4)
  have HI := Lib.hid hI
  clear hI hHeld hSk hmk d0 d1 d2 d3 d4 hZs
  refine HI.out.mono ?_
  rintro e w5 ⟨⟨v5, rfl⟩, hb5, hz5, vf, hE5, -, hF5⟩
  have e7 := hE5.at_ 7 rfl
  simp only [List.getElem_toArray, List.getElem_cons_zero, List.getElem_cons_succ] at e7
  have HR := Lib.hid (And.intro (hF5.base (show w.heap.size ≤ wa.heap.size + 2 by omega)) (bgo HB0.out hb5))
  clear hb5 HI hE5 hF5 hz5
  go_wp2_with fail
  go_ret
  exact ⟨_, rfl, by have := HR.out.1; rwa [extT_nil, List.nil_append] at this, HR.out.2⟩
end Go.Proofs.Ytfmdgdamelkelaa
/- spec's BuildDiagram. -/
namespace Go.Proofs.Ytfmdgdamelkelaa
open Go.ChangeShapes Go.WideShapes Go.ChangeAt Go.RowKit
open Go.Shelf
set_option linter.unusedVariables false
set_option maxRecDepth 100000
attribute [local go_sem] Oper.semAt_some

/-- the list of all tuples, read. -/
theorem FoundS.rowK {W : World} {B : Nat} {v : Value} {fs : List (List Int)} (h : FoundS W B v fs) : RowC (RowK (fun b => B ≤ b ∧ b < W.heap.size)) W W.heap.size v fs := by
  obtain ⟨us, h1, h2, h3, h4⟩ := h
  have hk : ∀ (i : Nat) u x, us[i]? = some u → fs[i]? = some x → RowK (fun b => B ≤ b ∧ b < W.heap.size) W W.heap.size u x := fun i u x hu hx => by
    obtain ⟨ho, hl⟩ := h4 i u x hu hx
    obtain ⟨A, c, e, hr, -⟩ := IntR.of_own ho hl
    subst e
    refine ⟨A, c, rfl, ?_, hr, fun hn b o e => ?_⟩
    · rcases ho.2 with ⟨e, e2⟩ | ⟨g, cap, cur, e, -, -, hc, -⟩
      · omega
      · injection e with _ _ e3; omega
    · subst e
      exact own_lt ho rfl
  rcases h2.2 with ⟨rfl, h6⟩ | ⟨g, cap, cur, rfl, hg, hh, hcap, hmax, hsz, ht⟩
  · exact ⟨none, 0, by rw [h6], rfl, h3, fun hn => absurd hn (by omega)⟩
  · refine ⟨some ⟨g, 0, none⟩, cap, rfl, rfl, h3, fun hn => ⟨g, 0, rfl, (h2.lt g rfl).2, fun i x hx => ?_⟩⟩
    have hi : i < fs.length := (List.getElem?_eq_some_iff.1 hx).1
    refine ⟨us[i]'(by omega), ?_, hk i _ x (List.getElem?_eq_getElem (by omega)) hx⟩
    have := h2.cells rfl i (us[i]'(by omega)) (List.getElem?_eq_getElem (by omega))
    rw [add_own] at this
    rw [Nat.zero_add]; exact this
/-- what BuildDiagram gives: nothing, or own layers at blocks that differ. -/
def DgR (W : World) (lo : Nat) (v : Value) (d : List (List (List Int))) : Prop := ∃ gss : List (List Nat), DgAt W lo v d gss ∧ gss.flatten.Nodup
theorem DgR.nil (W : World) (lo : Nat) : DgR W lo (.slice none 0 0) [] := ⟨[], DgAt.nil (World.ownsRow_nil _ _ _ _), by simp⟩
theorem DgAt.base {W : World} {lo lo' : Nat} {v : Value} {d : List (List (List Int))} {gss : List (List Nat)} (h : DgAt W lo v d gss) (hl : lo' ≤ lo) : DgAt W lo' v d gss := by
  obtain ⟨a, us, b, c, e, f⟩ := h
  exact ⟨a, us, b, own_base c hl, e, fun i u es gs hu he hg => (f i u es gs hu he hg).base hl⟩
theorem lay_next : ∀ (i : Nat) (lay : List (List (List Int))), nextS (layN lay i) = layN lay (i + 1)
  | 0, lay => rfl
  | i + 1, lay => by
    rw [← layN_next lay i, ← layN_next lay (i + 1)]
    exact lay_next i (nextS lay)
theorem one_layer {P : Nat → Prop} {W : World} {A : Option Addr} {c : Nat} {all : List (List Int)} (h : SlR (RowK P) W W.heap.size A all.length all) :
    RowC (RowC (RowK P)) (W.alloc (.cells #[.slice A all.length c] 23)) (W.alloc (.cells #[.slice A all.length c] 23)).heap.size (.slice (some ⟨W.heap.size, 0, none⟩) 1 1) [all] := by
  have hb := b_alloc W (.cells #[.slice A all.length c] 23)
  refine ⟨some ⟨W.heap.size, 0, none⟩, 1, rfl, rfl, by simp, fun _ => ⟨_, 0, rfl, by rw [size_alloc_]; omega, fun k x hx => ?_⟩⟩
  match k, hx with
  | 0, hx =>
    simp at hx
    subst hx
    refine ⟨.slice A all.length c, ?_, A, c, rfl, (h.below RowK.keeps hb).more RowK.widens hb.size⟩
    have := cell_one_new W (.slice A all.length c) 23 0 _ rfl
    exact this
  | k + 1, hx => simp at hx
set_option maxHeartbeats 16000000 in
theorem sBuildDiagram (us : List Value) (c : Con) (A : Option Addr) (n d : Nat) (ds : List Int) (w : World) (h : ConR w w.heap.size us c) (hx : IntR w w.heap.size A n ds) :
    Calls Try.prog 10 #[.agg us.toArray, .slice A n d] w fun e w' => ∃ v, e = .returned v ∧ DgR w' w.heap.size v (bdgF c ds) ∧ Below w.heap.size w w' := by
  obtain ⟨i2, hi2, hx0, hx1, hx2⟩ := info_parts (P := Try.prog) (e := 23) (z := .slice none 0 0) (size := 1) (bytes := 24) (by kernel_rfl)
  have hl := Lib.hid hx.len
  obtain ⟨va, aa, ra, cv, ca, cr, rfl, -⟩ := id h
  obtain ⟨w1, hw1⟩ : ∃ w1, w1 = w.alloc (.cells #[.int .i64 c.kind, .slice va c.vars.length cv, .slice aa c.args.length ca, .int .i64 c.bound, .slice ra c.rows.length cr] 29) := ⟨_, rfl⟩
  have hb1 : Below w.heap.size w w1 := by rw [hw1]; exact b_alloc _ _
  have ha1 : CBlk w1 w.heap.size (.int .i64 c.kind) (.slice va c.vars.length cv) (.slice aa c.args.length ca) (.int .i64 c.bound) (.slice ra c.rows.length cr) := by rw [hw1]; exact CBlk.new w _ _ _ _ _
  obtain ⟨wa, hwa⟩ : ∃ wa, wa = w1.alloc (.cells #[] 23) := ⟨_, rfl⟩
  have hba : Below w1.heap.size w1 wa := by rw [hwa]; exact b_alloc _ _
  have ha : CBlk wa w.heap.size (.int .i64 c.kind) (.slice va c.vars.length cv) (.slice aa c.args.length ca) (.int .i64 c.bound) (.slice ra c.rows.length cr) := ha1.below hba ha1.lt
  have hb0 : Below w.heap.size w wa := bgo hb1 hba
  have HO : Hid (DgAt wa w1.heap.size (.slice (some ⟨w1.heap.size, 0, none⟩) 0 0) [] [] ∧ w1.heap.size < wa.heap.size) := Lib.hid ⟨DgAt.nil (by rw [hwa]; exact World.ownsRow_lit w1 #[] 0 (Nat.le_refl _) (by decide) rfl), by rw [hwa, size_alloc_]; omega⟩
  have HC1 := Lib.hid (ConR.on h hb0)
  have GX := Lib.hid (IntR.on hx hb0)
  have HC0 := Lib.hid h
  have HX0 := Lib.hid hx
  have HA := Lib.hid ha
  obtain ⟨a0, a1, a2, a3, a4⟩ := ha.cells
  have hsz1 : w1.heap.size = w.heap.size + 1 := by rw [hw1, size_alloc_]
  clear ha ha1 h hx hba
  go_enter Try.func10, Try.ntmps10
  go_wp2_with fail
  rw [← hw1, ← hwa]
  clear hw1 hwa
  rw [hsz1] at HO
  clear hsz1
  refine (svalidDomainsF _ _ _ _ _ GX.out).mono ?_
  rintro e w' ⟨rfl, rfl⟩
  cases t0 : dokF ds
  · have HE := Lib.hid (show bdgF c ds = [] by unfold bdgF; rw [t0]; rfl)
    clear t0
    go_wp2_with fail
    go_ret
    exact ⟨_, rfl, by rw [HE.out]; exact DgR.nil _ _, hb0⟩
  obtain ⟨hl1, hl4, hdoms⟩ := dok_parts t0
  have HDM := Lib.hid hdoms
  rw [hl.out] at hl1 hl4
  have HD := Lib.hid t0
  clear t0 hdoms
  go_wp2_with fail
  refine (svalidConstraint _ c _ _ HC1.out).mono ?_
  rintro e w2 ⟨rfl, hb2⟩
  have HA2 := Lib.hid (HA.out.below hb2 HA.out.lt)
  obtain ⟨d0, d1, d2, d3, d4⟩ := HA2.out.cells
  have HB2 := Lib.hid (bgo hb0 hb2)
  have HO2 := Lib.hid (And.intro (HO.out.1.below hb2) (Nat.lt_of_lt_of_le HO.out.2 hb2.size))
  have HC2 := Lib.hid (ConR.on HC1.out hb2)
  have HX2 := Lib.hid (IntR.on GX.out hb2)
  clear a0 a1 a2 a3 a4 hb2 HC1 GX HA hb0 HO
  cases t0 : vconF c (n : Int)
  · have HE := Lib.hid (show bdgF c ds = [] by unfold bdgF; rw [hl.out, t0]; simp)
    clear t0
    go_wp2_with fail
    go_ret
    exact ⟨_, rfl, by rw [HE.out]; exact DgR.nil _ _, HB2.out⟩
  have hvp := vcon_vars t0 hl4
  have hm4 : c.vars.length ≤ 4 := by omega
  have HE := Lib.hid (show bdgF c ds = (if allF c ds = [] then [] else bdL c.vars.length [allF c ds]) by unfold bdgF; rw [hl.out, t0, HD.out]; rfl)
  have hT := stuples _ c A n d ds w2 HC2.out HX2.out HDM.out t0 hl4
  rw [allF_eq] at hT
  have HT := Lib.hid hT
  clear hT t0 HC2 HX2 HDM hvp
  go_wp2_with fail
  refine HT.out.mono ?_
  rintro e w3 ⟨v, rfl, hF, hb3⟩
  have hFK := hF.rowK
  obtain ⟨A3, c3, rfl, hS⟩ := hFK
  have hz3 := hb3.size
  have HS := Lib.hid hS
  have HA3 := Lib.hid (HA2.out.below hb3 HA2.out.lt)
  have HB3 := Lib.hid (bgo HB2.out hb3)
  have HO3 := Lib.hid (And.intro (HO2.out.1.below hb3) HO2.out.2)
  clear hF hS HA2 HB2 HO2 HT hb3 d0 d1 d2 d3 d4
  by_cases hall : allF c ds = []
  · have HR := Lib.hid (show bdgF c ds = [] by rw [HE.out, if_pos hall])
    have hlen : ((((allF c ds).length : Nat) : Int) == 0) = true := by rw [hall]; rfl
    have hlen2 : (allF c ds).length = 0 := by rw [hall]; rfl
    clear hall
    go_wp2_with fail
    go_ret
    exact ⟨_, rfl, by rw [HR.out]; exact DgR.nil _ _, HB3.out⟩
  · have HR := Lib.hid (show bdgF c ds = bdL c.vars.length [allF c ds] by rw [HE.out, if_neg hall])
    have HLAY := Lib.hid (allF_lay hm4 hall)
    have hlen2 : 0 < (allF c ds).length := List.length_pos_iff.2 hall
    obtain ⟨all, hae⟩ : ∃ all, allF c ds = all := ⟨_, rfl⟩
    rw [hae] at HR HLAY hlen2 HS
    have hlen : (((all.length : Nat) : Int) == 0) = false := by have h : ((all.length : Nat) : Int) ≠ 0 := (by omega); simpa using h
    rw [hae]
    obtain ⟨m, hm⟩ : ∃ m, c.vars.length = m := ⟨_, rfl⟩
    rw [hm] at HR HLAY hm4 HA3
    have HL1 := Lib.hid (one_layer (c := c3) HS.out)
    clear hall hae HE HS hm
    go_wp2_with fail
    go_loopw [5, 7, 8] (fun t5 t7 t8 wr => ∃ (i : Nat) (ov lv : Value) (gss : List (List Nat)), i ≤ m ∧ t8 = .int .i64 i ∧ ov = t5 ∧ lv = t7 ∧ Hid (DgAt wr (w.heap.size + 1) ov ((bdL m [all]).take i) gss ∧ gss.flatten.Nodup ∧ ∀ b, ov.ownBlock = some b → ¬ (w2.heap.size ≤ b ∧ b < w3.heap.size)) ∧ Hid (RowC (RowC (RowK (fun b => w2.heap.size ≤ b ∧ b < w3.heap.size))) wr wr.heap.size lv (layN [all] i)) ∧ Hid (Below (w.heap.size + 1) w3 wr)) (fun _ _ t8 _ => m - (intOf t8).toNat)
    case atStart => exact ⟨0, _, _, [], by omega, rfl, rfl, rfl, Lib.hid ⟨HO3.out.1.below (b_alloc _ _), by simp, fun b hb => by
      injection hb with hb
      have hb' : w.heap.size + 1 = b := hb
      have := HO3.out.2
      omega⟩, HL1, Lib.hid ((b_alloc _ _).mono (by have := HO3.out.2; omega))⟩
    case round =>
      obtain ⟨i, ov, lv, gss, hi, rfl, rfl, rfl, hD, hLv, hB⟩ := hrel
      have hbx : wr.cell? ⟨w.heap.size, 1, none⟩ = some (.slice va m cv) := (hB.out.cell (p := ⟨w.heap.size, 1, none⟩) (by show w.heap.size < _; omega)).trans HA3.out.cells.2.1
      have hzr := hB.out.size
      by_cases hlt : i < m
      · obtain ⟨A5, c5, rfl, hS5⟩ := hLv.out
        have hlb := lay_bounds hm4 HLAY.out hlt
        have HC := Lib.hid (snextLayer A5 _ c5 (layN [all] i) wr hS5 hlb.2 hlb.1)
        clear hS5 hlb hLv
        go_wp2_with fail
        refine HC.out.mono ?_
        rintro e w5 ⟨ev, vn, gs, rfl, hR, hnd, hN, hb5⟩
        obtain ⟨h1, us, h2, h3, h4, h5⟩ := hD.out.1
        have hel : ((bdL m [all]).take i).length = i := by rw [List.length_take, bd_len]; omega
        rw [hel] at h3
        obtain ⟨Ae, ce, rfl⟩ : ∃ Ae ce, ev = .slice Ae (layN [all] i).length ce := by
          obtain ⟨-, rs, -, k3, -⟩ := hR
          have := (HoldR.of_own k3).form
          rwa [List.length_map] at this
        have HBK := Lib.hid (fun b hb => (And.intro (own_lt h3 hb).2 (hD.out.2.2 b hb)))
        have hz5 := hb5.size
        have hal : Below w5.heap.size w5 (w5.alloc (.cells #[.slice Ae (layN [all] i).length ce] 23)) := b_alloc _ _
        have hba := hb5.trans (hal.mono hz5)
        have HDP := Lib.hid (And.intro h1 (And.intro h2 (fun i u es gs hu he hg => ((h5 i u es gs hu he hg).below hb5).below hal)))
        have HRA := Lib.hid ((hR.below hal).base (show w.heap.size + 1 ≤ wr.heap.size by have := HO3.out.2; omega))
        have HNA := Lib.hid (hN.below hz5 hal)
        have ho := own_below (own_below h3 hb5) hal
        have HEL := Lib.hid hel
        have HND := Lib.hid (show (gss ++ [gs]).flatten.Nodup by
          rw [List.flatten_append, List.nodup_append]
          refine ⟨hD.out.2.1, by simpa using hnd, fun a ha b hb' e => ?_⟩
          have q1 := (hD.out.1.lt a ha).2
          have q2 := (hR.lt b (by simpa using hb')).1
          omega)
        have HBA := Lib.hid hba
        have hw3 : w.heap.size + 1 < w3.heap.size := by have := HO3.out.2; omega
        clear h1 h2 h3 h5 hel hR hN hnd hb5 hD HC hba hal
        go_wp2_with (at_builtin; refine wpList_append_blk rfl _ _ 27 rfl (w.heap.size + 1) 23 i2 _ 1 24 Try.underlying27 hi2 hx0 hx1 hx2 rfl (by decide) ov _ _ rfl ho ⟨w5.heap.size, 0, none⟩ 1 1 [.slice Ae (layN [all] i).length ce] rfl rfl (cell_one_new _ _ _) (by simp [Value.oneCell']) (by unfold maxLen; omega) (by omega) (by rw [size_alloc_]; omega) ?_; intro ov1 w6 hown hbw hgr hblk)
        have HB6 := Lib.hid (hB.out.trans ((HBA.out.mono (show w.heap.size + 1 ≤ wr.heap.size by omega)).trans hbw))
        have HD6 : Hid (DgAt w6 (w.heap.size + 1) ov1 ((bdL m [all]).take (i + 1)) (gss ++ [gs]) ∧ (gss ++ [gs]).flatten.Nodup ∧ ∀ b, ov1.ownBlock = some b → ¬ (w2.heap.size ≤ b ∧ b < w3.heap.size)) := Lib.hid ⟨by
          rw [bd_take m [all] hlt, ← lay_next i]
          exact DgAt.snoc HDP.out.1 HDP.out.2.1 (by rw [HEL.out]; exact ho) HDP.out.2.2 HRA.out (by rw [HEL.out]; omega) (by rw [HEL.out]; exact hown) hgr, HND.out, fun b hb => by
            rcases hblk with e | e
            · rw [e] at hb; exact (HBK.out b hb).2
            · rw [e] at hb
              injection hb with hb
              rw [size_alloc_] at hb
              omega⟩
        have HN6 : Hid (RowC (RowC (RowK (fun b => w2.heap.size ≤ b ∧ b < w3.heap.size))) w6 w6.heap.size vn (layN [all] (i + 1))) := Lib.hid (by
          have := (HNA.out.grownO ho hgr HBK.out (fun b hb => by rw [size_alloc_]; omega)).read
          rwa [lay_next] at this)
        clear hown hgr hblk hbw
        go_roundw
        case rel => exact ⟨i + 1, ov1, vn, gss ++ [gs], by omega, by go_num, rfl, rfl, HD6, HN6, HB6⟩
        case measure => simp [intOf]; omega
      · obtain rfl : i = m := by omega
        go_wp2_with fail
        go_ret
        refine ⟨_, rfl, ?_, HB3.out.trans (hB.out.mono (Nat.le_succ _))⟩
        rw [HR.out]
        have := hD.out.1
        rw [List.take_of_length_le (by rw [bd_len]; exact Nat.le_refl _)] at this
        exact ⟨gss, this.base (by omega), hD.out.2.1⟩
end Go.Proofs.Ytfmdgdamelkelaa
/- The shape of drawn diagrams, and one number stored into one. No program in sight. -/
namespace Go.Proofs.Ytfmdgdamelkelaa
open Go.ChangeShapes Go.WideShapes Go.ChangeAt Go.RowKit
open Go.Shelf
set_option linter.unusedVariables false
set_option maxRecDepth 100000

/-- at most 4 layers of nodes with 6 edges each. -/
def DgSh (d : List (List (List Int))) : Prop := d.length ≤ 4 ∧ ∀ es ∈ d, 1 ≤ es.length ∧ es.length ≤ 5000 ∧ ∀ x ∈ es, x.length = 6
theorem DgSh.nil : DgSh [] := ⟨by simp, by simp⟩
theorem bdg_sh (c : Con) (ds : List Int) : DgSh (bdgF c ds) := by
  unfold bdgF
  split
  · rename_i hok
    split
    · exact DgSh.nil
    · rename_i hall
      simp only [Bool.and_eq_true] at hok
      obtain ⟨-, hl4, -⟩ := dok_parts hok.1
      have hv := vcon_vars hok.2 hl4
      have h4 : c.vars.length ≤ 4 := by omega
      have hlay := allF_lay h4 hall
      refine ⟨by rw [bd_len]; exact h4, fun es hes => ?_⟩
      obtain ⟨i, hi, e⟩ := List.getElem_of_mem hes
      have hi2 : i < c.vars.length := by rwa [bd_len] at hi
      have hb := bd_at c.vars.length [allF c ds] i hi2
      rw [List.getElem?_eq_getElem hi, e] at hb
      injection hb with hb
      subst hb
      have hk := Lay.at_ (lay := [allF c ds]) (f := c.vars.length - i) (i := i) (by rwa [Nat.sub_add_cancel (by omega)])
      refine ⟨by rw [List.length_map]; exact List.length_pos_iff.2 hk.pos, by rw [List.length_map]; exact (lay_bounds h4 hlay hi2).1, fun x hx => ?_⟩
      obtain ⟨L, -, rfl⟩ := List.mem_map.1 hx
      exact row_len _ _
  · exact DgSh.nil
theorem list_of_ {α : Type} {P : Nat → α → Prop} : ∀ n : Nat, (∀ i, i < n → ∃ y, P i y) → ∃ l : List α, l.length = n ∧ ∀ (i : Nat) y, l[i]? = some y → P i y
  | 0, _ => ⟨[], rfl, fun i y h => by simp at h⟩
  | n + 1, h => by
    obtain ⟨l, hl, hq⟩ := list_of_ n fun i hi => h i (by omega)
    obtain ⟨y, hy⟩ := h n (by omega)
    refine ⟨l ++ [y], by simp [hl], fun i z hz => ?_⟩
    rcases Nat.lt_or_ge i n with hi | hi
    · rw [List.getElem?_append_left (by omega)] at hz
      exact hq i z hz
    · have hi2 : i = n := by
        have := (List.getElem?_eq_some_iff.1 hz).1
        simp [hl] at this
        omega
      subst hi2
      rw [List.getElem?_append_right (by omega), hl, Nat.sub_self] at hz
      simp at hz
      subst hz
      exact hy
/-- whatever number is stored into a block of numbers: what is owned stays owned, and as long. -/
theorem OwnI.any_ {w : World} {B gD j : Nat} {v : Value} {xs : List Int} {cs : Array Value} (x : Int) (hb : TBlk 3 w gD cs) (h : OwnI 3 w B v xs) : ∃ xs', OwnI 3 (w.setCell ⟨gD, j, none⟩ (.int .i64 x)) B v xs' ∧ xs'.length = xs.length := by
  obtain ⟨h1, h3⟩ := h
  obtain ⟨h1a, h2⟩ := id h1
  rcases h2 with ⟨rfl, h0⟩ | ⟨g, cap, cur, rfl, hg, hh, hcap, hmax, hsz, ht⟩
  · exact ⟨xs, ⟨⟨h1a, .inl ⟨rfl, h0⟩⟩, h3⟩, rfl⟩
  · by_cases e : g = gD
    · subst e
      refine ⟨xs.set j x, ⟨?_, by rw [List.length_set]; exact h3⟩, List.length_set⟩
      rw [List.length_set, List.map_set]
      exact (h1.stored j (.int .i64 x)).1
    · refine ⟨xs, ⟨⟨h1a, .inr ⟨g, cap, cur, rfl, hg, ?_, hcap, hmax, hsz, ht⟩⟩, h3⟩, rfl⟩
      rw [Below.heap_setCell _ _ _ _ (by exact e)]
      exact hh
theorem OwnOf.any_ {α : Type} {e1 : TypeId} (he : 3 ≠ e1) {In In' : World → Nat → Value → α → Prop} {R : α → α → Prop} {w : World} {B gD j : Nat} {v : Value} {xs : List α} {cs : Array Value} (x : Int) (hb : TBlk 3 w gD cs) (h : OwnOf e1 In w B v xs)
    (hI : ∀ u z, In w B u z → ∃ y, In (w.setCell ⟨gD, j, none⟩ (.int .i64 x)) B u y ∧ R z y) :
    ∃ xs', OwnOf e1 In (w.setCell ⟨gD, j, none⟩ (.int .i64 x)) B v xs' ∧ xs'.length = xs.length ∧ ∀ y ∈ xs', ∃ z ∈ xs, R z y := by
  obtain ⟨us, h1, h2, h3, h4⟩ := h
  obtain ⟨l, hl, hq⟩ := list_of_ xs.length (P := fun i (y : α) => ∀ u z, us[i]? = some u → xs[i]? = some z → In (w.setCell ⟨gD, j, none⟩ (.int .i64 x)) B u y ∧ R z y) (fun i hi => by
    obtain ⟨ys, a, b⟩ := hI _ _ (h4 i _ _ (List.getElem?_eq_getElem (by omega)) (List.getElem?_eq_getElem hi))
    refine ⟨ys, fun u z hu hz => ?_⟩
    rw [List.getElem?_eq_getElem (by omega)] at hu
    rw [List.getElem?_eq_getElem hi] at hz
    injection hu with hu
    injection hz with hz
    subst hu hz
    exact ⟨a, b⟩)
  refine ⟨l, ⟨us, by omega, by rw [hl]; exact own_shun he j _ hb h2, by omega, fun i u y hu hy => ?_⟩, hl, fun y hy => ?_⟩
  · have hi : i < xs.length := by
      rw [← hl]; exact (List.getElem?_eq_some_iff.1 hy).1
    exact (hq i y hy u _ hu (List.getElem?_eq_getElem hi)).1
  · obtain ⟨i, hi, e⟩ := List.getElem_of_mem hy
    have hi2 : i < xs.length := by omega
    exact ⟨xs[i], List.getElem_mem hi2, (hq i y (by rw [List.getElem?_eq_getElem hi, e]) _ _ (List.getElem?_eq_getElem (show i < us.length by omega)) (List.getElem?_eq_getElem hi2)).2⟩
/-- a drawn diagram. -/
abbrev OwnD (w : World) (B : Nat) (v : Value) (d : List (List (List Int))) : Prop := OwnOf 23 (OwnOf 22 (OwnI 3)) w B v d
theorem OwnD.any {w : World} {B gD j : Nat} {v : Value} {d : List (List (List Int))} {cs : Array Value} (x : Int) (hb : TBlk 3 w gD cs) (h : OwnD w B v d) (hs : DgSh d) : ∃ d', OwnD (w.setCell ⟨gD, j, none⟩ (.int .i64 x)) B v d' ∧ DgSh d' := by
  obtain ⟨d', h1, h2, h3⟩ := OwnOf.any_ (In' := fun _ _ _ _ => True) (R := fun (z y : List (List Int)) => y.length = z.length ∧ ∀ t ∈ y, ∃ s ∈ z, t.length = s.length) (j := j) (by decide) x hb h (fun u z hz => by
    obtain ⟨y, a, b, c⟩ := OwnOf.any_ (In' := fun _ _ _ _ => True) (R := fun (s t : List Int) => t.length = s.length) (j := j) (by decide) x hb hz (fun u z hz => OwnI.any_ x hb hz)
    exact ⟨y, a, b, c⟩)
  refine ⟨d', h1, by rw [h2]; exact hs.1, fun es hes => ?_⟩
  obtain ⟨z, hz, a, b⟩ := h3 es hes
  obtain ⟨q1, q2, q3⟩ := hs.2 z hz
  refine ⟨by omega, by omega, fun t ht => ?_⟩
  obtain ⟨s, hs', e⟩ := b t ht
  rw [e]; exact q3 s hs'
end Go.Proofs.Ytfmdgdamelkelaa
/- anyConstraint: a drawn constraint that may be damaged. -/
namespace Go.Proofs.Ytfmdgdamelkelaa
open Go.ChangeShapes Go.WideShapes Go.ChangeAt Go.RowKit
open Go.Shelf
set_option linter.unusedVariables false
set_option maxRecDepth 100000

theorem OwnCon.shunT {w : World} {B R j : Nat} {v u : Value} {k : Con} {zs : Array Value} (h : OwnCon w B v k) (hr : TBlk 29 w R zs) : OwnCon (w.setCell ⟨R, j, none⟩ u) B v k := by
  obtain ⟨vv, av, rv, e, h1, h2, h3⟩ := h
  exact ⟨vv, av, rv, e, OwnI.shuns (t := 29) (by decide) _ _ _ _ _ j _ _ u hr h1, OwnI.shuns (t := 29) (by decide) _ _ _ _ _ j _ _ u hr h2, OwnOf.shuns (t := 29) (by decide) (OwnI.shuns (by decide)) _ _ _ _ _ j _ _ u hr h3⟩
theorem OwnCon.laid0 {w : World} {B R : Nat} {k : Con} {x0 x1 x2 x3 x4 : Value} {zs : Array Value}
    (h : OwnCon w B (.agg #[x0, x1, x2, x3, x4]) k) (hr : TBlk 29 w R zs) (hz : zs.size = 5) {wf : World}
    (hf : wf = ((((w.setCell ⟨R, 0, none⟩ x0).setCell ⟨R, 1, none⟩ x1).setCell ⟨R, 2, none⟩ x2).setCell ⟨R, 3, none⟩ x3).setCell ⟨R, 4, none⟩ x4) :
    TBlk 29 wf R #[x0, x1, x2, x3, x4] ∧ OwnCon wf B (.agg #[x0, x1, x2, x3, x4]) k := by
  obtain ⟨z0, z1, z2, z3, z4, rfl⟩ : ∃ z0 z1 z2 z3 z4, zs = #[z0, z1, z2, z3, z4] := by
    rcases zs with ⟨l⟩
    match l, hz with
    | [z0, z1, z2, z3, z4], _ => exact ⟨_, _, _, _, _, rfl⟩
  have t1 := hr.store 0 x0
  have s1 := h.shunT (j := 0) (u := x0) hr
  have t2 := t1.store 1 x1
  have s2 := s1.shunT (j := 1) (u := x1) t1
  have t3 := t2.store 2 x2
  have s3 := s2.shunT (j := 2) (u := x2) t2
  have t4 := t3.store 3 x3
  have s4 := s3.shunT (j := 3) (u := x3) t3
  have t5 := t4.store 4 x4
  have s5 := s4.shunT (j := 4) (u := x4) t4
  subst hf
  exact ⟨t5, s5⟩
theorem below_laid {w w0 : World} {B R : Nat} {x0 x1 x2 x3 x4 : Value} (h : Below B w0 w) (hR : B ≤ R) {wf : World}
    (hf : wf = ((((w.setCell ⟨R, 0, none⟩ x0).setCell ⟨R, 1, none⟩ x1).setCell ⟨R, 2, none⟩ x2).setCell ⟨R, 3, none⟩ x3).setCell ⟨R, 4, none⟩ x4) : Below B w0 wf := by
  subst hf
  exact ((((h.setCell (p := ⟨R, 0, none⟩) hR _).setCell (p := ⟨R, 1, none⟩) hR _).setCell (p := ⟨R, 2, none⟩) hR _).setCell (p := ⟨R, 3, none⟩) hR _).setCell (p := ⟨R, 4, none⟩) hR _
/-- A constraint laid into the box of the result. -/
theorem OwnCon.laid {w w0 : World} {B B0 R g base n c p : Nat} {A : Option Addr} {bs : List Int} {k : Con} {x0 x1 x2 x3 x4 : Value} {zs : Array Value}
    (h : OwnCon w B (.agg #[x0, x1, x2, x3, x4]) k) (hr : TBlk 29 w R zs) (hz : zs.size = 5) (hd : Rd w base g A n c bs p) (hg : g < R) (hR : B0 ≤ R) (hb : ButG g B0 w0 w) {wf : World}
    (hf : wf = ((((w.setCell ⟨R, 0, none⟩ x0).setCell ⟨R, 1, none⟩ x1).setCell ⟨R, 2, none⟩ x2).setCell ⟨R, 3, none⟩ x3).setCell ⟨R, 4, none⟩ x4) :
    (wf.cell? ⟨R, 0, none⟩ = some x0 ∧ wf.cell? ⟨R, 1, none⟩ = some x1 ∧ wf.cell? ⟨R, 2, none⟩ = some x2 ∧ wf.cell? ⟨R, 3, none⟩ = some x3 ∧ wf.cell? ⟨R, 4, none⟩ = some x4) ∧
    OwnCon wf B (.agg #[x0, x1, x2, x3, x4]) k ∧ Rd wf base g A n c bs p ∧ ButG g B0 w0 wf := by
  obtain ⟨z0, z1, z2, z3, z4, rfl⟩ : ∃ z0 z1 z2 z3 z4, zs = #[z0, z1, z2, z3, z4] := by
    rcases zs with ⟨l⟩
    match l, hz with
    | [z0, z1, z2, z3, z4], _ => exact ⟨_, _, _, _, _, rfl⟩
  have t1 := hr.store 0 x0
  have s1 := h.shunT (j := 0) (u := x0) hr
  have t2 := t1.store 1 x1
  have s2 := s1.shunT (j := 1) (u := x1) t1
  have t3 := t2.store 2 x2
  have s3 := s2.shunT (j := 2) (u := x2) t2
  have t4 := t3.store 3 x3
  have s4 := s3.shunT (j := 3) (u := x3) t3
  have t5 := t4.store 4 x4
  have s5 := s4.shunT (j := 4) (u := x4) t4
  subst hf
  refine ⟨⟨t5.at_ 0 rfl, t5.at_ 1 rfl, t5.at_ 2 rfl, t5.at_ 3 rfl, t5.at_ 4 rfl⟩, s5, ?_, ?_⟩
  · exact ((((hd.set hg 0 _).set hg 1 _).set hg 2 _).set hg 3 _).set hg 4 _
  · exact ((((hb.setHi hR 0 _).setHi hR 1 _).setHi hR 2 _).setHi hR 3 _).setHi hR 4 _
/-- small, with a margin. -/
def SmD (c : Con) : Prop := c.vars.length ≤ 9 ∧ c.args.length ≤ 9 ∧ c.rows.length ≤ 8 ∧ RowsLe 8 c.rows
theorem SmC.d {c : Con} (h : SmC c) : SmD c := ⟨by have := h.1; omega, by have := h.2.1; omega, h.2.2.1, h.2.2.2⟩
theorem SmC.near {c d : Con} (h : SmC c) (k : NearC c d) : SmD d := ⟨by have := h.1; have := k.1; omega, by have := h.2.1; have := k.2.1; omega, by rw [k.2.2]; exact h.2.2.1, by rw [k.2.2]; exact h.2.2.2⟩
theorem SmD.con {c : Con} (h : SmD c) : SmCon c := ⟨by have := h.1; unfold Sm1; omega, by have := h.2.1; unfold Sm1; omega, by have := h.2.2.1; omega, fun x hx => by have := h.2.2.2 x hx; unfold Sm1; omega⟩
set_option maxHeartbeats 16000000 in
theorem anyConstraint (base g n c p : Nat) (A : Option Addr) (bs : List Int) (m : Nat) (w : World) (h : Rd w base g A n c bs p) (hp : p ≤ 800000) (hm1 : 1 ≤ m) (hm4 : m ≤ 4) :
    Calls Try.prog 97 #[.pointer (some ⟨g, 0, none⟩), .int .i64 m] w fun e w' => ∃ (v : Value) (k : Con) (q : Nat), e = .returned v ∧ OwnCon w' w.heap.size v k ∧ SmD k ∧ q ≤ p + 210 ∧ Rd w' base g A n c bs q ∧ ButG g w.heap.size w w' := by
  have hg : g < w.heap.size := (Array.getElem?_eq_some_iff.1 h.block).1
  obtain ⟨wa, hwa⟩ : ∃ wa, wa = w.alloc (.cells #[.int .i64 0, .slice none 0 0, .slice none 0 0, .int .i64 0, .slice none 0 0] 29) := ⟨_, rfl⟩
  have hba : Below w.heap.size w wa := by rw [hwa]; exact b_alloc _ _
  have hza : wa.heap.size = w.heap.size + 1 := by rw [hwa, size_alloc_]
  have HT : Hid (TBlk 29 wa w.heap.size #[.int .i64 0, .slice none 0 0, .slice none 0 0, .int .i64 0, .slice none 0 0]) := by rw [hwa]; exact TBlk.new _ _ _
  have HD := Lib.hid (h.under hba hg)
  have HBA := Lib.hid hba
  clear h hba
  go_enter Try.func97, Try.ntmps97
  go_wp2_with fail
  rw [← hwa]
  clear hwa
  refine (randomConstraint base g n c p A bs m wa HD.out (by omega) hm1 hm4).mono ?_
  rintro e w1 ⟨v, k, q, rfl, ho, hk1, hsm, hq, hr1, hb1⟩
  have HT1 := Lib.hid (HT.out.butG hb1 (by omega))
  have HB1 := Lib.hid ((below_butG HBA.out g).go hb1)
  have hz1 := hb1.size
  obtain ⟨vv, av, rv, rfl, o1, o2, o3⟩ := ho
  obtain ⟨A1, c1, rfl, -⟩ := o1.read
  obtain ⟨A2, c2, rfl, -⟩ := o2.read
  obtain ⟨A3, c3, rfl, -⟩ := read2 o3
  obtain ⟨nv, hnv⟩ : ∃ nv, k.vars.length = nv := ⟨_, rfl⟩
  obtain ⟨na, hna⟩ : ∃ na, k.args.length = na := ⟨_, rfl⟩
  obtain ⟨nr, hnr⟩ : ∃ nr, k.rows.length = nr := ⟨_, rfl⟩
  rw [hnv] at o1 ⊢
  rw [hna] at o2 ⊢
  rw [hnr] at o3 ⊢
  have HSM := Lib.hid (And.intro hk1 hsm)
  obtain ⟨w4, hw4⟩ : ∃ w4, w1.alloc (.cells #[.int .i64 k.kind, .slice A1 nv c1, .slice A2 na c2, .int .i64 k.bound, .slice A3 nr c3] 29) = w4 := ⟨_, rfl⟩
  have hb4 : Below w1.heap.size w1 w4 := by rw [← hw4]; exact b_alloc _ _
  have hC4 : CS w4 w.heap.size w1.heap.size k (.slice A1 nv c1) (.slice A2 na c2) (.slice A3 nr c3) :=
    ⟨by rw [← hw4]; exact TBlk.new _ _ _, (OwnI.stays 3).base _ _ _ _ _ (show w.heap.size ≤ wa.heap.size by omega) ((OwnI.stays 3).below _ _ _ _ _ hb4 o1), (OwnI.stays 3).base _ _ _ _ _ (show w.heap.size ≤ wa.heap.size by omega) ((OwnI.stays 3).below _ _ _ _ _ hb4 o2), (OwnOf.stays (OwnI.stays 3)).base _ _ _ _ _ (show w.heap.size ≤ wa.heap.size by omega) ((OwnOf.stays (OwnI.stays 3)).below _ _ _ _ _ hb4 o3)⟩
  have HC4 := Lib.hid hC4
  have HT4 := Lib.hid (HT1.out.below_ hb4 (by omega))
  have HD4 := Lib.hid (hr1.under hb4 (by omega))
  have HB4 := Lib.hid (HB1.out.go (below_butG hb4 g))
  have hz4 := hb4.size
  clear o1 o2 o3 hk1 hsm hnv hna hnr hC4 hb4 hb1 hr1
  go_wp2_with fail
  refine (pick base g n c q A bs 10 w4 HD4.out (by omega)).mono ?_
  rintro e w5 ⟨r, rfl, -, hr5, hb5⟩
  have hgw : g < w.heap.size := hg
  have HC5 := HC4.out.butG hb5 hgw (by omega)
  have HT5 := Lib.hid (HT4.out.butG hb5 (by omega))
  have HB5 := Lib.hid (HB4.out.go hb5)
  have hz5 := hb5.size
  have z0 := HC5.blk.at_ 0 rfl
  have z1 := HC5.blk.at_ 1 rfl
  have z2 := HC5.blk.at_ 2 rfl
  have z3 := HC5.blk.at_ 3 rfl
  have z4 := HC5.blk.at_ 4 rfl
  have HCH := Lib.hid HC5
  clear HC5 hb5 HC4 HT4 HB4 HD4
  by_cases h0 : r = 0
  · subst h0
    go_wp2_with fail
    obtain ⟨hv1, hv2, hv3⟩ := And.intro HSM.out.1 (And.intro HSM.out.2.1 HSM.out.2.2.1)
    refine (damage base g n c (q + 1) w.heap.size A bs _ k w5 hr5 (by omega) HCH.out.own (by omega) hgw hv1 hv2 hv3).mono ?_
    rintro e w6 ⟨v', k', q', rfl, ho', hn', hq', hr6, hb6⟩
    have HT6 := HT5.out.butG hb6 (by omega)
    have HB6 := HB5.out.go hb6
    obtain ⟨vv', av', rv', rfl, k1, k2, k3⟩ := ho'
    obtain ⟨A1', c1', rfl, -⟩ := k1.read
    obtain ⟨A2', c2', rfl, -⟩ := k2.read
    obtain ⟨A3', c3', rfl, -⟩ := read2 k3
    have y0 := HT6.at_ 0 rfl
    have y1 := HT6.at_ 1 rfl
    have y2 := HT6.at_ 2 rfl
    have y3 := HT6.at_ 3 rfl
    have y4 := HT6.at_ 4 rfl
    have f0 := HT6.frozen 0
    have f1 := HT6.frozen 1
    have f2 := HT6.frozen 2
    have f3 := HT6.frozen 3
    have f4 := HT6.frozen 4
    have hF := Lib.hid (OwnCon.laid (show OwnCon w6 w.heap.size _ k' from ⟨_, _, _, rfl, k1, k2, k3⟩) HT6 rfl hr6 hgw (Nat.le_refl _) HB6 rfl)
    have HN := Lib.hid (HSM.out.2.near hn')
    clear k1 k2 k3 HT6 HB6 hr6 hb6 hr5 z0 z1 z2 z3 z4 hn' hv1 hv2 hv3
    go_wp2_with fail
    generalize (((((w6.setCell ⟨w.heap.size, 0, none⟩ (.int .i64 k'.kind)).setCell ⟨w.heap.size, 1, none⟩ (.slice A1' k'.vars.length c1')).setCell ⟨w.heap.size, 2, none⟩ (.slice A2' k'.args.length c2')).setCell ⟨w.heap.size, 3, none⟩ (.int .i64 k'.bound)).setCell ⟨w.heap.size, 4, none⟩ (.slice A3' k'.rows.length c3')) = wf at hF ⊢
    obtain ⟨⟨t0, t1, t2, t3, t4⟩, ho, hrd, hbf⟩ := hF.out
    refine bodyPost_ret (v := .agg #[.int .i64 k'.kind, .slice A1' k'.vars.length c1', .slice A2' k'.args.length c2', .int .i64 k'.bound, .slice A3' k'.rows.length c3']) ?_ rfl ?_
    · simp [results, Try.results97, go_sem, t0, t1, t2, t3, t4]
    · exact ⟨_, _, _, rfl, ho, HN.out, by omega, hrd, hbf⟩
  have n0 : (r == 0) = false := by simpa using h0
  have y0 := HT5.out.at_ 0 rfl
  have y1 := HT5.out.at_ 1 rfl
  have y2 := HT5.out.at_ 2 rfl
  have y3 := HT5.out.at_ 3 rfl
  have y4 := HT5.out.at_ 4 rfl
  have f0 := HT5.out.frozen 0
  have f1 := HT5.out.frozen 1
  have f2 := HT5.out.frozen 2
  have f3 := HT5.out.frozen 3
  have f4 := HT5.out.frozen 4
  have hF := Lib.hid (OwnCon.laid HCH.out.own HT5.out rfl hr5 hgw (Nat.le_refl _) HB5.out rfl)
  have HN := Lib.hid HSM.out.2.d
  clear hr5
  go_wp2_with fail
  generalize (((((w5.setCell ⟨w.heap.size, 0, none⟩ (.int .i64 k.kind)).setCell ⟨w.heap.size, 1, none⟩ (.slice A1 nv c1)).setCell ⟨w.heap.size, 2, none⟩ (.slice A2 na c2)).setCell ⟨w.heap.size, 3, none⟩ (.int .i64 k.bound)).setCell ⟨w.heap.size, 4, none⟩ (.slice A3 nr c3)) = wf at hF ⊢
  obtain ⟨⟨t0, t1, t2, t3, t4⟩, ho, hrd, hbf⟩ := hF.out
  refine bodyPost_ret (v := .agg #[.int .i64 k.kind, .slice A1 nv c1, .slice A2 na c2, .int .i64 k.bound, .slice A3 nr c3]) ?_ rfl ?_
  · simp [results, Try.results97, go_sem, t0, t1, t2, t3, t4]
  · exact ⟨_, _, _, rfl, ho, HN.out, by omega, hrd, hbf⟩
end Go.Proofs.Ytfmdgdamelkelaa
