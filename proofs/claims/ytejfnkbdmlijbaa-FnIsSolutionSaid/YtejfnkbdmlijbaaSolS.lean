/- Solutions of a model, by the reference. -/
import Derived.Test.YtejfnkbdmlijbaaSatS
namespace Go.Proofs.Ytejfnkbdmlijbaa
open Go.ChangeShapes Go.WideShapes Go.ChangeAt Go.RowKit
open Go.Shelf
set_option linter.unusedVariables false
set_option maxRecDepth 100000

def sdomsF (m : Mod) (xs : List Int) : Bool := (List.range xs.length).all fun i => dhB (gat m.doms i) (gat xs i)
def ssolF (m : Mod) (xs : List Int) : Bool := sdomsF m xs && m.cons.all fun c => holdF c xs
theorem all_range {p : Int → Bool} {xs : List Int} : ((List.range xs.length).all fun i => p (gat xs i)) = xs.all p := by
  cases h : xs.all p
  · obtain ⟨x, hx, hp⟩ := List.all_eq_false.1 h
    obtain ⟨i, hi⟩ := List.mem_iff_getElem?.1 hx
    refine all_range_no (i := i) (List.getElem?_eq_some_iff.1 hi).1 ?_
    rw [gat_eq hi]; simpa using hp
  · rw [List.all_eq_true] at h ⊢
    intro i hi
    exact h _ (gat_in (List.mem_range.1 hi))
theorem sdoms_eq (m : Mod) (xs : List Int) : sdomsF m xs = ((xs.all fun x => inB x 0 5) && domsF m xs) := by
  unfold sdomsF domsF
  rw [← all_range (p := fun x => inB x 0 5)]
  cases h : (List.range xs.length).all fun i => inB (gat xs i) 0 5
  · rw [Bool.false_and]
    obtain ⟨i, hi, hp⟩ := List.all_eq_false.1 h
    exact all_range_no (List.mem_range.1 hi) (by unfold dhB; rw [show inB (gat xs i) 0 5 = false by simpa using hp]; rfl)
  · rw [Bool.true_and]
    rw [List.all_eq_true] at h
    cases h2 : (List.range xs.length).all fun i => hasB (gat m.doms i) (gat xs i)
    · obtain ⟨i, hi, hp⟩ := List.all_eq_false.1 h2
      exact all_range_no (List.mem_range.1 hi) (by unfold dhB; rw [show hasB (gat m.doms i) (gat xs i) = false by simpa using hp, Bool.and_false])
    · rw [List.all_eq_true] at h2 ⊢
      intro i hi
      unfold dhB
      rw [h i hi, h2 i hi]; rfl
theorem sdoms_vals {m : Mod} {xs : List Int} (h : sdomsF m xs = true) : ∀ v ∈ xs, 0 ≤ v ∧ v ≤ 5 := by
  rw [sdoms_eq, Bool.and_eq_true, List.all_eq_true] at h
  exact fun v hv => inB_true (h.1 v hv)
theorem sisF (m : Mod) (xs : List Int) : (vmodF m && (((xs.length : Int) == (m.doms.length : Int)) && ssolF m xs)) = isF m xs := by
  unfold isF ssolF isolF asgF
  rw [sdoms_eq]
  simp only [Bool.and_assoc]
theorem sdomainHas_b (d v : Int) (h0 : 0 ≤ d) (w : World) (b : Bool) (hb : dhB d v = b) :
    Calls Try.prog 90 #[.int .i64 d, .int .i64 v] w fun e w' => e = .returned (.bool b) ∧ w = w' := by
  subst hb; exact sdomainHas d v h0 w
set_option maxHeartbeats 8000000 in
theorem sisSolution (us : List Value) (m : Mod) (A : Option Addr) (n d : Nat) (xs : List Int) (w : World) (h : ModR w w.heap.size us m) (hx : IntR w w.heap.size A n xs) (hm : ModOk m) (hn : n = m.doms.length) :
    Calls Try.prog 46 #[.agg us.toArray, .slice A n d] w fun e w' => e = .returned (.bool (ssolF m xs)) ∧ Below w.heap.size w w' := by
  obtain ⟨da, ca, cd, cc, rfl, g1, g2, -⟩ := h
  rw [← hn] at g1
  rw [← hn]
  obtain ⟨wa, hwa⟩ : ∃ wa, wa = w.alloc (.cells #[.slice da n cd, .slice ca m.cons.length cc] 26) := ⟨_, rfl⟩
  have hb0 : Below w.heap.size w wa := by rw [hwa]; exact b_alloc _ _
  have hsz : wa.heap.size = w.heap.size + 1 := by rw [hwa, size_alloc_]
  have ha : TBlk 26 wa w.heap.size #[.slice da n cd, .slice ca m.cons.length cc] := by rw [hwa]; exact TBlk.new _ _ _
  have HA := Lib.hid ha
  have G1 := Lib.hid (IntR.on g1 hb0)
  have G2 := Lib.hid (ConsR.on g2 hb0)
  have GX := Lib.hid (IntR.on hx hb0)
  have hle := hx.le
  have hnc := g2.le
  have hl := Lib.hid hx.len
  have HM := Lib.hid hm
  have HN := Lib.hid hn
  have hn4 : n ≤ 4 := by rw [hn]; exact hm.four
  clear ha g1 g2 hx hm hn
  go_enter Try.func46, Try.ntmps46
  go_wp2_with fail
  rw [← hwa]
  clear hwa
  go_loopw [5] (fun i wr => ∃ k : Nat, k ≤ n ∧ i = .int .i64 k ∧ Hid (UpTo (fun i => dhB (gat m.doms i) (gat xs i)) k) ∧ Below wa.heap.size wa wr) (fun i _ => n - (intOf i).toNat)
  case atStart => exact ⟨0, by omega, rfl, UpTo.zero _, Below.refl _ _⟩
  case round =>
    obtain ⟨k, hk, rfl, hq, hb⟩ := hrel
    have a0 : wr.cell? ⟨w.heap.size, 0, none⟩ = some (.slice da n cd) := (HA.out.below_ hb (by omega)).at_ 0 rfl
    have a1 : wr.cell? ⟨w.heap.size, 1, none⟩ = some (.slice ca m.cons.length cc) := (HA.out.below_ hb (by omega)).at_ 1 rfl
    by_cases hlt : k < n
    · obtain ⟨xb, xo, x, rfl, hxb, hxk, hcx⟩ := IntR.at_ (GX.out.below IntC.keeps hb) hlt
      obtain ⟨db, do_, dm, rfl, hdb, hdk, hcd⟩ := IntR.at_ (G1.out.below IntC.keeps hb) hlt
      have HX := Lib.hid (gat_eq hxk)
      have HD := Lib.hid (gat_eq hdk)
      have HD0 := Lib.hid (HM.out.doms dm (List.mem_of_getElem? hdk))
      clear hxk hdk
      have hz := hb.size
      have p0 : ∀ p : Later wr, p.val.cell? ⟨w.heap.size, 0, none⟩ = some (.slice (some ⟨db, do_, none⟩) n cd) := fun p => p.cell (by omega) a0
      have q0 : ∀ p : Later wr, p.val.cell? ⟨xb, xo + k, none⟩ = some (.int .i64 x) := fun p => p.cell (by omega) hcx
      have r0 : ∀ p : Later wr, p.val.cell? ⟨db, do_ + k, none⟩ = some (.int .i64 dm) := fun p => p.cell (by omega) hcd
      cases t1 : dhB dm x
      · have T1 := Lib.hid t1
        clear t1
        go_wp2_with fail
        refine wp_region_later (by kernel_rfl) (by kernel_rfl) ?_
        repeat (go_big_quiet_step (first | (go_at_call 90; exact calls_later_same (sdomainHas_b _ _ HD0.out.1 _ _ T1.out))))
        refine wpQuiet_nil ?_
        intro w5 hw'
        obtain ⟨⟨w6, hb5⟩, hw''⟩ := hw'
        subst hw''
        have HE := Lib.hid (show ssolF m xs = false by
          unfold ssolF sdomsF
          rw [all_range_no (i := k) (by rw [hl.out]; exact hlt) (by rw [HX.out, HD.out]; exact T1.out)]; rfl)
        go_wp2_with fail
        go_ret
        exact ⟨ret_bool HE.out.symm, bgo hb0 (bgo hb hb5)⟩
      · have T1 := Lib.hid t1
        clear t1
        go_wp2_with fail
        refine wp_region_later (by kernel_rfl) (by kernel_rfl) ?_
        repeat (go_big_quiet_step (first | (go_at_call 90; exact calls_later_same (sdomainHas_b _ _ HD0.out.1 _ _ T1.out))))
        refine wpQuiet_nil ?_
        intro w5 hw'
        obtain ⟨⟨w6, hb5⟩, hw''⟩ := hw'
        subst hw''
        go_wp2_with fail
        go_roundw
        case rel => exact ⟨k + 1, by omega, by go_num, UpTo.succ hq.out (by rw [HX.out, HD.out]; exact T1.out), bgo hb hb5⟩
        case measure => simp [intOf]; omega
    · obtain rfl : k = n := by omega
      have hsd : sdomsF m xs = true := by
        unfold sdomsF
        rw [hl.out]; exact UpTo.done hq.out
      have HSD := Lib.hid hsd
      have HV := Lib.hid (sdoms_vals hsd)
      clear hsd hq a0
      rename World => wo
      have HB := Lib.hid hb
      go_wp2_with fail
      go_loopw [6] (fun i wr => ∃ j : Nat, j ≤ m.cons.length ∧ i = .int .i64 j ∧ Hid (AllB (fun c => holdF c xs) m.cons j) ∧ Below wa.heap.size wa wr) (fun i _ => m.cons.length - (intOf i).toNat)
      case atStart => exact ⟨0, by omega, rfl, AllB.zero _ _, hb⟩
      case round =>
        obtain ⟨j, hj, rfl, hq, hX⟩ := hrel
        have a1 : wr.cell? ⟨w.heap.size, 1, none⟩ = some (.slice ca m.cons.length cc) := (HA.out.below_ hX (by omega)).at_ 1 rfl
        by_cases hlt2 : j < m.cons.length
        · obtain ⟨ab, ao, c, va, aa, ra, cv, ca', cr, rfl, hab, hxk, c0, c1, c2, c3, c4, hc⟩ := ConR.at_ (SlK.below ConR.keeps G2.out hX) hlt2
          have HXK := Lib.hid hxk
          have HVC := Lib.hid (HM.out.cons c (List.mem_of_getElem? hxk))
          have HC := Lib.hid (ConR.widens _ _ _ _ _ hX.size hc)
          have hz := hX.size
          clear hxk hc
          have hS : ∀ w', Below wr.heap.size wr w' → (w'.cell? ⟨w.heap.size, 1, none⟩ = some (.slice (some ⟨ab, ao, none⟩) m.cons.length cc) ∧ w'.cell? ⟨ab, ao + j * 5, none⟩ = some (.int .i64 c.kind) ∧ w'.cell? ⟨ab, ao + j * 5 + 1, none⟩ = some (.slice va c.vars.length cv) ∧ w'.cell? ⟨ab, ao + j * 5 + 2, none⟩ = some (.slice aa c.args.length ca') ∧ w'.cell? ⟨ab, ao + j * 5 + 3, none⟩ = some (.int .i64 c.bound) ∧ w'.cell? ⟨ab, ao + j * 5 + 4, none⟩ = some (.slice ra c.rows.length cr)) := by
            intro w' h
            have hab2 : ab < wr.heap.size := by omega
            exact ⟨(HA.out.below_ (bgo hX h) (by omega)).at_ 1 rfl, (h.cell (p := ⟨ab, _, none⟩) hab2).trans c0, (h.cell (p := ⟨ab, _, none⟩) hab2).trans c1, (h.cell (p := ⟨ab, _, none⟩) hab2).trans c2, (h.cell (p := ⟨ab, _, none⟩) hab2).trans c3, (h.cell (p := ⟨ab, _, none⟩) hab2).trans c4⟩
          have hbd : Below wr.heap.size wr wr.drew := below_drewN (Below.refl _ _) 1
          have hS0 := hS _ hbd
          have hok := Lib.hid (SatOk.of (by rw [← HN.out] at HVC; exact HVC.out) hn4 hl.out HV.out)
          obtain ⟨q1, q2, q3⟩ := vcon_vars (by rw [← HN.out] at HVC; exact HVC.out) hn4
          have Q1 := Lib.hid q1
          have Q2 := Lib.hid q2
          clear q1 q2 q3 c0 c1 c2 c3 c4
          cases t1 : holdF c xs
          · have T1 := Lib.hid t1
            clear t1
            go_wp2_with fail
            go_region_held3 (fun w' => w'.cell? ⟨w.heap.size, 1, none⟩ = some (.slice (some ⟨ab, ao, none⟩) m.cons.length cc) ∧ w'.cell? ⟨ab, ao + j * 5, none⟩ = some (.int .i64 c.kind) ∧ w'.cell? ⟨ab, ao + j * 5 + 1, none⟩ = some (.slice va c.vars.length cv) ∧ w'.cell? ⟨ab, ao + j * 5 + 2, none⟩ = some (.slice aa c.args.length ca') ∧ w'.cell? ⟨ab, ao + j * 5 + 3, none⟩ = some (.int .i64 c.bound) ∧ w'.cell? ⟨ab, ao + j * 5 + 4, none⟩ = some (.slice ra c.rows.length cr))
              (first | exact hS0 | exact hS _ hb8 | exact hS _ hb9)
              (first
                | (go_at_call 92
                   refine (sproject _ c _ _ _ xs _ (ConR.on HC.out hbd) (IntR.on (IntR.on GX.out hX) hbd) Q2.out (by have := Q1.out; omega)).mono ?_
                   rintro e Wq ⟨v, rfl, ow, hBq⟩
                   obtain ⟨B2, d2, rfl, rw2, -⟩ := IntR.of_own ow.1 ow.2
                   have hb8 := bgo hbd hBq
                   clear hBq ow)
                | (go_at_call 91
                   refine (ssatisfies _ c _ _ _ (wordF c.vars xs) _ (ConR.on HC.out hb8) rw2 hok.out).mono ?_
                   rintro e W9 ⟨rfl, hBq⟩
                   have hb9 := bgo hb8 hBq
                   have T2 : satF c (wordF c.vars xs) = false := T1.out
                   clear hBq))
            have HE := Lib.hid (show ssolF m xs = false by unfold ssolF; rw [all_no (f := fun c => holdF c xs) HXK.out T1.out]; simp)
            go_wp2_with fail
            go_ret
            exact ⟨ret_bool HE.out.symm, bgo hb0 (bgo hX hb9)⟩
          · have T1 := Lib.hid t1
            clear t1
            go_wp2_with fail
            go_region_held3 (fun w' => w'.cell? ⟨w.heap.size, 1, none⟩ = some (.slice (some ⟨ab, ao, none⟩) m.cons.length cc) ∧ w'.cell? ⟨ab, ao + j * 5, none⟩ = some (.int .i64 c.kind) ∧ w'.cell? ⟨ab, ao + j * 5 + 1, none⟩ = some (.slice va c.vars.length cv) ∧ w'.cell? ⟨ab, ao + j * 5 + 2, none⟩ = some (.slice aa c.args.length ca') ∧ w'.cell? ⟨ab, ao + j * 5 + 3, none⟩ = some (.int .i64 c.bound) ∧ w'.cell? ⟨ab, ao + j * 5 + 4, none⟩ = some (.slice ra c.rows.length cr))
              (first | exact hS0 | exact hS _ hb8 | exact hS _ hb9)
              (first
                | (go_at_call 92
                   refine (sproject _ c _ _ _ xs _ (ConR.on HC.out hbd) (IntR.on (IntR.on GX.out hX) hbd) Q2.out (by have := Q1.out; omega)).mono ?_
                   rintro e Wq ⟨v, rfl, ow, hBq⟩
                   obtain ⟨B2, d2, rfl, rw2, -⟩ := IntR.of_own ow.1 ow.2
                   have hb8 := bgo hbd hBq
                   clear hBq ow)
                | (go_at_call 91
                   refine (ssatisfies _ c _ _ _ (wordF c.vars xs) _ (ConR.on HC.out hb8) rw2 hok.out).mono ?_
                   rintro e W9 ⟨rfl, hBq⟩
                   have hb9 := bgo hb8 hBq
                   have T2 : satF c (wordF c.vars xs) = true := T1.out
                   clear hBq))
            go_wp2_with fail
            go_roundw
            case rel => exact ⟨j + 1, by omega, by go_num, AllB.succ hq.out HXK.out T1.out, bgo hX hb9⟩
            case measure => simp [intOf]; omega
        · obtain rfl : j = m.cons.length := by omega
          have HE := Lib.hid (show ssolF m xs = true by unfold ssolF; rw [HSD.out, AllB.done hq.out (Nat.le_refl _)]; rfl)
          go_wp2_with fail
          go_ret
          exact ⟨ret_bool HE.out.symm, bgo hb0 hX⟩
set_option maxHeartbeats 4000000 in
theorem sIsSolution (us : List Value) (m : Mod) (A : Option Addr) (n d : Nat) (xs : List Int) (w : World) (h : ModR w w.heap.size us m) (hx : IntR w w.heap.size A n xs) :
    Calls Try.prog 12 #[.agg us.toArray, .slice A n d] w fun e w' => e = .returned (.bool (isF m xs)) ∧ Below w.heap.size w w' := by
  have H0 := Lib.hid h
  obtain ⟨da, ca, cd, cc, rfl, -⟩ := h
  obtain ⟨wa, hwa⟩ : ∃ wa, wa = w.alloc (.cells #[.slice da m.doms.length cd, .slice ca m.cons.length cc] 26) := ⟨_, rfl⟩
  have hb0 : Below w.heap.size w wa := by rw [hwa]; exact b_alloc _ _
  have hsz : wa.heap.size = w.heap.size + 1 := by rw [hwa, size_alloc_]
  have ha : TBlk 26 wa w.heap.size #[.slice da m.doms.length cd, .slice ca m.cons.length cc] := by rw [hwa]; exact TBlk.new _ _ _
  have HA := Lib.hid ha
  have G0 := Lib.hid (ModR.on H0.out hb0)
  have GX := Lib.hid (IntR.on hx hb0)
  have hl := Lib.hid hx.len
  have a0 : wa.cell? ⟨w.heap.size, 0, none⟩ = some (.slice da m.doms.length cd) := ha.at_ 0 rfl
  have a1 : wa.cell? ⟨w.heap.size, 1, none⟩ = some (.slice ca m.cons.length cc) := ha.at_ 1 rfl
  clear ha hx
  go_enter Try.func12, Try.ntmps12
  go_wp2_with fail
  rw [← hwa]
  clear hwa
  refine (svalidModel _ m _ G0.out).mono ?_
  rintro e w1 ⟨rfl, hb1⟩
  have a0 : w1.cell? ⟨w.heap.size, 0, none⟩ = some (.slice da m.doms.length cd) := (HA.out.below_ hb1 (by omega)).at_ 0 rfl
  have a1 : w1.cell? ⟨w.heap.size, 1, none⟩ = some (.slice ca m.cons.length cc) := (HA.out.below_ hb1 (by omega)).at_ 1 rfl
  cases t0 : vmodF m
  · have HE := Lib.hid (show isF m xs = false by unfold isF; rw [t0]; rfl)
    clear t0
    go_wp2_with fail
    go_ret
    exact ⟨ret_bool HE.out.symm, bgo hb0 hb1⟩
  have T0 := Lib.hid t0
  clear t0
  cases t1 : ((n : Int) == (m.doms.length : Int))
  · have HE := Lib.hid (show isF m xs = false by rw [← sisF, hl.out, t1]; simp)
    go_wp2_with fail
    go_ret
    exact ⟨ret_bool HE.out.symm, bgo hb0 hb1⟩
  have hnm : n = m.doms.length := by have := beq_iff_eq.1 t1; omega
  have HE := Lib.hid (show isF m xs = ssolF m xs by rw [← sisF, T0.out, hl.out, t1]; rfl)
  have HNM := Lib.hid hnm
  clear hnm
  go_wp2_with fail
  refine (sisSolution _ m _ _ _ xs _ (ModR.on G0.out hb1) (IntR.on GX.out hb1) (ModOk.of T0.out) HNM.out).mono ?_
  rintro e w3 ⟨rfl, hb3⟩
  clear t1
  go_wp2_with fail
  go_ret
  exact ⟨ret_bool HE.out.symm, bgo hb0 (bgo hb1 hb3)⟩
end Go.Proofs.Ytejfnkbdmlijbaa
