/- Violated constraints, by the program and by the reference. -/
import Derived.Test.YtejfnkbdmlijbaaSolS
import Derived.Test.YtejfnkbdmlijbaaHold
namespace Go.Proofs.Ytejfnkbdmlijbaa
open Go.ChangeShapes Go.WideShapes Go.ChangeAt Go.RowKit
open Go.Shelf
set_option linter.unusedVariables false
set_option maxRecDepth 100000

def holdAt (m : Mod) (xs : List Int) (k : Nat) : Bool := match m.cons[k]? with | some c => holdF c xs | none => true
theorem holdAt_eq {m : Mod} {xs : List Int} {k : Nat} {c : Con} (h : m.cons[k]? = some c) : holdAt m xs k = holdF c xs := by unfold holdAt; rw [h]
def vioTo (m : Mod) (xs : List Int) : Nat → List Int
  | 0 => []
  | k + 1 => if holdAt m xs k = true then vioTo m xs k else vioTo m xs k ++ [(k : Int)]
theorem vioTo_len (m : Mod) (xs : List Int) : ∀ k, (vioTo m xs k).length ≤ k
  | 0 => Nat.le_refl _
  | k + 1 => by
    have := vioTo_len m xs k
    show (if holdAt m xs k = true then vioTo m xs k else vioTo m xs k ++ [(k : Int)]).length ≤ k + 1
    split
    · omega
    · rw [List.length_append, List.length_singleton]; omega
theorem vioTo_yes {m : Mod} {xs : List Int} {k : Nat} (h : holdAt m xs k = true) : vioTo m xs (k + 1) = vioTo m xs k := if_pos h
theorem vioTo_no {m : Mod} {xs : List Int} {k : Nat} (h : holdAt m xs k = false) : vioTo m xs (k + 1) = vioTo m xs k ++ [(k : Int)] := if_neg (by rw [h]; decide)
def vioF (m : Mod) (xs : List Int) : List Int := if (vmodF m && asgF xs m.doms.length) = true then vioTo m xs m.cons.length else []
theorem vioF_no1 {m : Mod} {xs : List Int} (h : vmodF m = false) : vioF m xs = [] := if_neg (by rw [h]; simp)
theorem vioF_no2 {m : Mod} {xs : List Int} (h : asgF xs m.doms.length = false) : vioF m xs = [] := if_neg (by rw [h]; simp)
theorem vioF_yes {m : Mod} {xs : List Int} (h : vmodF m = true) (h2 : asgF xs m.doms.length = true) : vioF m xs = vioTo m xs m.cons.length := if_pos (by rw [h, h2]; rfl)
theorem vioF_len (m : Mod) (xs : List Int) : (vioF m xs).length ≤ 6 := by
  unfold vioF
  split
  · rename_i h
    rw [Bool.and_eq_true] at h
    have := vioTo_len m xs m.cons.length
    have := (ModOk.of h.1).six
    omega
  · simp
set_option maxHeartbeats 8000000 in
theorem iViolated (us : List Value) (m : Mod) (A : Option Addr) (n d : Nat) (xs : List Int) (w : World) (h : ModR w w.heap.size us m) (hx : IntR w w.heap.size A n xs) :
    Calls Try.prog 37 #[.agg us.toArray, .slice A n d] w fun e w' => ∃ v, e = .returned v ∧ HoldR w' w.heap.size 3 1 v (vioF m xs).length ((vioF m xs).map (.int .i64)) ∧ Below w.heap.size w w' := by
  obtain ⟨i0, hi0, hz0, hz1, hz2⟩ := info_parts info_int
  have H0 := Lib.hid h
  obtain ⟨da, ca, cd, cc, rfl, -⟩ := h
  obtain ⟨wa, hwa⟩ : ∃ wa, wa = w.alloc (.cells #[.slice da m.doms.length cd, .slice ca m.cons.length cc] 26) := ⟨_, rfl⟩
  have hb0 : Below w.heap.size w wa := by rw [hwa]; exact b_alloc _ _
  have hsz : wa.heap.size = w.heap.size + 1 := by rw [hwa, size_alloc_]
  have ha : TBlk 26 wa w.heap.size #[.slice da m.doms.length cd, .slice ca m.cons.length cc] := by rw [hwa]; exact TBlk.new _ _ _
  have HA := Lib.hid ha
  have G0 := Lib.hid (ModR.on H0.out hb0)
  have GX := Lib.hid (IntR.on hx hb0)
  have hl := Lib.hid hx.len
  have a0 : wa.cell? ⟨w.heap.size, 0, none⟩ = some (.slice da m.doms.length cd) := ha.at_ 0 rfl
  have a1 : wa.cell? ⟨w.heap.size, 1, none⟩ = some (.slice ca m.cons.length cc) := ha.at_ 1 rfl
  clear ha hx
  go_enter Try.func37, Try.ntmps37
  go_wp2_with fail
  rw [← hwa]
  clear hwa
  refine (iValidModel _ m _ G0.out).mono ?_
  rintro e w1 ⟨rfl, hb1⟩
  have a0 : w1.cell? ⟨w.heap.size, 0, none⟩ = some (.slice da m.doms.length cd) := (HA.out.below_ hb1 (by omega)).at_ 0 rfl
  cases t0 : vmodF m
  · have HE := Lib.hid (vioF_no1 (xs := xs) t0)
    clear t0
    go_wp2_with fail
    go_ret
    exact ⟨_, rfl, by rw [HE.out]; exact HoldR.nil _ _ _ _, bgo hb0 hb1⟩
  have T0 := Lib.hid t0
  clear t0
  go_wp2_with fail
  refine (iassigned _ _ _ _ xs _ (IntR.on GX.out hb1)).mono ?_
  rintro e wo ⟨rfl, hb2⟩
  have hb12 := bgo hb1 hb2
  have hzo := hb12.size
  have a0 : wo.cell? ⟨w.heap.size, 0, none⟩ = some (.slice da m.doms.length cd) := (HA.out.below_ hb12 (by omega)).at_ 0 rfl
  have a1 : wo.cell? ⟨w.heap.size, 1, none⟩ = some (.slice ca m.cons.length cc) := (HA.out.below_ hb12 (by omega)).at_ 1 rfl
  cases t1 : asgF xs m.doms.length
  · have HE := Lib.hid (vioF_no2 t1)
    clear t1
    go_wp2_with fail
    go_ret
    exact ⟨_, rfl, by rw [HE.out]; exact HoldR.nil _ _ _ _, bgo hb0 hb12⟩
  have T1 := Lib.hid t1
  have HE := Lib.hid (vioF_yes T0.out t1)
  have HM := Lib.hid (ModOk.of T0.out)
  have h6 := HM.out.six
  have hnm : n = m.doms.length := by rw [← hl.out, (asg_all t1).1]
  have HN := Lib.hid hnm
  have hn4 : n ≤ 4 := by rw [hnm]; exact HM.out.four
  clear t1 hnm
  obtain ⟨da2, ca2, cd2, cc2, hus, -, g2, -⟩ := G0.out
  simp only [List.cons.injEq, Value.slice.injEq, true_and, and_true] at hus
  obtain ⟨⟨hda, hcd⟩, hca, hcc⟩ := hus
  subst hda hcd hca hcc
  have G2 := Lib.hid (ConsR.on g2 hb12)
  clear g2
  go_wp2_with (at_make; go_loud (refine wpList_make_own _ rfl (.const (.int .i64 0)) (.tmp 21) _ rfl wo.heap.size 3 i0 _ 1 Try.underlying23 hi0 hz0 hz1 .i64 .i64 _ m.cons.length rfl rfl rfl (by rw [hz2]; omega) (by unfold maxLen; omega) (Nat.le_refl _) ?_); intro w3 ho hgr; have a1 : w3.cell? ⟨w.heap.size, 1, none⟩ = some (.slice ca m.cons.length cc) := (HA.out.below_ (hb12.trans (((Below.refl wo.heap.size wo).grown hgr (Nat.le_refl _) (by simp)).mono hzo)) (by omega)).at_ 1 rfl)
  have hb3 : Below wo.heap.size wo w3 := (Below.refl _ _).grown hgr (Nat.le_refl _) (by simp)
  have HO := Lib.hid ho
  clear hgr a0 a1 ho
  go_loopw [5, 26] (fun v i wr => ∃ (k : Nat) (v' : Value), k ≤ m.cons.length ∧ i = .int .i64 k ∧ v' = v ∧ Hid (wr.ownsRow wo.heap.size 3 1 v' (vioTo m xs k).length ((vioTo m xs k).map (.int .i64))) ∧ Below wo.heap.size wo wr) (fun _ i _ => m.cons.length - (intOf i).toNat)
  case atStart => exact ⟨0, _, by omega, rfl, rfl, HO, hb3⟩
  case round =>
    obtain ⟨k, v, hk, rfl, rfl, hq, hb⟩ := hrel
    clear HO hb3
    have hlen := vioTo_len m xs k
    have hzr := hb.size
    by_cases hlt : k < m.cons.length
    · obtain ⟨ab, ao, c, va, aa, ra, cv, ca', cr, rfl, hab, hck, c0, c1, c2, c3, c4, hc⟩ := ConR.at_ (SlK.below ConR.keeps G2.out hb) hlt
      obtain ⟨wb, hwb⟩ : ∃ wb, wb = wr.alloc (.cells #[.int .i64 c.kind, .slice va c.vars.length cv, .slice aa c.args.length ca', .int .i64 c.bound, .slice ra c.rows.length cr] 35) := ⟨_, rfl⟩
      have hbb : Below wr.heap.size wr wb := by rw [hwb]; exact b_alloc _ _
      have HC := Lib.hid (ConR.on (ConR.widens _ _ _ _ _ hb.size hc) hbb)
      have HVC := Lib.hid (HM.out.cons c (List.mem_of_getElem? hck))
      have HAT := Lib.hid (holdAt_eq (xs := xs) hck)
      clear hck hc
      go_wp2_with fail
      rw [← hwb]
      clear hwb
      refine (iholds _ c _ _ _ xs _ HC.out (IntR.on GX.out (bgo hb12 (bgo hb hbb))) (by rw [HN.out]; exact HVC.out) hn4 (asg_all T1.out).2).mono ?_
      rintro e w5 ⟨rfl, hb5⟩
      have hbr : Below wr.heap.size wr w5 := bgo hbb hb5
      have hq5 := own_below hq.out hbr
      have hb6 := bgo hb hbr
      cases t2 : holdF c xs
      · have HS := Lib.hid (vioTo_no (HAT.out.trans t2))
        clear t2 c0 c1 c2 c3 c4
        have hz6 := hb6.size
        go_wp2_with (at_builtin; refine wpList_append_own _ rfl _ _ 23 rfl wo.heap.size 3 i0 _ 1 8 Try.underlying23 hi0 hz0 hz1 hz2 rfl (by decide) v _ _ rfl (hq5.alloc _) ⟨w5.heap.size, 0, none⟩ 1 1 [.int .i64 k] rfl rfl (cell_one_new _ _ _) (by simp [Value.oneCell']) (by unfold maxLen; omega) (by omega) (by rw [size_alloc_]; omega) ?_; intro v1 w7 hown hgr _)
        have hr1 := hq5.lt
        have hb7 : Below wo.heap.size wo w7 := (hb6.alloc hb6.size _).grown hgr (by rw [size_alloc_]; omega) (fun g hg => (hr1 g hg).1)
        have hown2 : w7.ownsRow wo.heap.size 3 1 v1 (vioTo m xs (k + 1)).length ((vioTo m xs (k + 1)).map (.int .i64)) := by rw [HS.out]; simpa using hown
        clear hown hgr
        go_roundw
        case rel => exact ⟨k + 1, v1, by omega, by go_num, rfl, hown2, hb7⟩
        case measure => simp [intOf]; omega
      · have HS := Lib.hid (vioTo_yes (HAT.out.trans t2))
        clear t2 c0 c1 c2 c3 c4
        go_wp2_with fail
        go_roundw
        case rel => exact ⟨k + 1, v, by omega, by go_num, rfl, by rw [HS.out]; exact hq5, hb6⟩
        case measure => simp [intOf]; omega
    · obtain rfl : k = m.cons.length := by omega
      obtain ⟨A9, c9, rfl, -, -⟩ := IntR.of_own hq.out (by omega)
      have hcap := own_cap hq.out
      have hnc2 : ((vioTo m xs m.cons.length).length : Int) ≤ (c9 : Int) := by omega
      have HQ := Lib.hid ((HoldR.of_own hq.out).clip.base_ (base' := w.heap.size) (by omega))
      clear hq
      go_wp2_with fail
      go_ret
      exact ⟨_, rfl, by rw [HE.out]; exact HQ.out, bgo hb0 (bgo hb12 hb)⟩
set_option maxHeartbeats 8000000 in
theorem sviolated (us : List Value) (m : Mod) (A : Option Addr) (n d : Nat) (xs : List Int) (w : World) (h : ModR w w.heap.size us m) (hx : IntR w w.heap.size A n xs) (hm : ModOk m) (hn : n = m.doms.length) (hs : ∀ v ∈ xs, 0 ≤ v ∧ v ≤ 5) :
    Calls Try.prog 79 #[.agg us.toArray, .slice A n d] w fun e w' => ∃ v, e = .returned v ∧ OwnI 3 w' w.heap.size v (vioTo m xs m.cons.length) ∧ Below w.heap.size w w' := by
  obtain ⟨i0, hi0, hz0, hz1, hz2⟩ := info_parts info_int
  obtain ⟨da, ca, cd, cc, rfl, -, g2, -⟩ := h
  obtain ⟨wa, hwa⟩ : ∃ wa, wa = w.alloc (.cells #[.slice da m.doms.length cd, .slice ca m.cons.length cc] 26) := ⟨_, rfl⟩
  have hb0 : Below w.heap.size w wa := by rw [hwa]; exact b_alloc _ _
  have hsz : wa.heap.size = w.heap.size + 1 := by rw [hwa, size_alloc_]
  have ha : TBlk 26 wa w.heap.size #[.slice da m.doms.length cd, .slice ca m.cons.length cc] := by rw [hwa]; exact TBlk.new _ _ _
  have HA := Lib.hid ha
  have G2 := Lib.hid (ConsR.on g2 hb0)
  have GX := Lib.hid (IntR.on hx hb0)
  have hl := Lib.hid hx.len
  have HM := Lib.hid hm
  have HN := Lib.hid hn
  have HV := Lib.hid hs
  have hn4 : n ≤ 4 := by rw [hn]; exact hm.four
  have h6 := hm.six
  have ho : (wa.alloc (.cells #[] 3)).ownsRow wa.heap.size 3 1 (.slice (some ⟨wa.heap.size, 0, none⟩) 0 0) 0 [] := World.ownsRow_lit wa #[] 0 (Nat.le_refl _) (by decide) rfl
  have hb1 : Below wa.heap.size wa (wa.alloc (.cells #[] 3)) := b_alloc _ _
  have HO := Lib.hid ho
  clear ha g2 hx ho hm hn hs
  go_enter Try.func79, Try.ntmps79
  go_wp2_with fail
  rw [← hwa]
  clear hwa
  go_loopw [5, 6] (fun v i wr => ∃ (k : Nat) (v' : Value), k ≤ m.cons.length ∧ i = .int .i64 k ∧ v' = v ∧ Hid (wr.ownsRow wa.heap.size 3 1 v' (vioTo m xs k).length ((vioTo m xs k).map (.int .i64))) ∧ Below wa.heap.size wa wr) (fun _ i _ => m.cons.length - (intOf i).toNat)
  case atStart => exact ⟨0, _, by omega, rfl, rfl, by rw [← hsz]; exact HO.out, hb1⟩
  case round =>
    obtain ⟨k, v, hk, rfl, rfl, hq, hX⟩ := hrel
    clear HO hb1
    have hlen := vioTo_len m xs k
    have a1 : wr.cell? ⟨w.heap.size, 1, none⟩ = some (.slice ca m.cons.length cc) := (HA.out.below_ hX (by omega)).at_ 1 rfl
    by_cases hlt2 : k < m.cons.length
    · obtain ⟨ab, ao, c, va, aa, ra, cv, ca', cr, rfl, hab, hxk, c0, c1, c2, c3, c4, hc⟩ := ConR.at_ (SlK.below ConR.keeps G2.out hX) hlt2
      have HAT := Lib.hid (holdAt_eq (xs := xs) hxk)
      have HVC := Lib.hid (HM.out.cons c (List.mem_of_getElem? hxk))
      have HC := Lib.hid (ConR.widens _ _ _ _ _ hX.size hc)
      have hz := hX.size
      clear hxk hc
      have hS : ∀ w', Below wr.heap.size wr w' → (w'.cell? ⟨w.heap.size, 1, none⟩ = some (.slice (some ⟨ab, ao, none⟩) m.cons.length cc) ∧ w'.cell? ⟨ab, ao + k * 5, none⟩ = some (.int .i64 c.kind) ∧ w'.cell? ⟨ab, ao + k * 5 + 1, none⟩ = some (.slice va c.vars.length cv) ∧ w'.cell? ⟨ab, ao + k * 5 + 2, none⟩ = some (.slice aa c.args.length ca') ∧ w'.cell? ⟨ab, ao + k * 5 + 3, none⟩ = some (.int .i64 c.bound) ∧ w'.cell? ⟨ab, ao + k * 5 + 4, none⟩ = some (.slice ra c.rows.length cr)) := by
        intro w' h
        have hab2 : ab < wr.heap.size := by omega
        exact ⟨(HA.out.below_ (bgo hX h) (by omega)).at_ 1 rfl, (h.cell (p := ⟨ab, _, none⟩) hab2).trans c0, (h.cell (p := ⟨ab, _, none⟩) hab2).trans c1, (h.cell (p := ⟨ab, _, none⟩) hab2).trans c2, (h.cell (p := ⟨ab, _, none⟩) hab2).trans c3, (h.cell (p := ⟨ab, _, none⟩) hab2).trans c4⟩
      have hbd : Below wr.heap.size wr wr.drew := below_drewN (Below.refl _ _) 1
      have hS0 := hS _ hbd
      have hok := Lib.hid (SatOk.of (by rw [← HN.out] at HVC; exact HVC.out) hn4 hl.out HV.out)
      obtain ⟨q1, q2, q3⟩ := vcon_vars (by rw [← HN.out] at HVC; exact HVC.out) hn4
      have Q1 := Lib.hid q1
      have Q2 := Lib.hid q2
      clear q1 q2 q3 c0 c1 c2 c3 c4
      cases t1 : holdF c xs
      · have T1 := Lib.hid t1
        have HS := Lib.hid (vioTo_no (HAT.out.trans t1))
        clear t1
        go_wp2_with fail
        go_region_held3 (fun w' => w'.cell? ⟨w.heap.size, 1, none⟩ = some (.slice (some ⟨ab, ao, none⟩) m.cons.length cc) ∧ w'.cell? ⟨ab, ao + k * 5, none⟩ = some (.int .i64 c.kind) ∧ w'.cell? ⟨ab, ao + k * 5 + 1, none⟩ = some (.slice va c.vars.length cv) ∧ w'.cell? ⟨ab, ao + k * 5 + 2, none⟩ = some (.slice aa c.args.length ca') ∧ w'.cell? ⟨ab, ao + k * 5 + 3, none⟩ = some (.int .i64 c.bound) ∧ w'.cell? ⟨ab, ao + k * 5 + 4, none⟩ = some (.slice ra c.rows.length cr))
          (first | exact hS0 | exact hS _ hb8 | exact hS _ hb9)
          (first
            | (go_at_call 92
               refine (sproject _ c _ _ _ xs _ (ConR.on HC.out hbd) (IntR.on (IntR.on GX.out hX) hbd) Q2.out (by have := Q1.out; omega)).mono ?_
               rintro e Wq ⟨vw, rfl, ow, hBq⟩
               obtain ⟨B2, d2, rfl, rw2, -⟩ := IntR.of_own ow.1 ow.2
               have hb8 := bgo hbd hBq
               clear hBq ow)
            | (go_at_call 91
               refine (ssatisfies _ c _ _ _ (wordF c.vars xs) _ (ConR.on HC.out hb8) rw2 hok.out).mono ?_
               rintro e W9 ⟨rfl, hBq⟩
               have hb9 := bgo hb8 hBq
               have T2 : satF c (wordF c.vars xs) = false := T1.out
               clear hBq))
        have hq5 := own_below hq.out hb9
        have hb6 := bgo hX hb9
        have hz6 := hb6.size
        go_wp2_with (at_builtin; refine wpList_append_own _ rfl _ _ 23 rfl wa.heap.size 3 i0 _ 1 8 Try.underlying23 hi0 hz0 hz1 hz2 rfl (by decide) v _ _ rfl (hq5.alloc _) ⟨W9.heap.size, 0, none⟩ 1 1 [.int .i64 k] rfl rfl (cell_one_new _ _ _) (by simp [Value.oneCell']) (by unfold maxLen; omega) (by omega) (by rw [size_alloc_]; omega) ?_; intro v1 w7 hown hgr _)
        have hr1 := hq5.lt
        have hb7 : Below wa.heap.size wa w7 := (hb6.alloc hb6.size _).grown hgr (by rw [size_alloc_]; omega) (fun g hg => (hr1 g hg).1)
        have hown2 : w7.ownsRow wa.heap.size 3 1 v1 (vioTo m xs (k + 1)).length ((vioTo m xs (k + 1)).map (.int .i64)) := by rw [HS.out]; simpa using hown
        clear hown hgr
        go_roundw
        case rel => exact ⟨k + 1, v1, by omega, by go_num, rfl, hown2, hb7⟩
        case measure => simp [intOf]; omega
      · have T1 := Lib.hid t1
        have HS := Lib.hid (vioTo_yes (HAT.out.trans t1))
        clear t1
        go_wp2_with fail
        go_region_held3 (fun w' => w'.cell? ⟨w.heap.size, 1, none⟩ = some (.slice (some ⟨ab, ao, none⟩) m.cons.length cc) ∧ w'.cell? ⟨ab, ao + k * 5, none⟩ = some (.int .i64 c.kind) ∧ w'.cell? ⟨ab, ao + k * 5 + 1, none⟩ = some (.slice va c.vars.length cv) ∧ w'.cell? ⟨ab, ao + k * 5 + 2, none⟩ = some (.slice aa c.args.length ca') ∧ w'.cell? ⟨ab, ao + k * 5 + 3, none⟩ = some (.int .i64 c.bound) ∧ w'.cell? ⟨ab, ao + k * 5 + 4, none⟩ = some (.slice ra c.rows.length cr))
          (first | exact hS0 | exact hS _ hb8 | exact hS _ hb9)
          (first
            | (go_at_call 92
               refine (sproject _ c _ _ _ xs _ (ConR.on HC.out hbd) (IntR.on (IntR.on GX.out hX) hbd) Q2.out (by have := Q1.out; omega)).mono ?_
               rintro e Wq ⟨vw, rfl, ow, hBq⟩
               obtain ⟨B2, d2, rfl, rw2, -⟩ := IntR.of_own ow.1 ow.2
               have hb8 := bgo hbd hBq
               clear hBq ow)
            | (go_at_call 91
               refine (ssatisfies _ c _ _ _ (wordF c.vars xs) _ (ConR.on HC.out hb8) rw2 hok.out).mono ?_
               rintro e W9 ⟨rfl, hBq⟩
               have hb9 := bgo hb8 hBq
               have T2 : satF c (wordF c.vars xs) = true := T1.out
               clear hBq))
        have hq5 := own_below hq.out hb9
        have hb6 := bgo hX hb9
        go_wp2_with fail
        go_roundw
        case rel => exact ⟨k + 1, v, by omega, by go_num, rfl, by rw [HS.out]; exact hq5, hb6⟩
        case measure => simp [intOf]; omega
    · obtain rfl : k = m.cons.length := by omega
      have HQ := Lib.hid ((OwnI.stays 3).base _ _ w.heap.size _ _ (by omega) (show OwnI 3 wr wa.heap.size v (vioTo m xs m.cons.length) from ⟨hq.out, by omega⟩))
      clear hq
      go_wp2_with fail
      go_ret
      exact ⟨_, rfl, HQ.out, bgo hb0 hX⟩
set_option maxHeartbeats 4000000 in
theorem svalidAssignment (us : List Value) (m : Mod) (A : Option Addr) (n d : Nat) (xs : List Int) (w : World) (h : ModR w w.heap.size us m) (hx : IntR w w.heap.size A n xs) :
    Calls Try.prog 78 #[.agg us.toArray, .slice A n d] w fun e w' => e = .returned (.bool (asgF xs m.doms.length)) ∧ Below w.heap.size w w' := by
  have hl := Lib.hid hx.len
  obtain ⟨da, ca, cd, cc, rfl, -⟩ := h
  obtain ⟨wa, hwa⟩ : ∃ wa, wa = w.alloc (.cells #[.slice da m.doms.length cd, .slice ca m.cons.length cc] 26) := ⟨_, rfl⟩
  have hb0 : Below w.heap.size w wa := by rw [hwa]; exact b_alloc _ _
  have HX := Lib.hid (IntR.on hx hb0)
  clear hx
  cases t1 : ((n : Int) == (m.doms.length : Int))
  · have HE := Lib.hid (show asgF xs m.doms.length = false by unfold asgF; rw [hl.out, t1]; rfl)
    go_enter Try.func78, Try.ntmps78
    go_wp2_with fail
    rw [← hwa]
    go_ret
    exact ⟨ret_bool HE.out.symm, hb0⟩
  · have HE := Lib.hid (show asgF xs m.doms.length = xs.all fun x => inB x 0 5 by unfold asgF; rw [hl.out, t1]; rfl)
    go_enter Try.func78, Try.ntmps78
    go_wp2_with fail
    rw [← hwa]
    clear hwa
    refine (allInRange _ _ _ _ _ _ _ HX.out).mono ?_
    rintro e w1 ⟨rfl, hb1⟩
    clear t1
    go_wp2_with fail
    go_ret
    exact ⟨ret_bool HE.out.symm, bgo hb0 hb1⟩
set_option maxHeartbeats 4000000 in
theorem sViolated (us : List Value) (m : Mod) (A : Option Addr) (n d : Nat) (xs : List Int) (w : World) (h : ModR w w.heap.size us m) (hx : IntR w w.heap.size A n xs) :
    Calls Try.prog 38 #[.agg us.toArray, .slice A n d] w fun e w' => ∃ v, e = .returned v ∧ w'.ownsRow w.heap.size 3 1 v (vioF m xs).length ((vioF m xs).map (.int .i64)) ∧ Below w.heap.size w w' := by
  have H0 := Lib.hid h
  obtain ⟨da, ca, cd, cc, rfl, -⟩ := h
  obtain ⟨wa, hwa⟩ : ∃ wa, wa = w.alloc (.cells #[.slice da m.doms.length cd, .slice ca m.cons.length cc] 26) := ⟨_, rfl⟩
  have hb0 : Below w.heap.size w wa := by rw [hwa]; exact b_alloc _ _
  have hsz : wa.heap.size = w.heap.size + 1 := by rw [hwa, size_alloc_]
  have ha : TBlk 26 wa w.heap.size #[.slice da m.doms.length cd, .slice ca m.cons.length cc] := by rw [hwa]; exact TBlk.new _ _ _
  have HA := Lib.hid ha
  have G0 := Lib.hid (ModR.on H0.out hb0)
  have GX := Lib.hid (IntR.on hx hb0)
  have hl := Lib.hid hx.len
  have a0 : wa.cell? ⟨w.heap.size, 0, none⟩ = some (.slice da m.doms.length cd) := ha.at_ 0 rfl
  have a1 : wa.cell? ⟨w.heap.size, 1, none⟩ = some (.slice ca m.cons.length cc) := ha.at_ 1 rfl
  clear ha hx
  go_enter Try.func38, Try.ntmps38
  go_wp2_with fail
  rw [← hwa]
  clear hwa
  refine (svalidModel _ m _ G0.out).mono ?_
  rintro e w1 ⟨rfl, hb1⟩
  have a0 : w1.cell? ⟨w.heap.size, 0, none⟩ = some (.slice da m.doms.length cd) := (HA.out.below_ hb1 (by omega)).at_ 0 rfl
  have a1 : w1.cell? ⟨w.heap.size, 1, none⟩ = some (.slice ca m.cons.length cc) := (HA.out.below_ hb1 (by omega)).at_ 1 rfl
  cases t0 : vmodF m
  · have HE := Lib.hid (vioF_no1 (xs := xs) t0)
    clear t0
    go_wp2_with fail
    go_ret
    exact ⟨_, rfl, by rw [HE.out]; exact World.ownsRow_nil _ _ _ _, bgo hb0 hb1⟩
  have T0 := Lib.hid t0
  clear t0
  go_wp2_with fail
  refine (svalidAssignment _ m _ _ _ xs _ (ModR.on G0.out hb1) (IntR.on GX.out hb1)).mono ?_
  rintro e wo ⟨rfl, hb2⟩
  have hb12 := bgo hb1 hb2
  have hzo := hb12.size
  have a0 : wo.cell? ⟨w.heap.size, 0, none⟩ = some (.slice da m.doms.length cd) := (HA.out.below_ hb12 (by omega)).at_ 0 rfl
  have a1 : wo.cell? ⟨w.heap.size, 1, none⟩ = some (.slice ca m.cons.length cc) := (HA.out.below_ hb12 (by omega)).at_ 1 rfl
  cases t1 : asgF xs m.doms.length
  · have HE := Lib.hid (vioF_no2 t1)
    clear t1
    go_wp2_with fail
    go_ret
    exact ⟨_, rfl, by rw [HE.out]; exact World.ownsRow_nil _ _ _ _, bgo hb0 hb12⟩
  have T1 := Lib.hid t1
  have HE := Lib.hid (vioF_yes T0.out t1)
  clear t1
  go_wp2_with fail
  refine (sviolated _ m _ _ _ xs _ (ModR.on G0.out hb12) (IntR.on GX.out hb12) (ModOk.of T0.out) (by rw [← hl.out, (asg_all T1.out).1]) (asg_all T1.out).2).mono ?_
  rintro e w3 ⟨v, rfl, ho, hb3⟩
  have HO := Lib.hid (own_base ho.1 (base' := w.heap.size) (by have := hb0.size; omega))
  clear ho
  go_wp2_with fail
  go_ret
  exact ⟨_, rfl, by rw [HE.out]; exact HO.out, bgo hb0 (bgo hb12 hb3)⟩
end Go.Proofs.Ytejfnkbdmlijbaa
