/- FnIsSolution: for every input the law returns true and its arguments read as before; no further condition. -/
import Derived.Test.YtejfnkbdmlijbaaRows
import Derived.WalkKit
import Derived.ProofKit
import Derived.OpenShut
import Derived.Carry
import Derived.StillTailTactics
import Derived.Test.YtejfnkbdmlijbaaSolve
import Derived.Test.YtejfnkbdmlijbaaSolI
import Derived.Test.YtejfnkbdmlijbaaSolS
import Derived.Test.YtejfnkbdmlijbaaVio
import Derived.Test.YtejfnkbdmlijbaaOpenC
namespace Go.Proofs.Ytejfnkbdmlijbaa.fnIsSolution
open Go.ChangeShapes Go.WideShapes Go.ChangeAt Go.RowKit
open Go.Shelf
set_option linter.unusedVariables false
set_option maxRecDepth 100000

theorem own : ownKnob Try.prog.godebug = none := by kernel_rfl
theorem laid : laidOutB Try.prog = true := by kernel_rfl

theorem hT2 {w w' : World} {b : Nat} {x0 x1 : Value} (h : TBlk 26 w b #[x0, x1]) (hb : Below w.heap.size w w') :
    TBlk 26 w' b #[x0, x1] ∧ w'.cell? ⟨b, 0, none⟩ = some x0 ∧ w'.cell? ⟨b, 1, none⟩ = some x1 := by
  have t := h.below_ hb h.lt
  exact ⟨t, t.at_ 0 rfl, t.at_ 1 rfl⟩
/-- every value of xs, of the first k, lies in its domain. -/
def insF (m : Mod) (xs : List Int) (k : Nat) : Bool := (List.range k).all fun i => vdB (gat m.doms i) && dhB (gat m.doms i) (gat xs i)
theorem ins_succ (m : Mod) (xs : List Int) (k : Nat) : insF m xs (k + 1) = (insF m xs k && (vdB (gat m.doms k) && dhB (gat m.doms k) (gat xs k))) := by
  simp [insF, List.range_succ]
theorem vio_zero (m : Mod) (xs : List Int) : ∀ k, (vioTo m xs k).length = 0 ↔ ∀ i, i < k → holdAt m xs i = true
  | 0 => by simp [vioTo]
  | k + 1 => by
    show (if holdAt m xs k = true then vioTo m xs k else vioTo m xs k ++ [(k : Int)]).length = 0 ↔ _
    split
    · next h =>
      rw [vio_zero m xs k]
      exact ⟨fun g i hi => by
        by_cases e : i = k
        · rw [e]; exact h
        · exact g i (by omega), fun g i hi => g i (by omega)⟩
    · next h =>
      constructor
      · intro g; rw [List.length_append] at g; simp at g
      · intro g; exact absurd (g k (by omega)) h
theorem sol_law {m : Mod} {xs : List Int} (hv : vmodF m = true) (hl : xs.length = m.doms.length) : isF m xs = (insF m xs xs.length && (vioF m xs).length == 0) := by
  have hd : ∀ i, i < xs.length → vdB (gat m.doms i) = true := fun i hi => by
    unfold vmodF at hv
    simp only [Bool.and_eq_true, List.all_eq_true] at hv
    exact hv.1 _ (gat_in (by omega))
  cases ha : asgF xs m.doms.length
  · have h2 : insF m xs xs.length = false := by
      unfold asgF at ha
      rw [hl, beq_self_eq_true, Bool.true_and, List.all_eq_false] at ha
      obtain ⟨x, hx, hb⟩ := ha
      obtain ⟨i, hi, e⟩ := List.getElem_of_mem hx
      unfold insF
      rw [List.all_eq_false]
      refine ⟨i, List.mem_range.2 hi, ?_⟩
      rw [gat_eq (l := xs) (x := x) (by rw [List.getElem?_eq_getElem hi, e])]
      unfold dhB
      simp at hb
      simp [hb]
    rw [h2]
    unfold isF
    rw [ha]
    simp
  · have h1 : insF m xs xs.length = domsF m xs := by
      obtain ⟨-, h5⟩ := asg_all ha
      unfold insF domsF
      rw [Bool.eq_iff_iff, List.all_eq_true, List.all_eq_true]
      refine forall_congr' fun i => forall_congr' fun hi => ?_
      have hi2 := List.mem_range.1 hi
      have h6 := h5 _ (gat_in hi2)
      rw [hd i hi2]
      unfold dhB
      rw [show inB (gat xs i) 0 5 = true from by unfold inB; simp; omega]
      simp
    rw [h1, vioF_yes hv ha]
    unfold isF isolF
    rw [hv, ha, Bool.true_and, Bool.true_and]
    congr 1
    rw [Bool.eq_iff_iff, List.all_eq_true, beq_iff_eq, vio_zero]
    constructor
    · intro g i hi
      rw [holdAt_eq (List.getElem?_eq_getElem hi)]
      exact g _ (List.getElem_mem hi)
    · intro g c hc
      obtain ⟨i, hi, e⟩ := List.getElem_of_mem hc
      have := g i hi
      rwa [holdAt_eq (List.getElem?_eq_getElem hi), e] at this
theorem iValidModel_b (us : List Value) (m : Mod) (w : World) (b : Bool) (hb : vmodF m = b) (h : ModR w w.heap.size us m) :
    Calls Try.prog 18 #[.agg us.toArray] w fun e w' => e = .returned (.bool b) ∧ Below w.heap.size w w' := by
  subst hb; exact iValidModel us m w h
theorem iIsSolution_b (us : List Value) (m : Mod) (A : Option Addr) (n d : Nat) (xs : List Int) (w : World) (b : Bool) (hb : isF m xs = b) (h : ModR w w.heap.size us m) (hx : IntR w w.heap.size A n xs) :
    Calls Try.prog 11 #[.agg us.toArray, .slice A n d] w fun e w' => e = .returned (.bool b) ∧ Below w.heap.size w w' := by
  subst hb; exact iIsSolution us m A n d xs w h hx
theorem sIsSolution_b (us : List Value) (m : Mod) (A : Option Addr) (n d : Nat) (xs : List Int) (w : World) (b : Bool) (hb : isF m xs = b) (h : ModR w w.heap.size us m) (hx : IntR w w.heap.size A n xs) :
    Calls Try.prog 12 #[.agg us.toArray, .slice A n d] w fun e w' => e = .returned (.bool b) ∧ Below w.heap.size w w' := by
  subst hb; exact sIsSolution us m A n d xs w h hx
theorem iDomainHas_b (d v : Int) (w : World) (b : Bool) (hb : (vdB d && dhB d v) = b) :
    Calls Try.prog 39 #[.int .i64 d, .int .i64 v] w fun e w' => e = .returned (.bool b) ∧ w = w' := by
  subst hb; exact iDomainHas d v w
theorem lequalInts_s (A B : Option Addr) (n c d : Nat) (xs : List Int) (w : World) (hx : IntR w w.heap.size A n xs) (hy : IntR w w.heap.size B n xs) :
    Calls Try.prog 23 #[.slice A n c, .slice B n d] w fun e w' => e = .returned (.bool true) ∧ Below w.heap.size w w' :=
  (lequalInts A B n n c d xs xs w hx hy).mono fun e w' ⟨he, hb⟩ => ⟨by rw [he, decide_eq_true rfl], hb⟩
theorem hold_int {w : World} {base : Nat} {v : Value} {V : List Int} (h : HoldR w base 3 1 v V.length (V.map (.int .i64))) (hV : V.length ≤ 4096) : ∃ A c, v = .slice A V.length c ∧ IntR w w.heap.size A V.length V := IntR.of_hold h (by omega)
theorem vio_small (m : Mod) (xs : List Int) (h : m.cons.length ≤ 4) : (vioF m xs).length ≤ 4096 := by
  unfold vioF
  split
  · have := vioTo_len m xs m.cons.length; omega
  · simp
set_option maxHeartbeats 1500000 in
theorem walk {W : World} (A0 : Option Addr) (n0 c0 : Nat) (xs0 : List Int) (g0 : CodeA W W.heap.size A0 n0 c0 xs0) :
    Calls Try.prog 9 #[.slice A0 n0 c0] W fun e w' => e = .returned (.bool true) ∧ Below W.heap.size W w' := by
  by_cases hlen : (1048576 : Int) < (n0 : Int)
  · have hd : decide ((1048576 : Int) < (n0 : Int)) = true := decide_eq_true hlen
    clear hlen
    go_enter Try.func9, Try.ntmps9
    go_wp2_with fail
    go_ret
    exact ⟨rfl, Below.refl _ _⟩
  have hd : decide ((1048576 : Int) < (n0 : Int)) = false := decide_eq_false hlen
  go_enter Try.func9, Try.ntmps9
  go_wp2_with fail
  refine (drawIsSolution _ _ _ _ _ g0).mono ?_
  rintro e W1 ⟨vs, m, vx, xs, rfl, hom, hox, hsz, hx5, c0⟩
  obtain ⟨vs', e1, hmr⟩ := OwnMod.read hom
  obtain rfl : vs = vs' := by injection e1 with e1; exact List.toArray_inj e1
  obtain ⟨Ad, Ac, cd, cc, rfl, hid, -, -, -⟩ := id hmr
  obtain ⟨Ax, cx, rfl, hxr⟩ := hox.read
  obtain ⟨nd, hnd⟩ : ∃ nd, m.doms.length = nd := ⟨_, rfl⟩
  obtain ⟨nc, hnc⟩ : ∃ nc, m.cons.length = nc := ⟨_, rfl⟩
  obtain ⟨nx, hnx⟩ : ∃ nx, xs.length = nx := ⟨_, rfl⟩
  have HSZ := Lib.hid hsz
  have HND := Lib.hid hnd
  have HNX := Lib.hid hnx
  rw [hnd] at hid hmr
  rw [hnc] at hmr
  rw [hnx] at hxr hx5
  have hnd4 : nd ≤ 4 := by rw [← hnd]; exact hsz.2.1
  obtain ⟨W2, hW2⟩ : ∃ W2, W1.alloc (.cells #[.slice Ad nd cd, .slice Ac nc cc] 26) = W2 := ⟨_, rfl⟩
  have hB2 : Below W1.heap.size W1 W2 := by rw [← hW2]; exact b_alloc _ _
  have HM2 : Hid (TBlk 26 W2 W1.heap.size #[.slice Ad nd cd, .slice Ac nc cc]) := by rw [← hW2]; exact Lib.hid (TBlk.new _ _ _)
  obtain ⟨-, x0, x1⟩ := hT2 HM2.out (Below.refl _ _)
  have HMR := Lib.hid hmr
  have HXR := Lib.hid hxr
  have HID := Lib.hid hid
  have HB12 := Lib.hid hB2
  have HB2 := Lib.hid (bgo c0 hB2)
  have hwl : W1.heap.size < W2.heap.size := HM2.out.lt
  have hlV := vio_small m xs hsz.2.2.1
  clear hom hmr hB2 c0 e1 hsz hid hxr hox
  rw [hnd, hnc, hnx]
  clear hnd hnc hnx
  go_wp2_with fail
  clear hW2
  obtain ⟨S, hS⟩ : ∃ S, isF m xs = S := ⟨_, rfl⟩
  have HS := Lib.hid hS
  obtain ⟨V, hV⟩ : ∃ V, vioF m xs = V := ⟨_, rfl⟩
  have HV := Lib.hid hV
  rw [hV] at hlV
  clear hS hV
  refine (iIsSolution_b _ m _ _ _ xs W2 S HS.out (ModR.on HMR.out HB12.out) (IntR.on HXR.out HB12.out)).mono ?_
  rintro e W3 ⟨rfl, hB⟩
  have HB13 := Lib.hid (bgo HB12.out hB)
  have HB3 := Lib.hid (bgo HB2.out hB)
  clear x0 x1
  obtain ⟨t3, x0, x1⟩ := hT2 HM2.out hB
  have HM3 := Lib.hid t3
  clear hB t3 HM2 HB12 HB2
  go_wp2_with fail
  refine (iViolated _ m _ _ _ xs W3 (ModR.on HMR.out HB13.out) (IntR.on HXR.out HB13.out)).mono ?_
  rintro e W4 ⟨v4, rfl, r4, hB⟩
  rw [HV.out] at r4
  obtain ⟨A4, c4, rfl, i4⟩ := hold_int r4 hlV
  obtain ⟨nv, hnv⟩ : ∃ nv, V.length = nv := ⟨_, rfl⟩
  have HNV := Lib.hid hnv
  rw [hnv] at i4 ⊢
  have HR4 := Lib.hid i4
  have HB14 := Lib.hid (bgo HB13.out hB)
  have HB4 := Lib.hid (bgo HB3.out hB)
  clear x0 x1
  obtain ⟨t4, x0, x1⟩ := hT2 HM3.out hB
  have HM4 := Lib.hid t4
  clear hB t4 HM3 HB13 HB3 r4 i4 hnv
  go_wp2_with fail
  refine (sIsSolution_b _ m _ _ _ xs W4 S HS.out (ModR.on HMR.out HB14.out) (IntR.on HXR.out HB14.out)).mono ?_
  rintro e W5 ⟨rfl, hB⟩
  have HR5 := Lib.hid (IntR.on HR4.out hB)
  have HB15 := Lib.hid (bgo HB14.out hB)
  have HB5 := Lib.hid (bgo HB4.out hB)
  clear x0 x1
  obtain ⟨t5, x0, x1⟩ := hT2 HM4.out hB
  have HM5 := Lib.hid t5
  clear hB t5 HM4 HB14 HB4 HR4
  have hss : (S == S) = true := beq_self_eq_true _
  go_wp2_with fail
  refine (sViolated _ m _ _ _ xs W5 (ModR.on HMR.out HB15.out) (IntR.on HXR.out HB15.out)).mono ?_
  rintro e W6 ⟨v6, rfl, r6, hB⟩
  rw [HV.out] at r6
  obtain ⟨A6, c6, rfl, i6⟩ := hold_int (HoldR.of_own r6) hlV
  rw [HNV.out] at i6 ⊢
  have HR6 := Lib.hid i6
  have HR56 := Lib.hid (IntR.on HR5.out hB)
  have HB16 := Lib.hid (bgo HB15.out hB)
  have HB6 := Lib.hid (bgo HB5.out hB)
  clear x0 x1
  obtain ⟨t6, x0, x1⟩ := hT2 HM5.out hB
  have HM6 := Lib.hid t6
  clear hB t6 HM5 HB15 HB5 HR5 r6 i6
  go_wp2_with fail
  refine (lequalInts_s _ _ _ _ _ V W6 HR56.out HR6.out).mono ?_
  rintro e W7 ⟨rfl, hB⟩
  have HR7 := Lib.hid (IntR.on HR56.out hB)
  have HB17 := Lib.hid (bgo HB16.out hB)
  have HB7 := Lib.hid (bgo HB6.out hB)
  clear x0 x1
  obtain ⟨t7, x0, x1⟩ := hT2 HM6.out hB
  have HM7 := Lib.hid t7
  clear hB t7 HM6 HB16 HB6 HR56 HR6
  cases hvm : vmodF m
  · have HVM := Lib.hid hvm
    clear hvm
    go_wp2_with fail
    refine (iValidModel_b _ m W7 false HVM.out (ModR.on HMR.out HB17.out)).mono ?_
    rintro e W8 ⟨rfl, hB⟩
    have HR8 := Lib.hid (IntR.on HR7.out hB)
    have HB18 := Lib.hid (bgo HB17.out hB)
    have HB8 := Lib.hid (bgo HB7.out hB)
    clear x0 x1
    obtain ⟨t8, x0, x1⟩ := hT2 HM7.out hB
    have HM8 := Lib.hid t8
    clear hB t8 HM7 HB17 HB7 HR7
    go_wp2_with fail
    refine (sIsSolution_b _ m _ _ _ xs W8 S HS.out (ModR.on HMR.out HB18.out) (IntR.on HXR.out HB18.out)).mono ?_
    rintro e W9 ⟨rfl, hB⟩
    have HR9 := Lib.hid (IntR.on HR8.out hB)
    have HB19 := Lib.hid (bgo HB18.out hB)
    have HB9 := Lib.hid (bgo HB8.out hB)
    clear x0 x1
    obtain ⟨t9, x0, x1⟩ := hT2 HM8.out hB
    clear hB t9 HM8 HB18 HB8 HR8
    go_wp2_with fail
    refine (sViolated _ m _ _ _ xs W9 (ModR.on HMR.out HB19.out) (IntR.on HXR.out HB19.out)).mono ?_
    rintro e W10 ⟨v10, rfl, r10, hB⟩
    rw [HV.out] at r10
    obtain ⟨A10, c10, rfl, i10⟩ := hold_int (HoldR.of_own r10) hlV
    rw [HNV.out] at i10 ⊢
    have HR10 := Lib.hid i10
    have HR910 := Lib.hid (IntR.on HR9.out hB)
    have HB10 := Lib.hid (bgo HB9.out hB)
    clear x0 x1 hB HB19 HB9 HR9 r10 i10
    go_wp2_with fail
    refine (lequalInts_s _ _ _ _ _ V W10 HR910.out HR10.out).mono ?_
    rintro e W11 ⟨rfl, hB⟩
    go_wp2_with fail
    go_ret
    exact ⟨rfl, bgo HB10.out hB⟩
  have HVM := Lib.hid hvm
  clear hvm
  go_wp2_with fail
  refine (iValidModel_b _ m W7 true HVM.out (ModR.on HMR.out HB17.out)).mono ?_
  rintro e W8 ⟨rfl, hB⟩
  have HR8 := Lib.hid (IntR.on HR7.out hB)
  have HB18 := Lib.hid (bgo HB17.out hB)
  have HB8 := Lib.hid (bgo HB7.out hB)
  clear x0 x1
  obtain ⟨t8, x0, x1⟩ := hT2 HM7.out hB
  have HM8 := Lib.hid t8
  clear hB t8 HM7 HB17 HB7 HR7
  by_cases hlx : nx = nd
  case neg =>
    have hl1 : ((nx : Int) == (nd : Int)) = false := by simp; omega
    have hl2 : (nx == nd) = false := by simp; omega
    clear hlx
    go_wp2_with fail
    refine (sIsSolution_b _ m _ _ _ xs W8 S HS.out (ModR.on HMR.out HB18.out) (IntR.on HXR.out HB18.out)).mono ?_
    rintro e W9 ⟨rfl, hB⟩
    have HR9 := Lib.hid (IntR.on HR8.out hB)
    have HB19 := Lib.hid (bgo HB18.out hB)
    have HB9 := Lib.hid (bgo HB8.out hB)
    clear x0 x1
    obtain ⟨t9, x0, x1⟩ := hT2 HM8.out hB
    clear hB t9 HM8 HB18 HB8 HR8
    go_wp2_with fail
    refine (sViolated _ m _ _ _ xs W9 (ModR.on HMR.out HB19.out) (IntR.on HXR.out HB19.out)).mono ?_
    rintro e W10 ⟨v10, rfl, r10, hB⟩
    rw [HV.out] at r10
    obtain ⟨A10, c10, rfl, i10⟩ := hold_int (HoldR.of_own r10) hlV
    rw [HNV.out] at i10 ⊢
    have HR10 := Lib.hid i10
    have HR910 := Lib.hid (IntR.on HR9.out hB)
    have HB10 := Lib.hid (bgo HB9.out hB)
    clear x0 x1 hB HB19 HB9 HR9 r10 i10
    go_wp2_with fail
    refine (lequalInts_s _ _ _ _ _ V W10 HR910.out HR10.out).mono ?_
    rintro e W11 ⟨rfl, hB⟩
    go_wp2_with fail
    go_ret
    exact ⟨rfl, bgo HB10.out hB⟩
  subst hlx
  have hl1 : ((nx : Int) == (nx : Int)) = true := beq_self_eq_true _
  go_wp2_with fail
  go_loopw [8, 7] (fun i ins wr => ∃ k : Nat, k ≤ nx ∧ i = .int .i64 k ∧ ins = .bool (insF m xs k) ∧ Below W8.heap.size W8 wr) (fun i _ _ => nx - (intOf i).toNat)
  case atStart => exact ⟨0, by omega, rfl, rfl, Below.refl _ _⟩
  case round =>
    obtain ⟨k, hk, rfl, rfl, hBk⟩ := hrel
    rename World => wr
    by_cases hlt : k < nx
    · obtain ⟨b1, o1, d1, rfl, hb1, hd1, q1⟩ := IntR.at_ (IntR.on HID.out (bgo HB18.out hBk)) hlt
      obtain ⟨b2, o2, v2, rfl, hb2, hd2, q2⟩ := IntR.at_ (IntR.on HXR.out (bgo HB18.out hBk)) hlt
      have xr := (hT2 HM8.out hBk).2.1
      have hwr := hBk.size
      have hw8 := HM8.out.lt
      have f0 : ∀ p : Later wr, p.val.cell? ⟨W1.heap.size, 0, none⟩ = some (.slice (some ⟨b1, o1, none⟩) nx cd) := fun p => p.cell (by omega) xr
      have f1 : ∀ p : Later wr, p.val.cell? ⟨b1, o1 + k, none⟩ = some (.int .i64 d1) := fun p => p.cell hb1 q1
      have f2 : ∀ p : Later wr, p.val.cell? ⟨b2, o2 + k, none⟩ = some (.int .i64 v2) := fun p => p.cell hb2 q2
      have HI := Lib.hid (show insF m xs (k + 1) = (insF m xs k && (vdB d1 && dhB d1 v2)) by rw [ins_succ, gat_eq hd1, gat_eq hd2])
      clear hd1 hd2 q1 q2 x0 x1 xr
      cases hin : insF m xs k
      · rw [hin] at HI
        clear hin
        go_wp2_with fail
        refine wp_region_later (by kernel_rfl) (by kernel_rfl) ?_
        repeat (go_big_quiet_step (fail))
        refine wpQuiet_nil ?_
        intro w5 hw'
        obtain ⟨⟨w6, hb5⟩, hw''⟩ := hw'
        subst hw''
        go_wp2_with fail
        go_roundw
        case rel => exact ⟨k + 1, by omega, by go_num, by rw [HI.out]; rfl, bgo hBk hb5⟩
        case measure => simp [intOf]; omega
      · rw [hin] at HI
        clear hin
        cases hq : (vdB d1 && dhB d1 v2)
        · have HQ := Lib.hid hq
          clear hq
          go_wp2_with fail
          refine wp_region_later (by kernel_rfl) (by kernel_rfl) ?_
          repeat (go_big_quiet_step (first | (go_at_call 39; exact calls_later_same (iDomainHas_b _ _ _ _ HQ.out))))
          refine wpQuiet_nil ?_
          intro w5 hw'
          obtain ⟨⟨w6, hb5⟩, hw''⟩ := hw'
          subst hw''
          go_wp2_with fail
          go_roundw
          case rel => exact ⟨k + 1, by omega, by go_num, by rw [HI.out, HQ.out]; rfl, bgo hBk hb5⟩
          case measure => simp [intOf]; omega
        · have HQ := Lib.hid hq
          clear hq
          go_wp2_with fail
          refine wp_region_later (by kernel_rfl) (by kernel_rfl) ?_
          repeat (go_big_quiet_step (first | (go_at_call 39; exact calls_later_same (iDomainHas_b _ _ _ _ HQ.out))))
          refine wpQuiet_nil ?_
          intro w5 hw'
          obtain ⟨⟨w6, hb5⟩, hw''⟩ := hw'
          subst hw''
          go_wp2_with fail
          go_roundw
          case rel => exact ⟨k + 1, by omega, by go_num, by rw [HI.out, HQ.out]; rfl, bgo hBk hb5⟩
          case measure => simp [intOf]; omega
    · obtain rfl : k = nx := by omega
      have hvS : S = (insF m xs k && (nv == 0)) := by rw [← HS.out, sol_law HVM.out (by rw [HNX.out, HND.out]), HV.out, HNV.out, HNX.out]
      have HBk := Lib.hid hBk
      have HHS := Lib.hid hvS
      clear x0 x1 hvS hBk
      cases hin : insF m xs k
      · rw [hin] at HHS
        obtain rfl : S = false := HHS.out
        clear hin
        go_wp2_with fail
        go_ret
        exact ⟨rfl, bgo HB8.out HBk.out⟩
      · rw [hin] at HHS
        clear hin
        by_cases hz : nv = 0
        · have hz1 : ((nv : Int) == 0) = true := by simp; omega
          have hz2 : (nv == 0) = true := by simp; omega
          obtain rfl : S = true := by rw [HHS.out, hz2]; rfl
          clear hz
          go_wp2_with fail
          go_ret
          exact ⟨rfl, bgo HB8.out HBk.out⟩
        · have hz1 : ((nv : Int) == 0) = false := by simp; omega
          have hz2 : (nv == 0) = false := by simp; omega
          obtain rfl : S = false := by rw [HHS.out, hz2]; rfl
          clear hz
          go_wp2_with fail
          go_ret
          exact ⟨rfl, bgo HB8.out HBk.out⟩

set_option maxRecDepth 100000 in
theorem lifted (os : Os) (started : os.Started) (H : Type) (enc : TypeId × Value → H) :
    ReturnsInHanded {} Try.checked os 9 .any (Rows.fnIsSolutionSpec.pre6 enc Try.prog Try.f9 Rows.fnIsSolutionRow.domain false) (Rows.fnIsSolutionSpec.post enc Try.prog Try.f9 false true false false) := by
  refine returnsInHanded_of_change (C := Try.checked) own started (by kernel_rfl) Try.func9
    (ChangeSpec.witness6 (enc := enc) (C := Try.checked) false ⟨#[], #[.slice none 0 0], []⟩ 8 (by kernel_rfl) (by kernel_rfl) (by kernel_rfl) (by kernel_rfl)) ?_
  intro W base args ds gs before hval0 hW hcnd _
  have hval : ∀ (j : Nat) t v, Try.f9.params[j]? = some t → args[j]? = some v → Value.okWide Try.prog W .any base t v := hval0
  have hW' := hW
  obtain ⟨p, q, hA0, hV, rfl, hfz, hnd⟩ := hW
  have hA : DataW.TrodAll enc Try.prog W 0 (fun _ => true) true Try.f9.params.toList args.toList ds p := hA0
  rw [Try.params9] at hA hval
  obtain ⟨v0, vs0, d0, ds0, p0, q0, hargs, rfl, rfl, h0, r0⟩ := trodAll_cons hA
  obtain ⟨rfl, rfl, rfl⟩ := trodAll_nil r0
  obtain rfl : args = #[v0] := by cases args; simp_all
  obtain ⟨rfl, rfl⟩ := trodVars_none hV
  have k0 := h0
  have l0 : ∀ x ∈ p0, x.block < W.heap.size := fun x hx => hW'.lt x (by simp [hx])
  obtain ⟨A0, n0, c0, xs0, rfl, g0⟩ := open_byteS Try.underlying22 Try.underlying5 (by kernel_rfl) (hval 0 22 v0 rfl rfl) k0
  clear hA0 hval0
  refine (walk A0 n0 c0 xs0 g0).mono fun e W' ⟨he, hb⟩ => ?_
  subst he
  exact ⟨_, rfl, _, _, _, [], _, [], hW', trodAll_cons_mk (p := []) (shut_bool Try.underlying4 _) trodAll_mk0, (trodAll_cons_mk (Below.trod laid (by kernel_rfl) (of_decide_eq_true (by kernel_rfl)) h0 hb l0) trodAll_mk0), rfl, hb.frame _, fun h => by cases h⟩

theorem over : Rows.fnIsSolutionRow.holds Try.pinned (OpenSpec.ofChange Rows.fnIsSolutionSpec) :=
  OpenClaim.holds_of_wide 9 Try.f9 rfl rfl rfl rfl rfl rfl rfl ⟨rfl, rfl, rfl, rfl, rfl⟩ rfl rfl rfl rfl rfl (by kernel_rfl) Try.func9 (by kernel_rfl)
    (of_decide_eq_true (by kernel_rfl)) (by unfold Func.isWrapper; first | (rw [if_pos (by decide +kernel)]; kernel_rfl) | (rw [if_neg (by decide +kernel)]; exact ⟨rfl, rfl⟩))
    (fun os started H enc _ => lifted os started H enc)

/-- The statement. -/
theorem proved : Rows.FnIsSolutionSaid :=
  over
#print axioms proved
end Go.Proofs.Ytejfnkbdmlijbaa.fnIsSolution
