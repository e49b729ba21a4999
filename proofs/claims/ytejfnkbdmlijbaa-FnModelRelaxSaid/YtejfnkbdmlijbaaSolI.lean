/- Solutions of a model, by the program. -/
import Derived.Test.YtejfnkbdmlijbaaSatI
import Derived.Deep.RegionHeld3
namespace Go.Proofs.Ytejfnkbdmlijbaa
open Go.ChangeShapes Go.WideShapes Go.ChangeAt Go.RowKit
open Go.Shelf
set_option linter.unusedVariables false
set_option maxRecDepth 100000

def holdF (c : Con) (xs : List Int) : Bool := satF c (wordF c.vars xs)
theorem vcon_vars {c : Con} {n : Nat} (h : vconF c n = true) (h4 : n ≤ 4) : (1 ≤ c.vars.length ∧ c.vars.length ≤ n) ∧ (∀ v ∈ c.vars, 0 ≤ v ∧ v < (n : Int)) ∧ fitsF c = true := by
  unfold vconF at h
  simp only [Bool.and_eq_true, List.all_eq_true] at h
  have h1 := inB_true h.1
  refine ⟨by omega, fun v hv => ?_, h.2.2.2⟩
  have h2 := inB_true (h.2.1 v hv)
  rw [IntWalk.wrap64_in _ ⟨by omega, by omega⟩] at h2
  omega
theorem SatOk.of {c : Con} {n : Nat} {xs : List Int} (h : vconF c n = true) (h4 : n ≤ 4) (hl : xs.length = n) (hx : ∀ v ∈ xs, 0 ≤ v ∧ v ≤ 5) : SatOk c (wordF c.vars xs) := by
  obtain ⟨h1, h2, h3⟩ := vcon_vars h h4
  refine ⟨wordF_len _ _, by rw [wordF_len]; omega, by rw [wordF_len]; omega, fun v hv => ?_, h3⟩
  unfold wordF at hv
  obtain ⟨u, hu, rfl⟩ := List.mem_map.1 hv
  have := h2 u hu
  exact hx _ (gat_in (by omega))
/-- what a walk over valid models knows. -/
structure ModOk (m : Mod) : Prop where
  doms : ∀ d ∈ m.doms, 0 ≤ d ∧ d ≤ 63
  cons : ∀ c ∈ m.cons, vconF c m.doms.length = true
  one : 1 ≤ m.doms.length
  four : m.doms.length ≤ 4
  six : m.cons.length ≤ 6
theorem ModOk.of {m : Mod} (h : vmodF m = true) : ModOk m := by
  unfold vmodF at h
  simp only [Bool.and_eq_true, List.all_eq_true, decide_eq_true_eq] at h
  have h3 := inB_true h.2.2.1
  exact ⟨fun d hd => inB_true (h.1 d hd), h.2.1, by omega, by omega, by have := h.2.2.2; omega⟩
set_option maxHeartbeats 4000000 in
theorem iholds (us : List Value) (c : Con) (A : Option Addr) (n d : Nat) (xs : List Int) (w : World) (h : ConR w w.heap.size us c) (hx : IntR w w.heap.size A n xs) (hv : vconF c n = true) (h4 : n ≤ 4) (hs : ∀ v ∈ xs, 0 ≤ v ∧ v ≤ 5) :
    Calls Try.prog 77 #[.agg us.toArray, .slice A n d] w fun e w' => e = .returned (.bool (holdF c xs)) ∧ Below w.heap.size w w' := by
  have hok := Lib.hid (SatOk.of hv h4 hx.len hs)
  obtain ⟨q1, q2, q3⟩ := vcon_vars hv h4
  have Q1 := Lib.hid q1
  have Q2 := Lib.hid q2
  obtain ⟨a0, d0, v1, r1, s1, n1, c1, n2, c2, n3, c3, rfl⟩ := h.five
  obtain ⟨wa, hwa⟩ : ∃ wa, wa = w.alloc (.cells #[.int .i64 a0, .slice v1 n1 c1, .slice r1 n2 c2, .int .i64 d0, .slice s1 n3 c3] 35) := ⟨_, rfl⟩
  have hb0 : Below w.heap.size w wa := by rw [hwa]; exact b_alloc _ _
  have hsz : wa.heap.size = w.heap.size + 1 := by rw [hwa, size_alloc_]
  have ha : TBlk 35 wa w.heap.size #[.int .i64 a0, .slice v1 n1 c1, .slice r1 n2 c2, .int .i64 d0, .slice s1 n3 c3] := by rw [hwa]; exact TBlk.new _ _ _
  have H := Lib.hid (ConR.on h hb0)
  have GX := Lib.hid (IntR.on hx hb0)
  have HA := Lib.hid ha
  clear h hx q1 q2 q3 hs ha
  go_enter Try.func77, Try.ntmps77
  go_wp2_with fail
  rw [← hwa]
  clear hwa
  have hS : ∀ w', Below wa.heap.size wa w' → (w'.cell? ⟨w.heap.size, 0, none⟩ = some (.int .i64 a0) ∧ w'.cell? ⟨w.heap.size, 1, none⟩ = some (.slice v1 n1 c1) ∧ w'.cell? ⟨w.heap.size, 2, none⟩ = some (.slice r1 n2 c2) ∧ w'.cell? ⟨w.heap.size, 3, none⟩ = some (.int .i64 d0) ∧ w'.cell? ⟨w.heap.size, 4, none⟩ = some (.slice s1 n3 c3)) := by
    intro w' h
    have k := HA.out.below_ h (by omega)
    exact ⟨k.at_ 0 rfl, k.at_ 1 rfl, k.at_ 2 rfl, k.at_ 3 rfl, k.at_ 4 rfl⟩
  have hbd : Below wa.heap.size wa wa.drew := below_drewN (Below.refl _ _) 1
  have hS0 := hS _ hbd
  go_region_held3 (fun w' => w'.cell? ⟨w.heap.size, 0, none⟩ = some (.int .i64 a0) ∧ w'.cell? ⟨w.heap.size, 1, none⟩ = some (.slice v1 n1 c1) ∧ w'.cell? ⟨w.heap.size, 2, none⟩ = some (.slice r1 n2 c2) ∧ w'.cell? ⟨w.heap.size, 3, none⟩ = some (.int .i64 d0) ∧ w'.cell? ⟨w.heap.size, 4, none⟩ = some (.slice s1 n3 c3))
    (first | exact hS0 | exact hS _ hb8 | exact hS _ hb9)
    (first
      | (go_at_call 104
         refine (iword _ c _ _ _ xs _ (ConR.on H.out hbd) (IntR.on GX.out hbd) Q2.out (by have := Q1.out; omega)).mono ?_
         rintro e Wq ⟨v, rfl, ow, hBq⟩
         obtain ⟨B2, d2, rfl, rw2, -⟩ := IntR.of_own ow.1 ow.2
         have cap2 := own_cap ow.1
         have hb8 := bgo hbd hBq
         clear hBq ow)
      | (go_at_call 105
         refine (isatisfied _ c _ _ _ (wordF c.vars xs) _ (ConR.on H.out hb8) rw2 cap2 hok.out).mono ?_
         rintro e W9 ⟨rfl, hBq⟩
         have hb9 := bgo hb8 hBq
         clear hBq))
  go_wp2_with fail
  go_ret
  exact ⟨rfl, bgo hb0 hb9⟩
def domsF (m : Mod) (xs : List Int) : Bool := (List.range xs.length).all fun i => hasB (gat m.doms i) (gat xs i)
def isolF (m : Mod) (xs : List Int) : Bool := domsF m xs && m.cons.all fun c => holdF c xs
set_option maxHeartbeats 4000000 in
theorem isolC (us : List Value) (c : Con) (b n d : Nat) (A : Option Addr) (xs : List Int) (w : World) (h : ConR w w.heap.size us c) (hx : IntR w w.heap.size A n xs) (h0 : w.cell? ⟨b, 0, none⟩ = some (.slice A n d)) (hbw : b < w.heap.size) (hv : vconF c n = true) (h4 : n ≤ 4) (hs : ∀ v ∈ xs, 0 ≤ v ∧ v ≤ 5) :
    Calls Try.prog 88 (#[.agg us.toArray] ++ #[.pointer (some ⟨b, 0, none⟩)]) w fun e w' => e = .returned (.bool (!holdF c xs)) ∧ Below w.heap.size w w' := by
  have HV := Lib.hid hv
  have HS := Lib.hid hs
  obtain ⟨a0, d0, v1, r1, s1, n1, c1, n2, c2, n3, c3, rfl⟩ := h.five
  obtain ⟨wa, hwa⟩ : ∃ wa, wa = w.alloc (.cells #[.int .i64 a0, .slice v1 n1 c1, .slice r1 n2 c2, .int .i64 d0, .slice s1 n3 c3] 35) := ⟨_, rfl⟩
  have hb0 : Below w.heap.size w wa := by rw [hwa]; exact b_alloc _ _
  have H := Lib.hid (ConR.on h hb0)
  have GX := Lib.hid (IntR.on hx hb0)
  have h1 : (w.alloc (.cells #[.int .i64 a0, .slice v1 n1 c1, .slice r1 n2 c2, .int .i64 d0, .slice s1 n3 c3] 35)).cell? ⟨b, 0, none⟩ = some (.slice A n d) := by rw [← hwa]; exact (hb0.cell (p := ⟨b, 0, none⟩) hbw).trans h0
  clear h hx hv hs
  go_enter Try.func88, Try.ntmps88
  go_wp2_with fail
  rw [← hwa]
  clear hwa h1
  refine (iholds _ c _ _ _ xs _ H.out GX.out HV.out h4 HS.out).mono ?_
  rintro e w1 ⟨rfl, hb1⟩
  go_wp2_with fail
  go_ret
  exact ⟨rfl, bgo hb0 hb1⟩
set_option maxHeartbeats 4000000 in
theorem iisSolution (us : List Value) (m : Mod) (A : Option Addr) (n d : Nat) (xs : List Int) (w : World) (h : ModR w w.heap.size us m) (hx : IntR w w.heap.size A n xs) (hm : ModOk m) (hn : n = m.doms.length) (hs : ∀ v ∈ xs, 0 ≤ v ∧ v ≤ 5) :
    Calls Try.prog 44 #[.agg us.toArray, .slice A n d] w fun e w' => e = .returned (.bool (isolF m xs)) ∧ Below w.heap.size w w' := by
  obtain ⟨da, ca, cd, cc, rfl, g1, g2, -⟩ := h
  rw [← hn] at g1
  rw [← hn]
  obtain ⟨w1, hw1⟩ : ∃ w1, w1 = w.alloc (.cells #[.slice da n cd, .slice ca m.cons.length cc] 26) := ⟨_, rfl⟩
  have hsz1 : w1.heap.size = w.heap.size + 1 := by rw [hw1, size_alloc_]
  have ha1 : TBlk 26 w1 w.heap.size #[.slice da n cd, .slice ca m.cons.length cc] := by rw [hw1]; exact TBlk.new _ _ _
  obtain ⟨wa, hwa⟩ : ∃ wa, wa = w1.alloc (.cells #[.slice A n d] 23) := ⟨_, rfl⟩
  have hb0 : Below w.heap.size w wa := by rw [hwa, hw1]; exact b_alloc2 _ _ _
  have hsz : wa.heap.size = w.heap.size + 1 + 1 := by rw [hwa, size_alloc_, hsz1]
  have ha : TBlk 26 wa w.heap.size #[.slice da n cd, .slice ca m.cons.length cc] := by rw [hwa]; exact ha1.below_ (b_alloc _ _) (by omega)
  have hx1 : TBlk 23 wa (w.heap.size + 1) #[.slice A n d] := by
    have := TBlk.new w1 #[.slice A n d] 23
    rw [hsz1, ← hwa] at this; exact this
  rw [hw1] at hwa
  clear hw1 ha1 hsz1
  have G1 := Lib.hid (IntR.on g1 hb0)
  have G2 := Lib.hid (ConsR.on g2 hb0)
  have GX := Lib.hid (IntR.on hx hb0)
  have hle := hx.le
  have hl := Lib.hid hx.len
  have HM := Lib.hid hm
  have HS := Lib.hid hs
  have HN := Lib.hid hn
  have hn4 : n ≤ 4 := by rw [hn]; exact hm.four
  have a0 : wa.cell? ⟨w.heap.size, 0, none⟩ = some (.slice da n cd) := ha.at_ 0 rfl
  have a1 : wa.cell? ⟨w.heap.size, 1, none⟩ = some (.slice ca m.cons.length cc) := ha.at_ 1 rfl
  have b0 : wa.cell? ⟨w.heap.size + 1, 0, none⟩ = some (.slice A n d) := hx1.at_ 0 rfl
  clear ha hx1 g1 g2 hx hm hs hn
  go_enter Try.func44, Try.ntmps44
  go_wp2_with fail
  rw [← hwa]
  clear hwa
  go_loop [9] (fun i => ∃ k : Nat, k ≤ n ∧ i = .int .i64 k ∧ Hid (UpTo (fun i => hasB (gat m.doms i) (gat xs i)) k)) (fun i => n - (intOf i).toNat)
  case atStart => exact ⟨0, by omega, rfl, UpTo.zero _⟩
  case round =>
    obtain ⟨k, hk, rfl, hq⟩ := hrel
    by_cases hlt : k < n
    · obtain ⟨xb, xo, x, rfl, hxb, hxk, hcx⟩ := IntR.at_ GX.out hlt
      obtain ⟨db, do_, dm, rfl, hdb, hdk, hcd⟩ := IntR.at_ G1.out hlt
      have hx0 := HS.out x (List.mem_of_getElem? hxk)
      have hd0 := HM.out.doms dm (List.mem_of_getElem? hdk)
      have HX := Lib.hid (gat_eq hxk)
      have HD := Lib.hid (gat_eq hdk)
      have HX0 := Lib.hid hx0
      have HD0 := Lib.hid hd0
      clear hxk hdk hx0 hd0
      go_wp2_with fail
      refine (ihas _ _ HD0.out.1 HX0.out.1 (by have := HX0.out.2; omega) _).mono ?_
      rintro e w' ⟨rfl, rfl⟩
      cases t1 : hasB dm x
      · have HE := Lib.hid (show isolF m xs = false by
          unfold isolF domsF
          rw [all_range_no (i := k) (by rw [hl.out]; exact hlt) (by rw [HX.out, HD.out]; exact t1)]; rfl)
        clear t1
        go_wp2_with fail
        go_ret
        exact ⟨ret_bool HE.out.symm, hb0⟩
      · have T1 := Lib.hid t1
        clear t1
        go_wp2_with fail
        go_round
        case rel => exact ⟨k + 1, by omega, by go_num, UpTo.succ hq.out (by rw [HX.out, HD.out]; exact T1.out)⟩
        case measure => simp [intOf]; omega
    · obtain rfl : k = n := by omega
      have HE := Lib.hid (show isolF m xs = !(m.cons.any fun c => !holdF c xs) by
        unfold isolF domsF
        rw [hl.out, UpTo.done hq.out, Bool.true_and, List.all_eq_not_any_not])
      clear hq
      go_wp2_with fail
      refine (containsFuncCon ca m.cons.length cc m.cons 88 _ (fun c => !holdF c xs) _ (enters_of Try.func88 (by kernel_rfl) rfl) G2.out (fun j c us W hc hW hr => isolC us c _ k d A xs W hr (IntR.on GX.out hW) ((hW.cell (p := ⟨w.heap.size + 1, 0, none⟩) (by show w.heap.size + 1 < _; omega)).trans b0) (by have := hW.size; omega) (by rw [HN.out]; exact HM.out.cons c (List.mem_of_getElem? hc)) hn4 HS.out)).mono ?_
      rintro e w2 ⟨rfl, hb2⟩
      clear a0 a1 b0
      go_wp2_with fail
      go_ret
      exact ⟨ret_bool HE.out.symm, bgo hb0 hb2⟩
def asgF (xs : List Int) (n : Nat) : Bool := ((xs.length : Int) == (n : Int)) && xs.all fun x => inB x 0 5
theorem asg_all {xs : List Int} {n : Nat} (h : asgF xs n = true) : xs.length = n ∧ ∀ v ∈ xs, 0 ≤ v ∧ v ≤ 5 := by
  unfold asgF at h
  rw [Bool.and_eq_true, beq_iff_eq, List.all_eq_true] at h
  exact ⟨by have := h.1; omega, fun v hv => inB_true (h.2 v hv)⟩
set_option maxHeartbeats 4000000 in
theorem iassigned (A : Option Addr) (n d k : Nat) (xs : List Int) (w : World) (hx : IntR w w.heap.size A n xs) :
    Calls Try.prog 43 #[.slice A n d, .int .i64 k] w fun e w' => e = .returned (.bool (asgF xs k)) ∧ Below w.heap.size w w' := by
  have hl := Lib.hid hx.len
  have HX := Lib.hid hx
  clear hx
  cases t1 : ((n : Int) == (k : Int))
  · have HE := Lib.hid (show asgF xs k = false by unfold asgF; rw [hl.out, t1]; rfl)
    go_enter Try.func43, Try.ntmps43
    go_wp2_with fail
    go_ret
    exact ⟨ret_bool HE.out.symm, Below.refl _ _⟩
  · have HE := Lib.hid (show asgF xs k = xs.all fun x => inB x 0 5 by unfold asgF; rw [hl.out, t1]; rfl)
    go_enter Try.func43, Try.ntmps43
    go_wp2_with fail
    refine (allIn _ _ _ _ _ _ _ HX.out).mono ?_
    rintro e w1 ⟨rfl, hb1⟩
    clear t1
    go_wp2_with fail
    go_ret
    exact ⟨ret_bool HE.out.symm, hb1⟩
def isF (m : Mod) (xs : List Int) : Bool := vmodF m && (asgF xs m.doms.length && isolF m xs)
set_option maxHeartbeats 4000000 in
theorem iIsSolution (us : List Value) (m : Mod) (A : Option Addr) (n d : Nat) (xs : List Int) (w : World) (h : ModR w w.heap.size us m) (hx : IntR w w.heap.size A n xs) :
    Calls Try.prog 11 #[.agg us.toArray, .slice A n d] w fun e w' => e = .returned (.bool (isF m xs)) ∧ Below w.heap.size w w' := by
  have H0 := Lib.hid h
  obtain ⟨da, ca, cd, cc, rfl, -⟩ := h
  obtain ⟨wa, hwa⟩ : ∃ wa, wa = w.alloc (.cells #[.slice da m.doms.length cd, .slice ca m.cons.length cc] 26) := ⟨_, rfl⟩
  have hb0 : Below w.heap.size w wa := by rw [hwa]; exact b_alloc _ _
  have hsz : wa.heap.size = w.heap.size + 1 := by rw [hwa, size_alloc_]
  have ha : TBlk 26 wa w.heap.size #[.slice da m.doms.length cd, .slice ca m.cons.length cc] := by rw [hwa]; exact TBlk.new _ _ _
  have HA := Lib.hid ha
  have G0 := Lib.hid (ModR.on H0.out hb0)
  have GX := Lib.hid (IntR.on hx hb0)
  have hl := Lib.hid hx.len
  have a0 : wa.cell? ⟨w.heap.size, 0, none⟩ = some (.slice da m.doms.length cd) := ha.at_ 0 rfl
  have a1 : wa.cell? ⟨w.heap.size, 1, none⟩ = some (.slice ca m.cons.length cc) := ha.at_ 1 rfl
  clear ha hx
  go_enter Try.func11, Try.ntmps11
  go_wp2_with fail
  rw [← hwa]
  clear hwa
  refine (iValidModel _ m _ G0.out).mono ?_
  rintro e w1 ⟨rfl, hb1⟩
  have a0 : w1.cell? ⟨w.heap.size, 0, none⟩ = some (.slice da m.doms.length cd) := (HA.out.below_ hb1 (by omega)).at_ 0 rfl
  have hz1 := hb1.size
  cases t0 : vmodF m
  · have HE := Lib.hid (show isF m xs = false by unfold isF; rw [t0]; rfl)
    clear t0
    go_wp2_with fail
    go_ret
    exact ⟨ret_bool HE.out.symm, bgo hb0 hb1⟩
  have T0 := Lib.hid t0
  clear t0
  go_wp2_with fail
  refine (iassigned _ _ _ _ xs _ (IntR.on GX.out hb1)).mono ?_
  rintro e w2 ⟨rfl, hb2⟩
  have hb12 := bgo hb1 hb2
  have a0 : w2.cell? ⟨w.heap.size, 0, none⟩ = some (.slice da m.doms.length cd) := (HA.out.below_ hb12 (by omega)).at_ 0 rfl
  have a1 : w2.cell? ⟨w.heap.size, 1, none⟩ = some (.slice ca m.cons.length cc) := (HA.out.below_ hb12 (by omega)).at_ 1 rfl
  cases t1 : asgF xs m.doms.length
  · have HE := Lib.hid (show isF m xs = false by unfold isF; rw [t1]; simp)
    clear t1
    go_wp2_with fail
    go_ret
    exact ⟨ret_bool HE.out.symm, bgo hb0 hb12⟩
  have T1 := Lib.hid t1
  have HE := Lib.hid (show isF m xs = isolF m xs by unfold isF; rw [T0.out, t1]; rfl)
  clear t1
  go_wp2_with fail
  refine (iisSolution _ m _ _ _ xs _ (ModR.on G0.out hb12) (IntR.on GX.out hb12) (ModOk.of T0.out) (by rw [← hl.out, (asg_all T1.out).1]) (asg_all T1.out).2).mono ?_
  rintro e w3 ⟨rfl, hb3⟩
  go_wp2_with fail
  go_ret
  exact ⟨ret_bool HE.out.symm, bgo hb0 (bgo hb12 hb3)⟩
end Go.Proofs.Ytejfnkbdmlijbaa
