/- Solutions of a model, by the program. -/
import Derived.Test.YthnkeiofehcekaaSatI
import Derived.Deep.RegionHeld3
namespace Go.Proofs.Ythnkeiofehcekaa
open Go.ChangeShapes Go.WideShapes Go.ChangeAt Go.RowKit
open Go.Shelf
set_option linter.unusedVariables false
set_option maxRecDepth 100000

def holdF (c : Con) (xs : List Int) : Bool := satF c (wordF c.vars xs)
theorem vcon_vars {c : Con} {n : Nat} (h : vconF c n = true) (h4 : n ≤ 4) : (1 ≤ c.vars.length ∧ c.vars.length ≤ n) ∧ (∀ v ∈ c.vars, 0 ≤ v ∧ v < (n : Int)) ∧ fitsF c = true := by
  unfold vconF at h
  simp only [Bool.and_eq_true, List.all_eq_true] at h
  have h1 := inB_true h.1
  refine ⟨by omega, fun v hv => ?_, h.2.2.2⟩
  have h2 := inB_true (h.2.1 v hv)
  rw [IntWalk.wrap64_in _ ⟨by omega, by omega⟩] at h2
  omega
theorem SatOk.of {c : Con} {n : Nat} {xs : List Int} (h : vconF c n = true) (h4 : n ≤ 4) (hl : xs.length = n) (hx : ∀ v ∈ xs, 0 ≤ v ∧ v ≤ 5) : SatOk c (wordF c.vars xs) := by
  obtain ⟨h1, h2, h3⟩ := vcon_vars h h4
  refine ⟨wordF_len _ _, by rw [wordF_len]; omega, by rw [wordF_len]; omega, fun v hv => ?_, h3⟩
  unfold wordF at hv
  obtain ⟨u, hu, rfl⟩ := List.mem_map.1 hv
  have := h2 u hu
  exact hx _ (gat_in (by omega))
/-- what a walk over valid models knows. -/
structure ModOk (m : Mod) : Prop where
  doms : ∀ d ∈ m.doms, 0 ≤ d ∧ d ≤ 63
  cons : ∀ c ∈ m.cons, vconF c m.doms.length = true
  one : 1 ≤ m.doms.length
  four : m.doms.length ≤ 4
  six : m.cons.length ≤ 6
theorem ModOk.of {m : Mod} (h : vmodF m = true) : ModOk m := by
  unfold vmodF at h
  simp only [Bool.and_eq_true, List.all_eq_true, decide_eq_true_eq] at h
  have h3 := inB_true h.2.2.1
  exact ⟨fun d hd => inB_true (h.1 d hd), h.2.1, by omega, by omega, by have := h.2.2.2; omega⟩
set_option maxHeartbeats 4000000 in
theorem iholds (us : List Value) (c : Con) (A : Option Addr) (n d : Nat) (xs : List Int) (w : World) (h : ConR w w.heap.size us c) (hx : IntR w w.heap.size A n xs) (hv : vconF c n = true) (h4 : n ≤ 4) (hs : ∀ v ∈ xs, 0 ≤ v ∧ v ≤ 5) :
    Calls Try.prog 49 #[.agg us.toArray, .slice A n d] w fun e w' => e = .returned (.bool (holdF c xs)) ∧ Below w.heap.size w w' := by
  have hok := Lib.hid (SatOk.of hv h4 hx.len hs)
  obtain ⟨q1, q2, q3⟩ := vcon_vars hv h4
  have Q1 := Lib.hid q1
  have Q2 := Lib.hid q2
  obtain ⟨a0, d0, v1, r1, s1, n1, c1, n2, c2, n3, c3, rfl⟩ := h.five
  obtain ⟨wa, hwa⟩ : ∃ wa, wa = w.alloc (.cells #[.int .i64 a0, .slice v1 n1 c1, .slice r1 n2 c2, .int .i64 d0, .slice s1 n3 c3] 33) := ⟨_, rfl⟩
  have hb0 : Below w.heap.size w wa := by rw [hwa]; exact b_alloc _ _
  have hsz : wa.heap.size = w.heap.size + 1 := by rw [hwa, size_alloc_]
  have ha : TBlk 33 wa w.heap.size #[.int .i64 a0, .slice v1 n1 c1, .slice r1 n2 c2, .int .i64 d0, .slice s1 n3 c3] := by rw [hwa]; exact TBlk.new _ _ _
  have H := Lib.hid (ConR.on h hb0)
  have GX := Lib.hid (IntR.on hx hb0)
  have HA := Lib.hid ha
  clear h hx q1 q2 q3 hs ha
  go_enter Try.func49, Try.ntmps49
  go_wp2_with fail
  rw [← hwa]
  clear hwa
  have hS : ∀ w', Below wa.heap.size wa w' → (w'.cell? ⟨w.heap.size, 0, none⟩ = some (.int .i64 a0) ∧ w'.cell? ⟨w.heap.size, 1, none⟩ = some (.slice v1 n1 c1) ∧ w'.cell? ⟨w.heap.size, 2, none⟩ = some (.slice r1 n2 c2) ∧ w'.cell? ⟨w.heap.size, 3, none⟩ = some (.int .i64 d0) ∧ w'.cell? ⟨w.heap.size, 4, none⟩ = some (.slice s1 n3 c3)) := by
    intro w' h
    have k := HA.out.below_ h (by omega)
    exact ⟨k.at_ 0 rfl, k.at_ 1 rfl, k.at_ 2 rfl, k.at_ 3 rfl, k.at_ 4 rfl⟩
  have hbd : Below wa.heap.size wa wa.drew := below_drewN (Below.refl _ _) 1
  have hS0 := hS _ hbd
  go_region_held3 (fun w' => w'.cell? ⟨w.heap.size, 0, none⟩ = some (.int .i64 a0) ∧ w'.cell? ⟨w.heap.size, 1, none⟩ = some (.slice v1 n1 c1) ∧ w'.cell? ⟨w.heap.size, 2, none⟩ = some (.slice r1 n2 c2) ∧ w'.cell? ⟨w.heap.size, 3, none⟩ = some (.int .i64 d0) ∧ w'.cell? ⟨w.heap.size, 4, none⟩ = some (.slice s1 n3 c3))
    (first | exact hS0 | exact hS _ hb8 | exact hS _ hb9)
    (first
      | (go_at_call 59
         refine (iword _ c _ _ _ xs _ (ConR.on H.out hbd) (IntR.on GX.out hbd) Q2.out (by have := Q1.out; omega)).mono ?_
         rintro e Wq ⟨v, rfl, ow, hBq⟩
         obtain ⟨B2, d2, rfl, rw2, -⟩ := IntR.of_own ow.1 ow.2
         have cap2 := own_cap ow.1
         have hb8 := bgo hbd hBq
         clear hBq ow)
      | (go_at_call 60
         refine (isatisfied _ c _ _ _ (wordF c.vars xs) _ (ConR.on H.out hb8) rw2 cap2 hok.out).mono ?_
         rintro e W9 ⟨rfl, hBq⟩
         have hb9 := bgo hb8 hBq
         clear hBq))
  go_wp2_with fail
  go_ret
  exact ⟨rfl, bgo hb0 hb9⟩
def asgF (xs : List Int) (n : Nat) : Bool := ((xs.length : Int) == (n : Int)) && xs.all fun x => inB x 0 5
theorem asg_all {xs : List Int} {n : Nat} (h : asgF xs n = true) : xs.length = n ∧ ∀ v ∈ xs, 0 ≤ v ∧ v ≤ 5 := by
  unfold asgF at h
  rw [Bool.and_eq_true, beq_iff_eq, List.all_eq_true] at h
  exact ⟨by have := h.1; omega, fun v hv => inB_true (h.2 v hv)⟩
set_option maxHeartbeats 4000000 in
theorem iassigned (A : Option Addr) (n d k : Nat) (xs : List Int) (w : World) (hx : IntR w w.heap.size A n xs) :
    Calls Try.prog 48 #[.slice A n d, .int .i64 k] w fun e w' => e = .returned (.bool (asgF xs k)) ∧ Below w.heap.size w w' := by
  have hl := Lib.hid hx.len
  have HX := Lib.hid hx
  clear hx
  cases t1 : ((n : Int) == (k : Int))
  · have HE := Lib.hid (show asgF xs k = false by unfold asgF; rw [hl.out, t1]; rfl)
    go_enter Try.func48, Try.ntmps48
    go_wp2_with fail
    go_ret
    exact ⟨ret_bool HE.out.symm, Below.refl _ _⟩
  · have HE := Lib.hid (show asgF xs k = xs.all fun x => inB x 0 5 by unfold asgF; rw [hl.out, t1]; rfl)
    go_enter Try.func48, Try.ntmps48
    go_wp2_with fail
    refine (allIn _ _ _ _ _ _ _ HX.out).mono ?_
    rintro e w1 ⟨rfl, hb1⟩
    clear t1
    go_wp2_with fail
    go_ret
    exact ⟨ret_bool HE.out.symm, hb1⟩
end Go.Proofs.Ythnkeiofehcekaa
