/- Solutions of a model, by the program. -/
import Derived.Test.YtfmdgdamelkelaaSatI
import Derived.Deep.RegionHeld3
namespace Go.Proofs.Ytfmdgdamelkelaa
open Go.ChangeShapes Go.WideShapes Go.ChangeAt Go.RowKit
open Go.Shelf
set_option linter.unusedVariables false
set_option maxRecDepth 100000

def holdF (c : Con) (xs : List Int) : Bool := satF c (wordF c.vars xs)
theorem vcon_vars {c : Con} {n : Nat} (h : vconF c n = true) (h4 : n ≤ 4) : (1 ≤ c.vars.length ∧ c.vars.length ≤ n) ∧ (∀ v ∈ c.vars, 0 ≤ v ∧ v < (n : Int)) ∧ fitsF c = true := by
  unfold vconF at h
  simp only [Bool.and_eq_true, List.all_eq_true] at h
  have h1 := inB_true h.1
  refine ⟨by omega, fun v hv => ?_, h.2.2.2⟩
  have h2 := inB_true (h.2.1 v hv)
  rw [IntWalk.wrap64_in _ ⟨by omega, by omega⟩] at h2
  omega
theorem SatOk.of {c : Con} {n : Nat} {xs : List Int} (h : vconF c n = true) (h4 : n ≤ 4) (hl : xs.length = n) (hx : ∀ v ∈ xs, 0 ≤ v ∧ v ≤ 5) : SatOk c (wordF c.vars xs) := by
  obtain ⟨h1, h2, h3⟩ := vcon_vars h h4
  refine ⟨wordF_len _ _, by rw [wordF_len]; omega, by rw [wordF_len]; omega, fun v hv => ?_, h3⟩
  unfold wordF at hv
  obtain ⟨u, hu, rfl⟩ := List.mem_map.1 hv
  have := h2 u hu
  exact hx _ (gat_in (by omega))
/-- what a walk over valid models knows. -/
structure ModOk (m : Mod) : Prop where
  doms : ∀ d ∈ m.doms, 0 ≤ d ∧ d ≤ 63
  cons : ∀ c ∈ m.cons, vconF c m.doms.length = true
  one : 1 ≤ m.doms.length
  four : m.doms.length ≤ 4
  six : m.cons.length ≤ 6
theorem ModOk.of {m : Mod} (h : vmodF m = true) : ModOk m := by
  unfold vmodF at h
  simp only [Bool.and_eq_true, List.all_eq_true, decide_eq_true_eq] at h
  have h3 := inB_true h.2.2.1
  exact ⟨fun d hd => inB_true (h.1 d hd), h.2.1, by omega, by omega, by have := h.2.2.2; omega⟩
def asgF (xs : List Int) (n : Nat) : Bool := ((xs.length : Int) == (n : Int)) && xs.all fun x => inB x 0 5
theorem asg_all {xs : List Int} {n : Nat} (h : asgF xs n = true) : xs.length = n ∧ ∀ v ∈ xs, 0 ≤ v ∧ v ≤ 5 := by
  unfold asgF at h
  rw [Bool.and_eq_true, beq_iff_eq, List.all_eq_true] at h
  exact ⟨by have := h.1; omega, fun v hv => inB_true (h.2 v hv)⟩
set_option maxHeartbeats 4000000 in
theorem iassigned (A : Option Addr) (n d k : Nat) (xs : List Int) (w : World) (hx : IntR w w.heap.size A n xs) :
    Calls Try.prog 70 #[.slice A n d, .int .i64 k] w fun e w' => e = .returned (.bool (asgF xs k)) ∧ Below w.heap.size w w' := by
  have hl := Lib.hid hx.len
  have HX := Lib.hid hx
  clear hx
  cases t1 : ((n : Int) == (k : Int))
  · have HE := Lib.hid (show asgF xs k = false by unfold asgF; rw [hl.out, t1]; rfl)
    go_enter Try.func70, Try.ntmps70
    go_wp2_with fail
    go_ret
    exact ⟨ret_bool HE.out.symm, Below.refl _ _⟩
  · have HE := Lib.hid (show asgF xs k = xs.all fun x => inB x 0 5 by unfold asgF; rw [hl.out, t1]; rfl)
    go_enter Try.func70, Try.ntmps70
    go_wp2_with fail
    refine (allIn _ _ _ _ _ _ _ HX.out).mono ?_
    rintro e w1 ⟨rfl, hb1⟩
    clear t1
    go_wp2_with fail
    go_ret
    exact ⟨ret_bool HE.out.symm, hb1⟩
end Go.Proofs.Ytfmdgdamelkelaa
