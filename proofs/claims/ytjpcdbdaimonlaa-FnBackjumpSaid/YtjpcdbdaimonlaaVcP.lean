/- When a drawn constraint is valid, kind by kind. No program in sight. -/
import Derived.Test.YtjpcdbdaimonlaaDrawKV
import Derived.Test.YtjpcdbdaimonlaaConP
namespace Go.Proofs.Ytjpcdbdaimonlaa
open Go.RowKit
set_option linter.unusedVariables false
set_option maxRecDepth 100000

/-- variables of a valid constraint. -/
def GoodV (m : Nat) (ys : List Int) : Prop := ys.Nodup ∧ ∀ x ∈ ys, 0 ≤ x ∧ x < (m : Int)
theorem dis_nodup {ys : List Int} (h : ys.Nodup) : disF ys = true := by
  refine disF_yes rfl fun i hi => ?_
  have hx : ys[i]? = some ys[i] := List.getElem?_eq_getElem hi
  rw [disAt_eq hx]
  have : ¬ ys[i] ∈ ys.take i := fun hm => by
    obtain ⟨j, hj, e⟩ := List.getElem_of_mem hm
    rw [List.length_take] at hj
    rw [List.getElem_take] at e
    have := (List.getElem_inj h).1 e
    omega
  rw [decide_eq_false this]; rfl
theorem all_in {xs : List Int} {lo hi : Int} (h : ∀ x ∈ xs, lo ≤ x ∧ x ≤ hi) : (xs.all fun x => inB x lo hi) = true := List.all_eq_true.2 fun x hx => inB_mk (h x hx)
theorem vcon_of {c : Con} {m : Nat} (hg : GoodV m c.vars) (h1 : 1 ≤ c.vars.length) (hm : c.vars.length ≤ m) (hm4 : m ≤ 4) (hf : fitsF c = true) : vconF c (m : Int) = true := by
  unfold vconF
  have e : wrap64 ((m : Int) - 1) = (m : Int) - 1 := IntWalk.wrap64_in _ ⟨by omega, by omega⟩
  rw [e, hf, dis_nodup hg.1, all_in (fun x hx => by have := hg.2 x hx; omega), inB_mk (show (1 : Int) ≤ (c.vars.length : Int) ∧ (c.vars.length : Int) ≤ (m : Int) by omega)]
  rfl
theorem fit_1 {ys al : List Int} {bd : Int} (hl : al.length = ys.length) (ha : ∀ x ∈ al, -9 ≤ x ∧ x ≤ 9) (hb : -999 ≤ bd ∧ bd ≤ 999) : fitsF ⟨1, ys, al, bd, []⟩ = true := by
  rw [fits1 rfl]
  show (((al.length : Int) == (ys.length : Int)) && ((al.all fun x => inB x (-9) 9) && (inB bd (-999) 999 && (((0 : Nat) : Int) == 0)))) = true
  rw [hl, all_in ha, inB_mk hb]
  simp
theorem fit_2 {ys : List Int} {a : Int} (hl : ys.length = 2) (ha : -9 ≤ a ∧ a ≤ 9) : fitsF ⟨2, ys, [a], 0, []⟩ = true := by
  rw [fits2 rfl]
  show (((ys.length : Int) == 2) && ((((1 : Nat) : Int) == 1) && (([a].all fun x => inB x (-9) 9) && (((0 : Int) == 0) && (((0 : Nat) : Int) == 0))))) = true
  rw [hl, all_in (xs := [a]) (fun x hx => by rw [List.mem_singleton.1 hx]; exact ha)]
  rfl
theorem fit_3 {ys : List Int} : fitsF ⟨3, ys, [], 0, []⟩ = true := by rw [fits3 rfl]; rfl
theorem fit_9 {ys : List Int} : fitsF ⟨9, ys, [], 0, []⟩ = true := by rw [fits9 rfl]; rfl
theorem fit_4 {ys al : List Int} (hl : ys.length = 2) (h6 : 1 ≤ al.length ∧ al.length ≤ 6) (ha : ∀ x ∈ al, 0 ≤ x ∧ x ≤ 5) : fitsF ⟨4, ys, al, 0, []⟩ = true := by
  rw [fits4 rfl]
  show (((ys.length : Int) == 2) && (inB (al.length : Int) 1 6 && ((al.all fun x => inB x 0 5) && (((0 : Int) == 0) && (((0 : Nat) : Int) == 0))))) = true
  rw [hl, all_in ha, inB_mk (show (1 : Int) ≤ (al.length : Int) ∧ (al.length : Int) ≤ 6 by omega)]
  rfl
theorem rows_ok {rs : List (List Int)} {n : Nat} {lo hi : Int} (h1 : 1 ≤ rs.length ∧ rs.length ≤ 8) (h : ∀ r ∈ rs, r.length = n ∧ ∀ x ∈ r, lo ≤ x ∧ x ≤ hi) : rowsOk rs (n : Int) lo hi = true := by
  unfold rowsOk
  rw [inB_mk (show (1 : Int) ≤ (rs.length : Int) ∧ (rs.length : Int) ≤ 8 by omega), Bool.true_and]
  refine List.all_eq_true.2 fun r hr => ?_
  obtain ⟨h2, h3⟩ := h r hr
  unfold rowIn
  rw [all_in h3, h2]
  simp
theorem fit_5 {ys : List Int} {rs : List (List Int)} (h1 : 1 ≤ rs.length ∧ rs.length ≤ 8) (h : ∀ r ∈ rs, r.length = ys.length ∧ ∀ x ∈ r, 0 ≤ x ∧ x ≤ 5) : fitsF ⟨5, ys, [], 0, rs⟩ = true := by
  rw [fits5 rfl]
  show ((((0 : Nat) : Int) == 0) && (((0 : Int) == 0) && rowsOk rs (ys.length : Int) 0 5)) = true
  rw [rows_ok h1 h]
  rfl
theorem fit_6 {ys : List Int} {a b : Int} (ha : 0 ≤ a ∧ a ≤ 5) (hb : 0 ≤ b ∧ b ≤ 4) : fitsF ⟨6, ys, [a], b, []⟩ = true := by
  rw [fits6 rfl]
  show ((((1 : Nat) : Int) == 1) && (([a].all fun x => inB x 0 5) && (inB b 0 4 && (((0 : Nat) : Int) == 0)))) = true
  rw [all_in (xs := [a]) (fun x hx => by rw [List.mem_singleton.1 hx]; exact ha), inB_mk hb]
  rfl
theorem fit_7 {ys al : List Int} {b : Int} (hl : al.length = 2 * ys.length) (h4 : ys.length ≤ 4) (ha : ∀ x ∈ al, 0 ≤ x ∧ x ≤ 9) (hb : 0 ≤ b ∧ b ≤ 9) : fitsF ⟨7, ys, al, b, []⟩ = true := by
  rw [fits7 rfl]
  show (((al.length : Int) == wrap64 (2 * (ys.length : Int))) && ((al.all fun x => inB x 0 9) && (inB b 0 9 && (((0 : Nat) : Int) == 0)))) = true
  have e : wrap64 (2 * (ys.length : Int)) = 2 * (ys.length : Int) := IntWalk.wrap64_in _ ⟨by omega, by omega⟩
  rw [e, all_in ha, inB_mk hb, hl]
  simp
theorem fit_8 {ys : List Int} {rs : List (List Int)} {k : Nat} (hk : rs.length = k) (h1 : 1 ≤ k ∧ k ≤ 8) (h : RowsB k rs) : fitsF ⟨8, ys, [(k : Int) - 1], 0, rs⟩ = true := by
  rw [fits8 rfl]
  show (rowsOk rs 6 (-1) (wrap64 ((rs.length : Int) - 1)) && (([(k : Int) - 1].all fun x => inB x 0 (wrap64 ((rs.length : Int) - 1))) && (disF [(k : Int) - 1] && ((0 : Int) == 0)))) = true
  have e : wrap64 ((rs.length : Int) - 1) = (k : Int) - 1 := by rw [hk]; exact IntWalk.wrap64_in _ ⟨by omega, by omega⟩
  have r6 : rowsOk rs 6 (-1) ((k : Int) - 1) = true := rows_ok (n := 6) (by omega) (fun r hr => ⟨(h r hr).1, fun x hx => by have := (h r hr).2 x hx; omega⟩)
  rw [e, r6, all_in (xs := [(k : Int) - 1]) (fun x hx => by rw [List.mem_singleton.1 hx]; omega), dis_nodup (ys := [(k : Int) - 1]) (by simp)]
  rfl
end Go.Proofs.Ytjpcdbdaimonlaa
