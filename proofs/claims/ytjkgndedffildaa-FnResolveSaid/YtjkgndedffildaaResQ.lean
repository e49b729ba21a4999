/- What resolution keeps: plain. -/
import Derived.Test.YtjkgndedffildaaResP
namespace Go.Proofs.Ytjkgndedffildaa
open Go.RowKit
set_option linter.unusedVariables false
set_option maxRecDepth 100000

theorem rsM_mem {a b : List Ltl} {l x : Ltl} : x ∈ rsM a b l ↔ (x ∈ a ∧ x ≠ l) ∨ (x ∈ b ∧ x ≠ negL l) := by
  unfold rsM
  rw [mem_mergeL, exF_mem, exF_mem]
theorem rs_parts {n : Int} {a b : List Ltl} {l : Ltl} (h : rsB n a b l = true) : vcF a n = true ∧ vcF b n = true ∧ l ∈ a ∧ negL l ∈ b ∧ (rsM a b l).length ≤ 12 ∧ rsF n a b l = rsM a b l := by
  have h0 := h
  unfold rsB rsOk at h
  simp only [Bool.and_eq_true, decide_eq_true_eq] at h
  exact ⟨h.1.1.1.1, h.1.1.1.2, h.1.1.2, h.1.2, h.2, by unfold rsF; rw [h0]; rfl⟩
theorem vc_each {xs : List Ltl} {n : Int} (h : vcF xs n = true) {x : Ltl} (hx : x ∈ xs) : inB x.var 0 (wrap64 (n - 1)) = true ∧ inB x.val 0 5 = true := by
  obtain ⟨i, hi, e⟩ := List.getElem_of_mem hx
  unfold vcF vclF okAll at h
  simp only [Bool.and_eq_true, List.all_eq_true] at h
  have := h.2.1 i (by simpa using hi)
  unfold okAt at this
  rw [List.getElem?_eq_getElem hi, e] at this
  simp only [Bool.and_eq_true] at this
  exact this.1
theorem vc_mk {xs : List Ltl} {n : Int} (hn : inB n 1 4 = true) (ha : Asc xs) (he : ∀ x ∈ xs, inB x.var 0 (wrap64 (n - 1)) = true ∧ inB x.val 0 5 = true) (hl : xs.length ≤ 12) : vcF xs n = true := by
  unfold vcF vclF okAll
  simp only [Bool.and_eq_true, List.all_eq_true]
  refine ⟨hn, fun i hi => ?_, decide_eq_true hl⟩
  have hi' : i < xs.length := by simpa using hi
  unfold okAt
  rw [List.getElem?_eq_getElem hi']
  obtain ⟨h1, h2⟩ := he xs[i] (List.getElem_mem hi')
  simp only [h1, h2, Bool.true_and]
  by_cases h0 : i = 0
  · subst h0; rfl
  · rw [List.getElem?_eq_getElem (by omega : i - 1 < xs.length)]
    simp only [Bool.or_eq_true]
    exact .inr ((List.pairwise_iff_getElem.1 ha) (i - 1) i (by omega) hi' (by omega))
theorem rs_vc {n : Int} {a b : List Ltl} {l : Ltl} (h : rsB n a b l = true) : vcF (rsM a b l) n = true := by
  obtain ⟨h1, h2, h3, h4, h5, -⟩ := rs_parts h
  have hn : inB n 1 4 = true := by unfold vcF at h1; simp only [Bool.and_eq_true] at h1; exact h1.1
  refine vc_mk hn (mergeL_asc (exF_asc (asc_of_vcF h1) l)) (fun x hx => ?_) h5
  rcases rsM_mem.1 hx with h | h
  · exact vc_each h1 h.1
  · exact vc_each h2 h.1
theorem rs_ch {n : Nat} {a b : List Ltl} {l : Ltl} {x : List Int} (h : rsB n a b l = true) (ha : chF a x n = true) (hb : chF b x n = true) : chF (rsM a b l) x n = true := by
  unfold chF at ha hb ⊢
  simp only [Bool.and_eq_true] at ha hb ⊢
  refine ⟨⟨ha.1.1, rs_vc h⟩, ?_⟩
  obtain ⟨y, hy, hl⟩ := List.any_eq_true.1 ha.2
  obtain ⟨z, hz, hm⟩ := List.any_eq_true.1 hb.2
  by_cases e : y = l
  · subst e
    refine List.any_eq_true.2 ⟨z, rsM_mem.2 (.inr ⟨hz, fun e2 => ?_⟩), hm⟩
    subst e2
    unfold litH negL at hm
    unfold litH at hl
    revert hl hm
    cases y.neg <;> simp
  · exact List.any_eq_true.2 ⟨y, rsM_mem.2 (.inl ⟨hy, e⟩), hl⟩
end Go.Proofs.Ytjkgndedffildaa
