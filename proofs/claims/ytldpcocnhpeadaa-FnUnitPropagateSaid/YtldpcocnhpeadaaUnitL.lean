/- Plain Lean: what unit propagation keeps. No program in sight. -/
import Derived.Test.YtldpcocnhpeadaaUnitP
namespace Go.Proofs.Ytldpcocnhpeadaa
set_option linter.unusedVariables false
set_option maxRecDepth 100000

/-- values f 0, .., f (k - 1) lie in the domains. -/
def insF (ds : List Int) (f : Nat → Int) (k : Nat) : Bool := (List.range k).all fun j => vdB (ds[j]?.getD 0) && dhB (ds[j]?.getD 0) (f j)
theorem insF_snoc (ds : List Int) (f : Nat → Int) (k : Nat) {d : Int} (hd : ds[k]? = some d) : insF ds f (k + 1) = (insF ds f k && (vdB d && dhB d (f k))) := by
  unfold insF
  rw [List.range_succ, List.all_append]
  simp [hd]
theorem insF_all {ds : List Int} {f : Nat → Int} {k : Nat} : insF ds f k = true ↔ ∀ j, j < k → vdB (ds[j]?.getD 0) = true ∧ dhB (ds[j]?.getD 0) (f j) = true := by
  unfold insF
  rw [List.all_eq_true]
  constructor
  · intro h j hj
    have := h j (List.mem_range.2 hj)
    simpa using this
  · intro h j hj
    have := h j (List.mem_range.1 hj)
    simpa using this
theorem has_and_tab : ∀ v : Fin 6, ∀ a b : Fin 64, hasB (bits .and .i64 (a.val : Int) (b.val : Int)) (v.val : Int) = (hasB (a.val : Int) (v.val : Int) && hasB (b.val : Int) (v.val : Int)) := by decide +kernel
theorem and_sub_tab : ∀ a b : Fin 64, bits .and .i64 (bits .and .i64 (a.val : Int) (b.val : Int)) (a.val : Int) = bits .and .i64 (a.val : Int) (b.val : Int) ∧ 0 ≤ bits .and .i64 (a.val : Int) (b.val : Int) ∧ bits .and .i64 (a.val : Int) (b.val : Int) ≤ 63 := by decide +kernel
theorem and_self_tab : ∀ a : Fin 64, bits .and .i64 (a.val : Int) (a.val : Int) = (a.val : Int) ∧ bits .and .i64 0 (a.val : Int) = 0 := by decide +kernel
theorem has_zero_tab : ∀ v : Fin 6, hasB 0 (v.val : Int) = false := by decide +kernel
theorem has_and {a b v : Int} (ha : 0 ≤ a ∧ a ≤ 63) (hb : 0 ≤ b ∧ b ≤ 63) (hv : 0 ≤ v ∧ v ≤ 5) : hasB (bits .and .i64 a b) v = (hasB a v && hasB b v) := by
  obtain ⟨x, rfl⟩ := dom_fin ha.1 ha.2
  obtain ⟨y, rfl⟩ := dom_fin hb.1 hb.2
  obtain ⟨z, rfl⟩ : ∃ z : Fin 6, v = (z.val : Int) := ⟨⟨v.toNat, by omega⟩, by simp; omega⟩
  exact has_and_tab z x y
theorem and_sub {a b : Int} (ha : 0 ≤ a ∧ a ≤ 63) (hb : 0 ≤ b ∧ b ≤ 63) : bits .and .i64 (bits .and .i64 a b) a = bits .and .i64 a b ∧ 0 ≤ bits .and .i64 a b ∧ bits .and .i64 a b ≤ 63 := by
  obtain ⟨x, rfl⟩ := dom_fin ha.1 ha.2
  obtain ⟨y, rfl⟩ := dom_fin hb.1 hb.2
  exact and_sub_tab x y
theorem and_self_ {a : Int} (ha : 0 ≤ a ∧ a ≤ 63) : bits .and .i64 a a = a ∧ bits .and .i64 0 a = 0 := by
  obtain ⟨x, rfl⟩ := dom_fin ha.1 ha.2
  exact and_self_tab x
/-- the first domains lie in the second ones. -/
def subD (xs ys : List Int) : Bool := decide (xs.length = ys.length) && (List.range xs.length).all fun j => bits .and .i64 (xs[j]?.getD 0) (ys[j]?.getD 0) == xs[j]?.getD 0
theorem dom_at {ds : List Int} (h : doF ds = true) (j : Nat) (hj : j < ds.length) : 0 ≤ ds[j]?.getD 0 ∧ ds[j]?.getD 0 ≤ 63 := by
  rw [List.getElem?_eq_getElem hj]
  exact (doF_vals h).2.2 _ (List.getElem_mem hj)
theorem upL_at {xs : List Ltl} {ds : List Int} (hd : doF ds = true) (hv : vcF xs ds.length = true) (j : Nat) (hj : j < ds.length) :
    (upL xs ds)[j]?.getD 0 = 0 ∨ (upL xs ds)[j]?.getD 0 = ds[j]?.getD 0 ∨ ∃ l ∈ xs, l.var.toNat = j ∧ (upL xs ds)[j]?.getD 0 = bits .and .i64 (ds[j]?.getD 0) (truesF l) := by
  unfold upL
  split
  · left; simp [hj]
  · rename_i l hl
    by_cases h : l.var.toNat = j
    · right; right
      refine ⟨l, ?_, h, ?_⟩
      · have : l ∈ xs.filter (openL ds) := by rw [hl]; simp
        exact (List.mem_filter.1 this).1
      · subst h; simp [hj]
    · right; left
      rw [List.getElem?_set_ne h]
  · right; left; rfl
theorem upL_sub {xs : List Ltl} {ds : List Int} (hd : doF ds = true) (hv : vcF xs ds.length = true) : subD (upL xs ds) ds = true := by
  unfold subD
  rw [Bool.and_eq_true]
  refine ⟨decide_eq_true (upL_len _ _), List.all_eq_true.2 fun j hj => ?_⟩
  rw [upL_len] at hj
  have hj := List.mem_range.1 hj
  have hb := dom_at hd j hj
  rw [beq_iff_eq]
  rcases upL_at hd hv j hj with h | h | ⟨l, hl, h1, h⟩
  · rw [h]; exact (and_self_ hb).2
  · rw [h]; exact (and_self_ hb).1
  · rw [h]
    have hx := vcF_vals hv l hl
    exact (and_sub hb (trues_bd l hx.2.2.1 hx.2.2.2)).1
theorem upL_kept {xs : List Ltl} {ds : List Int} {f : Nat → Int} (hd : doF ds = true) (hv : vcF xs ds.length = true) (hf : ∀ j, 0 ≤ f j ∧ f j ≤ 5) (hi : insF ds f ds.length = true)
    (hc : chF xs ((List.range ds.length).map f) ds.length = true) : insF (upL xs ds) f ds.length = true := by
  rw [insF_all] at hi ⊢
  unfold chF at hc
  simp only [Bool.and_eq_true] at hc
  obtain ⟨l, hl, hh⟩ := List.any_eq_true.1 hc.2
  have hx := vcF_vals hv l hl
  have hvl : l.var.toNat < ds.length := by omega
  have hb := dom_at hd _ hvl
  have ht := trues_bd l hx.2.2.1 hx.2.2.2
  have hin := hi _ hvl
  have hds : hasB (ds[l.var.toNat]?.getD 0) (f l.var.toNat) = true := by
    have := hin.2
    unfold dhB at this
    rw [Bool.and_eq_true] at this
    exact this.2
  have htr : hasB (truesF l) (f l.var.toNat) = true := by
    rw [trues_has l _ hx.2.2.1 hx.2.2.2 (hf _).1 (hf _).2]
    unfold litH at hh
    rw [List.getElem?_map, List.getElem?_range hvl] at hh
    exact hh
  have hand : hasB (bits .and .i64 (ds[l.var.toNat]?.getD 0) (truesF l)) (f l.var.toNat) = true := by
    rw [has_and hb ht (hf _), hds, htr]; rfl
  have hopen : openL ds l = true := by
    unfold openL
    cases h0 : (bits .and .i64 (ds[l.var.toNat]?.getD 0) (truesF l) != 0)
    · have e0 : bits .and .i64 (ds[l.var.toNat]?.getD 0) (truesF l) = 0 := by simpa using h0
      rw [e0] at hand
      obtain ⟨z, hz⟩ : ∃ z : Fin 6, f l.var.toNat = (z.val : Int) := ⟨⟨(f l.var.toNat).toNat, by have := hf l.var.toNat; omega⟩, by have := hf l.var.toNat; simp; omega⟩
      rw [hz, has_zero_tab] at hand
      cases hand
    · rfl
  have hmem : l ∈ xs.filter (openL ds) := List.mem_filter.2 ⟨hl, hopen⟩
  intro j hj
  unfold upL
  split
  · rename_i h0; rw [h0] at hmem; cases hmem
  · rename_i l' h0
    rw [h0] at hmem
    have : l = l' := by simpa using hmem
    subst this
    by_cases hjl : l.var.toNat = j
    · subst hjl
      rw [List.getElem?_set_self hvl]
      have ha := and_sub hb ht
      refine ⟨inB_mk ⟨ha.2.1, ha.2.2⟩, ?_⟩
      unfold dhB
      rw [inB_mk ⟨(hf _).1, (hf _).2⟩]
      exact hand
    · rw [List.getElem?_set_ne hjl]
      exact hi j hj
  · exact hi j hj
theorem upF_pos {xs : List Ltl} {ds : List Int} (h : (upF xs ds).length ≠ 0) : doF ds = true ∧ vcF xs ds.length = true ∧ upF xs ds = upL xs ds := by
  unfold upF at h ⊢
  split
  · rename_i h1
    rw [Bool.and_eq_true] at h1
    exact ⟨h1.1, h1.2, rfl⟩
  · rename_i h1
    rw [if_neg h1] at h
    exact absurd rfl h
end Go.Proofs.Ytldpcocnhpeadaa
