/- Resolution: plain lists of literals. No program in sight. -/
import Derived.Test.YtjkgndedffildaaMerge
namespace Go.Proofs.Ytjkgndedffildaa
set_option linter.unusedVariables false
set_option maxRecDepth 100000

def negL (l : Ltl) : Ltl := ⟨l.var, l.val, !l.neg⟩
def exF (a : List Ltl) (l : Ltl) : List Ltl := a.filter fun x => !decide (x = l)
theorem exF_len (a : List Ltl) (l : Ltl) : (exF a l).length ≤ a.length := List.length_filter_le _ _
theorem exF_mem {a : List Ltl} {l x : Ltl} : x ∈ exF a l ↔ x ∈ a ∧ x ≠ l := by simp [exF]
theorem exF_asc {a : List Ltl} (h : Asc a) (l : Ltl) : Asc (exF a l) := List.Pairwise.sublist List.filter_sublist h
/-- nothing goes out just where l is not in. -/
theorem exF_same (a : List Ltl) (l : Ltl) : decide ((exF a l).length = a.length) = !decide (l ∈ a) := by
  by_cases h : l ∈ a
  · rw [decide_eq_true h]
    refine decide_eq_false fun e => ?_
    have h1 : exF a l = a := List.filter_sublist.eq_of_length e
    have h2 : l ∈ exF a l := by rw [h1]; exact h
    exact (exF_mem.1 h2).2 rfl
  · rw [decide_eq_false h]
    refine decide_eq_true ?_
    have h1 : exF a l = a := List.filter_eq_self.2 fun x hx => by
      by_cases e : x = l
      · subst e; exact absurd hx h
      · simp [e]
    rw [h1]
theorem asc_ext : ∀ {a b : List Ltl}, Asc a → Asc b → (∀ x, x ∈ a ↔ x ∈ b) → a = b
  | [], [], _, _, _ => rfl
  | [], y :: b, _, _, h => by have := (h y).2 (by simp); simp at this
  | x :: a, [], _, _, h => by have := (h x).1 (by simp); simp at this
  | x :: a, y :: b, ha, hb, h => by
    obtain ⟨a1, a2⟩ := List.pairwise_cons.1 ha
    obtain ⟨b1, b2⟩ := List.pairwise_cons.1 hb
    have exy : x = y := by
      rcases List.mem_cons.1 ((h x).1 (by simp)) with e | e
      · exact e
      · rcases List.mem_cons.1 ((h y).2 (by simp)) with e2 | e2
        · exact e2.symm
        · have h1 := b1 x e
          have h2 := a1 y e2
          have := less_trans h1 h2
          rw [less_irr] at this; cases this
    subst exy
    congr 1
    refine asc_ext a2 b2 fun z => ?_
    constructor
    · intro hz
      rcases List.mem_cons.1 ((h z).1 (by simp [hz])) with e | e
      · subst e; have := a1 z hz; rw [less_irr] at this; cases this
      · exact e
    · intro hz
      rcases List.mem_cons.1 ((h z).2 (by simp [hz])) with e | e
      · subst e; have := b1 z hz; rw [less_irr] at this; cases this
      · exact e
/-- of the first m, those that differ from the one before. -/
def ddTo (xs : List Ltl) : Nat → List Ltl
  | 0 => []
  | m + 1 => match xs[m]? with
    | none => ddTo xs m
    | some x => if 0 < m ∧ xs[m - 1]? = some x then ddTo xs m else ddTo xs m ++ [x]
theorem ddTo_same {xs : List Ltl} {m : Nat} {x : Ltl} (h : xs[m]? = some x) (h0 : 0 < m) (h1 : xs[m - 1]? = some x) : ddTo xs (m + 1) = ddTo xs m := by
  rw [ddTo, h]; simp only; rw [if_pos ⟨h0, h1⟩]
theorem ddTo_new {xs : List Ltl} {m : Nat} {x : Ltl} (h : xs[m]? = some x) (h1 : ¬ (0 < m ∧ xs[m - 1]? = some x)) : ddTo xs (m + 1) = ddTo xs m ++ [x] := by
  rw [ddTo, h]; simp only; rw [if_neg h1]
theorem ddTo_len (xs : List Ltl) : ∀ m, (ddTo xs m).length ≤ m
  | 0 => Nat.le_refl _
  | m + 1 => by
    have ih := ddTo_len xs m
    rw [ddTo]
    cases xs[m]? with
    | none => show (ddTo xs m).length ≤ _; omega
    | some x => simp only; split <;> simp <;> omega
theorem ddTo_ok {xs : List Ltl} (hs : xs.Pairwise fun x y => ltlLess y x = false) : ∀ m, m ≤ xs.length → Asc (ddTo xs m) ∧ ∀ x, x ∈ ddTo xs m ↔ x ∈ xs.take m
  | 0, _ => by simp [ddTo, Asc]
  | m + 1, hm => by
    obtain ⟨h1, h2⟩ := ddTo_ok hs m (by omega)
    have hx : xs[m]? = some xs[m] := List.getElem?_eq_getElem (by omega)
    have htk : xs.take (m + 1) = xs.take m ++ [xs[m]] := by rw [List.take_add_one, hx]; rfl
    have hle : ∀ i (hi : i < m), ltlLess xs[m] (xs[i]'(by omega)) = false := fun i hi => (List.pairwise_iff_getElem.1 hs) i m (by omega) (by omega) hi
    generalize hxm : xs[m] = x at *
    by_cases hc : 0 < m ∧ xs[m - 1]? = some x
    · rw [ddTo_same hx hc.1 hc.2, htk]
      refine ⟨h1, fun z => ?_⟩
      rw [h2, List.mem_append, List.mem_singleton]
      constructor
      · exact .inl
      · rintro (h | rfl)
        · exact h
        · refine List.mem_of_getElem? (i := m - 1) ?_
          rw [List.getElem?_take_of_lt (by omega)]; exact hc.2
    · rw [ddTo_new hx hc, htk]
      refine ⟨?_, fun z => by rw [List.mem_append, List.mem_append, h2]⟩
      unfold Asc
      rw [List.pairwise_append]
      refine ⟨h1, by simp, fun z hz y hy => ?_⟩
      rw [List.mem_singleton] at hy
      subst hy
      obtain ⟨i, hi, e⟩ := List.getElem_of_mem ((h2 z).1 hz)
      rw [List.length_take] at hi
      have hi' : i < m := by omega
      rw [List.getElem_take] at e
      have hlei := hle i hi'
      rw [e] at hlei
      refine less_tot hlei fun ezy => ?_
      subst ezy
      -- z = y: then the one before y is y too
      refine hc ⟨by omega, ?_⟩
      have h3 : xs[m - 1]? = some (xs[m - 1]'(by omega)) := List.getElem?_eq_getElem (by omega)
      rw [h3]
      congr 1
      by_cases hq : i = m - 1
      · subst hq; exact e
      · have hlm := hle (m - 1) (by omega)
        have h4 := (List.pairwise_iff_getElem.1 hs) i (m - 1) (by omega) (by omega) (by omega)
        rw [e] at h4
        refine Classical.byContradiction fun hne => ?_
        have := less_tot hlm (fun e => hne e.symm)
        rw [this] at h4; cases h4
theorem dd_merge {a b ys : List Ltl} (ha : Asc a) (hs : ys.Pairwise fun x y => ltlLess y x = false) (hp : ys.Perm (a ++ b)) : ddTo ys ys.length = mergeL a b := by
  obtain ⟨h1, h2⟩ := ddTo_ok hs ys.length (Nat.le_refl _)
  refine asc_ext h1 (mergeL_asc ha) fun x => ?_
  rw [h2, List.take_length, mem_mergeL, hp.mem_iff, List.mem_append]
def rsOk (n : Int) (a b : List Ltl) (l : Ltl) : Bool := vcF a n && vcF b n && decide (l ∈ a) && decide (negL l ∈ b)
def rsM (a b : List Ltl) (l : Ltl) : List Ltl := mergeL (exF a l) (exF b (negL l))
def rsB (n : Int) (a b : List Ltl) (l : Ltl) : Bool := rsOk n a b l && decide ((rsM a b l).length ≤ 12)
def rsF (n : Int) (a b : List Ltl) (l : Ltl) : List Ltl := if rsB n a b l then rsM a b l else []
theorem rsF_len (n : Int) (a b : List Ltl) (l : Ltl) : (rsF n a b l).length ≤ 12 := by
  unfold rsF
  split
  · rename_i h
    unfold rsB at h
    rw [Bool.and_eq_true] at h
    exact of_decide_eq_true h.2
  · simp
theorem vcF_len {a : List Ltl} {n : Int} (h : vcF a n = true) : a.length ≤ 12 := by
  unfold vcF vclF at h; simp only [Bool.and_eq_true] at h; exact of_decide_eq_true h.2.2
end Go.Proofs.Ytjkgndedffildaa
