/- Plain Lean: sorted clauses and their union. No program in sight. -/
import Derived.Test.YtjkgndedffildaaPlain
namespace Go.Proofs.Ytjkgndedffildaa
set_option linter.unusedVariables false
set_option maxRecDepth 100000

/-- a literal put into a sorted clause. -/
def insL : List Ltl → Ltl → List Ltl
  | [], l => [l]
  | x :: xs, l => if ltlLess x l then x :: insL xs l else if x = l then x :: xs else l :: x :: xs
/-- the union of two sorted clauses. -/
def mergeL (a b : List Ltl) : List Ltl := b.foldl insL a
theorem insL_len (xs : List Ltl) (l : Ltl) : xs.length ≤ (insL xs l).length ∧ (insL xs l).length ≤ xs.length + 1 := by
  induction xs with
  | nil => simp [insL]
  | cons x xs ih =>
    unfold insL
    split
    · simp only [List.length_cons]; omega
    · split <;> simp
theorem mergeL_len (a b : List Ltl) : a.length ≤ (mergeL a b).length ∧ (mergeL a b).length ≤ a.length + b.length := by
  unfold mergeL
  induction b generalizing a with
  | nil => simp
  | cons l b ih =>
    have h1 := insL_len a l
    have h2 := ih (insL a l)
    simp only [List.foldl_cons, List.length_cons]
    omega
theorem mergeL_snoc {xs ys : List Ltl} {k : Nat} {y : Ltl} (hy : ys[k]? = some y) : mergeL xs (ys.take (k + 1)) = insL (mergeL xs (ys.take k)) y := by
  unfold mergeL
  rw [List.take_add_one, hy, List.foldl_append]
  rfl
theorem ltl_ne {x y : Ltl} (h : x ≠ y) : (x.var == y.var && (x.val == y.val && x.neg == y.neg)) = false := by
  rcases x with ⟨a1, a2, a3⟩
  rcases y with ⟨b1, b2, b3⟩
  cases h2 : (a1 == b1 && (a2 == b2 && a3 == b3))
  · rfl
  · simp at h2; exact absurd (by simp [h2]) h
theorem insL_at {xs : List Ltl} {l : Ltl} {k : Nat} (h : AllB (fun x => ltlLess x l) xs k) (hk : k ≤ xs.length) (h2 : ∀ x, xs[k]? = some x → ltlLess x l = false) :
    insL xs l = if xs[k]? = some l then xs else xs.take k ++ l :: xs.drop k := by
  induction xs generalizing k with
  | nil => simp at hk; subst hk; simp [insL]
  | cons x xs ih =>
    cases k with
    | zero =>
      have h3 := h2 x rfl
      unfold insL
      simp [h3]
    | succ k =>
      have h3 : ltlLess x l = true := h 0 x (by omega) rfl
      have h4 := ih (k := k) (fun j y hj hy => h (j + 1) y (by omega) (by simpa using hy)) (by simpa using hk) (fun y hy => h2 y (by simpa using hy))
      unfold insL
      rw [if_pos h3, h4]
      simp only [List.getElem?_cons_succ, List.take_succ_cons, List.drop_succ_cons]
      split <;> rfl
theorem mem_insL {xs : List Ltl} {l y : Ltl} : y ∈ insL xs l ↔ y = l ∨ y ∈ xs := by
  induction xs with
  | nil => simp [insL]
  | cons x xs ih =>
    unfold insL
    split
    · simp only [List.mem_cons, ih]
      constructor
      · rintro (h | h | h) <;> simp [h]
      · rintro (h | h | h) <;> simp [h]
    · split
      · rename_i h; subst h; simp
      · simp
theorem mem_mergeL {a b : List Ltl} {y : Ltl} : y ∈ mergeL a b ↔ y ∈ a ∨ y ∈ b := by
  unfold mergeL
  induction b generalizing a with
  | nil => simp
  | cons l b ih =>
    simp only [List.foldl_cons, ih, mem_insL, List.mem_cons]
    constructor
    · rintro ((h | h) | h) <;> simp [h]
    · rintro (h | h | h) <;> simp [h]
theorem less_irr (a : Ltl) : ltlLess a a = false := by
  unfold ltlLess; simp
theorem less_trans {a b c : Ltl} (h : ltlLess a b = true) (k : ltlLess b c = true) : ltlLess a c = true := by
  rcases a with ⟨v, x, n⟩
  rcases b with ⟨v', x', n'⟩
  rcases c with ⟨v2, x2, n2⟩
  unfold ltlLess at h k ⊢
  simp only at h k ⊢
  repeat' split at h
  all_goals repeat' split at k
  all_goals simp_all
  all_goals repeat' split
  all_goals first | omega | simp_all | (simp; omega)
theorem less_tot {a b : Ltl} (h : ltlLess a b = false) (hne : a ≠ b) : ltlLess b a = true := by
  rcases a with ⟨v, x, n⟩
  rcases b with ⟨v', x', n'⟩
  unfold ltlLess at h ⊢
  simp only at h ⊢
  by_cases h1 : v = v'
  · subst h1
    by_cases h2 : x = x'
    · subst h2
      cases n <;> cases n' <;> simp_all
    · have h3 : ¬ x' = x := fun e => h2 e.symm
      simp [h2, h3] at h ⊢
      omega
  · have h3 : ¬ v' = v := fun e => h1 e.symm
    simp [h1, h3] at h ⊢
    omega
/-- strictly ascending. -/
def Asc (xs : List Ltl) : Prop := xs.Pairwise fun x y => ltlLess x y = true
theorem insL_asc {xs : List Ltl} (h : Asc xs) (l : Ltl) : Asc (insL xs l) := by
  induction xs with
  | nil => simp [insL, Asc]
  | cons x xs ih =>
    have h1 := List.pairwise_cons.1 h
    unfold insL
    split
    · rename_i hl
      refine List.pairwise_cons.2 ⟨fun y hy => ?_, ih h1.2⟩
      rcases mem_insL.1 hy with rfl | hy
      · exact hl
      · exact h1.1 y hy
    · rename_i hl
      split
      · exact h
      · rename_i hne
        have hlx := less_tot (by simpa using hl) hne
        refine List.pairwise_cons.2 ⟨fun y hy => ?_, h⟩
        rcases List.mem_cons.1 hy with rfl | hy
        · exact hlx
        · exact less_trans hlx (h1.1 y hy)
theorem mergeL_asc {a b : List Ltl} (h : Asc a) : Asc (mergeL a b) := by
  unfold mergeL
  induction b generalizing a with
  | nil => exact h
  | cons l b ih => exact ih (insL_asc h l)
theorem insL_in {xs : List Ltl} (h : Asc xs) {l : Ltl} (hl : l ∈ xs) : insL xs l = xs := by
  induction xs with
  | nil => cases hl
  | cons x xs ih =>
    have h1 := List.pairwise_cons.1 h
    unfold insL
    rcases List.mem_cons.1 hl with rfl | hl
    · rw [less_irr]; simp
    · rw [if_pos (h1.1 l hl), ih h1.2 hl]
theorem insL_out {xs : List Ltl} {l : Ltl} (hl : l ∉ xs) : (insL xs l).length = xs.length + 1 := by
  induction xs with
  | nil => simp [insL]
  | cons x xs ih =>
    unfold insL
    split
    · rw [List.length_cons, ih (fun h => hl (List.mem_cons_of_mem _ h))]; rfl
    · rw [if_neg (fun h => hl (by rw [h]; exact List.mem_cons_self))]; rfl
theorem mergeL_sub {a b : List Ltl} (h : Asc a) : decide ((mergeL a b).length = a.length) = b.all fun l => decide (l ∈ a) := by
  induction b generalizing a with
  | nil => simp [mergeL]
  | cons l b ih =>
    have e : mergeL a (l :: b) = mergeL (insL a l) b := rfl
    by_cases hl : l ∈ a
    · rw [e, insL_in h hl, ih h, List.all_cons, decide_eq_true hl, Bool.true_and]
    · have h1 := insL_out hl
      have h2 := (mergeL_len (insL a l) b).1
      rw [e, List.all_cons, decide_eq_false hl, Bool.false_and]
      exact decide_eq_false (by omega)
theorem asc_of_ok {xs : List Ltl} {m : Int} (h : okAll xs m = true) : Asc xs := by
  have h1 : ∀ i, (hi : i + 1 < xs.length) → ltlLess xs[i] xs[i + 1] = true := by
    intro i hi
    unfold okAll at h
    rw [List.all_eq_true] at h
    have h2 := h (i + 1) (by simpa using hi)
    unfold okAt at h2
    rw [List.getElem?_eq_getElem hi] at h2
    simp only [Nat.add_sub_cancel, List.getElem?_eq_getElem (show i < xs.length by omega), Bool.and_eq_true] at h2
    have := h2.2
    simpa using this
  clear h
  induction xs with
  | nil => exact List.Pairwise.nil
  | cons x xs ih =>
    have h3 : Asc xs := ih fun i hi => h1 (i + 1) (by simpa using hi)
    refine List.pairwise_cons.2 ⟨fun y hy => ?_, h3⟩
    cases xs with
    | nil => cases hy
    | cons z zs =>
      have hz : ltlLess x z = true := h1 0 (by simp)
      rcases List.mem_cons.1 hy with rfl | hy
      · exact hz
      · exact less_trans hz ((List.pairwise_cons.1 h3).1 y hy)
theorem asc_of_vcF {xs : List Ltl} {n : Int} (h : vcF xs n = true) : Asc xs := by
  unfold vcF vclF at h
  simp only [Bool.and_eq_true] at h
  exact asc_of_ok h.2.1
/-- all literals of one clause are in another one. -/
def subF (xs ys : List Ltl) (n : Int) : Bool := vcF xs n && vcF ys n && xs.all fun l => decide (l ∈ ys)
end Go.Proofs.Ytjkgndedffildaa
