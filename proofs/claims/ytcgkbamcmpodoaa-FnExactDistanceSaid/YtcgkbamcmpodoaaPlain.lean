/- Plain Lean: numbers, bits of domains, the Luby sequence. No program in sight. -/
import Derived.WalkKit
namespace Go.Proofs.Ytcgkbamcmpodoaa
open Go.RowKit
set_option linter.unusedVariables false

theorem six_cases {k : Nat} (h : k < 6) : k = 0 ∨ k = 1 ∨ k = 2 ∨ k = 3 ∨ k = 4 ∨ k = 5 := by omega
theorem wrap64_pow (k : Nat) (hk : k < 6) : wrap64 (2 ^ k) = 2 ^ k := by
  rcases six_cases hk with rfl | rfl | rfl | rfl | rfl | rfl <;> decide +kernel
theorem pow_le5 (k : Nat) (hk : k < 6) : 0 < (2 : Int) ^ k ∧ (2 : Int) ^ k ≤ 32 := by
  rcases six_cases hk with rfl | rfl | rfl | rfl | rfl | rfl <;> decide
theorem or_tab : ∀ k : Fin 6, ∀ d : Fin 32, d.val < 2 ^ k.val → bits .or .i64 (d.val : Int) (2 ^ k.val) = (d.val : Int) + 2 ^ k.val := by decide +kernel
theorem or_pow (d : Int) (k : Nat) (hk : k < 6) (h0 : 0 ≤ d) (hd : d < 2 ^ k) : bits .or .i64 d (wrap64 (2 ^ k)) = d + 2 ^ k := by
  rw [wrap64_pow k hk]
  have h5 := pow_le5 k hk
  obtain ⟨n, rfl⟩ := Int.eq_ofNat_of_zero_le h0
  exact or_tab ⟨k, hk⟩ ⟨n, by show n < 32; omega⟩ (by simp only []; exact_mod_cast hd)

/-- lo ≤ n ≤ hi. -/
def inB (n lo hi : Int) : Bool := decide (lo ≤ n ∧ n ≤ hi)
theorem inB_true {n lo hi : Int} (h : inB n lo hi = true) : lo ≤ n ∧ n ≤ hi := of_decide_eq_true h
theorem inB_false {n lo hi : Int} (h : inB n lo hi = false) : ¬ (lo ≤ n ∧ n ≤ hi) := of_decide_eq_false h
theorem inB_mk {n lo hi : Int} (h : lo ≤ n ∧ n ≤ hi) : inB n lo hi = true := decide_eq_true h
theorem inB_no {n lo hi : Int} (h : ¬ (lo ≤ n ∧ n ≤ hi)) : inB n lo hi = false := decide_eq_false h
/-- a valid domain. -/
def vdB (d : Int) : Bool := inB d 0 63
/-- bit v of d, as the model's operations have it. -/
def hasB (d v : Int) : Bool := bits BinOp.and IntKind.i64 (d / 2 ^ v.toNat) 1 == 1
/-- v is a value in d. -/
def dhB (d v : Int) : Bool := inB v 0 5 && hasB d v

/-- the domain of the first k values that lie between lo and hi. -/
def drTo (lo hi : Int) : Nat → Int
  | 0 => 0
  | k + 1 => drTo lo hi k + (if inB k lo hi then 2 ^ k else 0)
theorem drTo_bd (lo hi : Int) (k : Nat) : 0 ≤ drTo lo hi k ∧ drTo lo hi k < 2 ^ k := by
  induction k with
  | zero => simp [drTo]
  | succ k ih =>
    have h2 : (2 : Int) ^ (k + 1) = 2 ^ k + 2 ^ k := by rw [Int.pow_succ]; omega
    unfold drTo
    rw [h2]
    split <;> omega
theorem drTo_63 (lo hi : Int) (k : Nat) (hk : k ≤ 6) : 0 ≤ drTo lo hi k ∧ drTo lo hi k ≤ 63 := by
  have h := drTo_bd lo hi k
  have h2 : (2 : Int) ^ k ≤ 64 := by
    have : k < 6 ∨ k = 6 := by omega
    rcases this with h | rfl
    · have := pow_le5 k h; omega
    · decide
  omega

/-- the greatest power of 2 that is a place of the Luby sequence up to i (i at most 127). -/
def pwr (i : Int) : Int := if i ≤ 1 then 1 else if i ≤ 3 then 2 else if i ≤ 7 then 4 else if i ≤ 15 then 8 else if i ≤ 31 then 16 else if i ≤ 63 then 32 else 64
def isP (p : Int) : Prop := p = 1 ∨ p = 2 ∨ p = 4 ∨ p = 8 ∨ p = 16 ∨ p = 32 ∨ p = 64
theorem pwr_of (p i : Int) (hp : isP p) (h : p ≤ i) (hi : i ≤ 127) (hx : i ≤ 2 * p - 1) : pwr i = p := by
  unfold pwr
  rcases hp with rfl | rfl | rfl | rfl | rfl | rfl | rfl <;> (repeat' split) <;> omega
def lub : Nat → Int → Int
  | 0, _ => 0
  | n + 1, i => if i = 2 * pwr i - 1 then pwr i else lub n (i - pwr i + 1)

/-- f holds of the first k elements. -/
def AllB {α : Type} (f : α → Bool) (xs : List α) (k : Nat) : Prop := ∀ j y, j < k → xs[j]? = some y → f y = true
section
variable {α : Type} {f : α → Bool} {xs : List α} {k n : Nat}
theorem AllB.zero (f : α → Bool) (xs : List α) : AllB f xs 0 := fun _ _ h => absurd h (by omega)
theorem AllB.succ (h : AllB f xs k) {x : α} (hx : xs[k]? = some x) (hf : f x = true) : AllB f xs (k + 1) := by
  intro j y hj hy
  rcases Nat.lt_or_ge j k with h1 | h1
  · exact h j y h1 hy
  · obtain rfl : j = k := by omega
    rw [hx] at hy
    injection hy with hy
    rw [← hy]; exact hf
theorem AllB.done (h : AllB f xs n) (hl : xs.length ≤ n) : xs.all f = true := by
  rw [List.all_eq_true]
  intro y hy
  obtain ⟨j, hj, e⟩ := List.getElem_of_mem hy
  exact h j y (by omega) (by rw [List.getElem?_eq_getElem hj, e])
theorem all_no {x : α} (hx : xs[k]? = some x) (hf : f x = false) : xs.all f = false := by
  cases h : xs.all f
  · rfl
  · rw [List.all_eq_true] at h
    have := h x (List.mem_of_getElem? hx)
    rw [hf] at this; cases this
end
/-- the two lists agree on their first k elements. -/
def EqB {α : Type} (xs ys : List α) (k : Nat) : Prop := ∀ j, j < k → xs[j]? = ys[j]?
theorem EqB.zero {α : Type} (xs ys : List α) : EqB xs ys 0 := fun _ h => absurd h (by omega)
theorem EqB.succ {α : Type} {xs ys : List α} {k : Nat} (h : EqB xs ys k) (hx : xs[k]? = ys[k]?) : EqB xs ys (k + 1) := by
  intro j hj
  rcases Nat.lt_or_ge j k with h1 | h1
  · exact h j h1
  · obtain rfl : j = k := by omega
    exact hx
theorem EqB.done {α : Type} {xs ys : List α} {n : Nat} (h : EqB xs ys n) (h1 : xs.length = n) (h2 : ys.length = n) : xs = ys := by
  refine List.ext_getElem? fun j => ?_
  rcases Nat.lt_or_ge j n with hj | hj
  · exact h j hj
  · rw [List.getElem?_eq_none (by omega), List.getElem?_eq_none (by omega)]
theorem ne_of_at {α : Type} {xs ys : List α} {k : Nat} {x y : α} (hx : xs[k]? = some x) (hy : ys[k]? = some y) (h : x ≠ y) : xs ≠ ys := by
  rintro rfl
  rw [hx] at hy
  injection hy with hy
  exact h hy

/-- at how many of the first k places two lists differ. -/
def distTo (xs ys : List Int) : Nat → Int
  | 0 => 0
  | k + 1 => distTo xs ys k + (if xs[k]?.getD 0 = ys[k]?.getD 0 then 0 else 1)
theorem distTo_bd (xs ys : List Int) (k : Nat) : 0 ≤ distTo xs ys k ∧ distTo xs ys k ≤ k := by
  induction k with
  | zero => simp [distTo]
  | succ k ih => unfold distTo; split <;> omega
theorem distTo_eq {xs ys : List Int} {k : Nat} {x y : Int} (hx : xs[k]? = some x) (hy : ys[k]? = some y) : distTo xs ys (k + 1) = distTo xs ys k + (if x = y then 0 else 1) := by
  rw [distTo, hx, hy]; rfl
/-- the sum of the first k products, as an int is. -/
def valTo (xs ys : List Int) : Nat → Int
  | 0 => 0
  | k + 1 => wrap64 (valTo xs ys k + wrap64 (xs[k]?.getD 0 * ys[k]?.getD 0))
theorem valTo_eq {xs ys : List Int} {k : Nat} {x y : Int} (hx : xs[k]? = some x) (hy : ys[k]? = some y) : valTo xs ys (k + 1) = wrap64 (valTo xs ys k + wrap64 (x * y)) := by
  rw [valTo, hx, hy]; rfl
/-- p holds somewhere below n. -/
def anyN (p : Nat → Bool) : Nat → Bool
  | 0 => false
  | k + 1 => anyN p k || p k
theorem anyN_no {p : Nat → Bool} {k n : Nat} (h : p k = true) (hk : k < n) : anyN p n = true := by
  induction n with
  | zero => omega
  | succ n ih =>
    unfold anyN
    rcases Nat.lt_or_ge k n with h1 | h1
    · rw [ih h1]; rfl
    · obtain rfl : k = n := by omega
      rw [h]; simp
theorem anyN_list {α : Type} (f : α → Bool) (d : α) (xs : List α) (n : Nat) (hn : xs.length = n) : anyN (fun k => f (xs[k]?.getD d)) n = xs.any f := by
  have h : ∀ k, k ≤ xs.length → anyN (fun k => f (xs[k]?.getD d)) k = (xs.take k).any f := by
    intro k
    induction k with
    | zero => intro _; simp [anyN]
    | succ k ih =>
      intro hk
      rw [anyN, ih (by omega), List.take_add_one, List.any_append]
      rw [List.getElem?_eq_getElem (by omega)]
      simp
  subst hn
  rw [h _ (Nat.le_refl _), List.take_length]
theorem anyN_congr {p q : Nat → Bool} {n : Nat} (h : ∀ k, k < n → p k = q k) : anyN p n = anyN q n := by
  induction n with
  | zero => rfl
  | succ n ih => rw [anyN, anyN, ih (fun k hk => h k (by omega)), h n (by omega)]

/-- k elements copied, the rest still zero values z. -/
def fillTo {α : Type} (f : α → Value) (z : Value) (xs : List α) (n k : Nat) : List Value := (xs.take k).map f ++ List.replicate (n - k) z
theorem fillTo_set {α : Type} (f : α → Value) (z : Value) {xs : List α} {n k : Nat} {x : α} (hl : xs.length = n) (hx : xs[k]? = some x) : (fillTo f z xs n k).set k (f x) = fillTo f z xs n (k + 1) := by
  have hk : k < xs.length := by
    rcases Nat.lt_or_ge k xs.length with h | h
    · exact h
    · rw [List.getElem?_eq_none h] at hx; cases hx
  unfold fillTo
  have h1 : n - k = (n - (k + 1)) + 1 := by omega
  rw [h1, List.replicate_succ, List.set_append_right _ _ (by simp; omega)]
  have h2 : k - (List.map f (List.take k xs)).length = 0 := by simp; omega
  rw [h2, List.set_cons_zero, List.take_add_one, hx]
  simp
theorem fillTo_zero {α : Type} (f : α → Value) (z : Value) (xs : List α) (n : Nat) : fillTo f z xs n 0 = List.replicate n z := by simp [fillTo]
theorem fillTo_done {α : Type} (f : α → Value) (z : Value) {xs : List α} {n : Nat} (hl : xs.length = n) : fillTo f z xs n n = xs.map f := by
  subst hl
  simp [fillTo]
theorem fillTo_at {α : Type} (f : α → Value) (z : Value) {xs : List α} {n k : Nat} (hl : xs.length = n) (hk : k < n) : (fillTo f z xs n k)[k]? = some z := by
  unfold fillTo
  have h1 : (List.map f (List.take k xs)).length = k := by simp; omega
  rw [List.getElem?_append_right (by omega), h1, List.getElem?_replicate, if_pos (by omega)]
def objF (xs ys : List Int) (n m : Nat) : Int := if n = m ∧ n ≤ 4 ∧ (xs.all fun x => inB x (-9) 9) = true ∧ (ys.all fun x => inB x 0 5) = true then valTo xs ys n else 0
def distF (xs ys : List Int) (n m : Nat) : Int := if n = m then distTo xs ys n else -1
/-- the values below k in the domain d. -/
def valsTo (d : Int) : Nat → List Int
  | 0 => []
  | k + 1 => valsTo d k ++ (if hasB d k then [(k : Int)] else [])
theorem valsTo_len (d : Int) (k : Nat) : (valsTo d k).length ≤ k := by
  induction k with
  | zero => simp [valsTo]
  | succ k ih => rw [valsTo, List.length_append]; split <;> simp <;> omega
def szD (d : Int) : Int := (valsTo d 6).length
/-- a domain as a Fin. -/
theorem dom_fin {d : Int} (h0 : 0 ≤ d) (h1 : d ≤ 63) : ∃ n : Fin 64, d = (n.val : Int) := ⟨⟨d.toNat, by omega⟩, by simp; omega⟩
theorem vdB_fin {d : Int} (h : vdB d = true) : ∃ n : Fin 64, d = (n.val : Int) := dom_fin (inB_true h).1 (inB_true h).2
def dvF (d : Int) : List Int := if vdB d then valsTo d 6 else []
def dsF (d : Int) : Int := if vdB d then szD d else -1
theorem dvF_len (d : Int) : (dvF d).length ≤ 6 := by unfold dvF; split; exact valsTo_len d 6; simp
/-- k, k + 1, ..: n numbers. -/
def seqF (k : Int) (n : Nat) : List Int := (List.range n).map fun (i : Nat) => k + (i : Int)
theorem seqF_len (k : Int) (n : Nat) : (seqF k n).length = n := by simp [seqF]
theorem seqF_at {k : Int} {n j : Nat} (h : j < n) : (seqF k n)[j]? = some (k + (j : Int)) := by simp [seqF, h]
/-- the first j elements numbered from k on, the others as they were. -/
def markTo (k : Int) (xs : List Int) (j : Nat) : List Int := seqF k j ++ xs.drop j
theorem markTo_zero (k : Int) (xs : List Int) : markTo k xs 0 = xs := by simp [markTo, seqF]
theorem markTo_done {k : Int} {xs : List Int} {n : Nat} (h : xs.length = n) : markTo k xs n = seqF k n := by simp [markTo, ← h]
theorem markTo_set {k : Int} {xs : List Int} {j : Nat} (h : j < xs.length) : (markTo k xs j).set j (k + (j : Int)) = markTo k xs (j + 1) := by
  unfold markTo
  rw [List.set_append_right _ _ (by rw [seqF_len]; omega), seqF_len, Nat.sub_self, List.drop_eq_getElem_cons h, List.set_cons_zero]
  simp [seqF, List.range_succ]
theorem markTo_at {k : Int} {xs : List Int} {j : Nat} (h : j < xs.length) : (markTo k xs j)[j]? = some xs[j] := by
  unfold markTo
  rw [List.getElem?_append_right (by rw [seqF_len]; omega), seqF_len, Nat.sub_self, List.drop_eq_getElem_cons h]
  rfl
end Go.Proofs.Ytcgkbamcmpodoaa
