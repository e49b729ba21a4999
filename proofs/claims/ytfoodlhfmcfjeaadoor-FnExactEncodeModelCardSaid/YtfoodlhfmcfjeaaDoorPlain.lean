/- Plain Lean: numbers, bits of domains, the Luby sequence. No program in sight. -/
import Derived.WalkKit
namespace Go.Proofs.YtfoodlhfmcfjeaaDoor
open Go.RowKit
set_option linter.unusedVariables false
set_option maxRecDepth 100000

theorem six_cases {k : Nat} (h : k < 6) : k = 0 ∨ k = 1 ∨ k = 2 ∨ k = 3 ∨ k = 4 ∨ k = 5 := by omega
theorem wrap64_pow (k : Nat) (hk : k < 6) : wrap64 (2 ^ k) = 2 ^ k := by
  rcases six_cases hk with rfl | rfl | rfl | rfl | rfl | rfl <;> decide +kernel
theorem pow_le5 (k : Nat) (hk : k < 6) : 0 < (2 : Int) ^ k ∧ (2 : Int) ^ k ≤ 32 := by
  rcases six_cases hk with rfl | rfl | rfl | rfl | rfl | rfl <;> decide
theorem or_tab : ∀ k : Fin 6, ∀ d : Fin 32, d.val < 2 ^ k.val → bits .or .i64 (d.val : Int) (2 ^ k.val) = (d.val : Int) + 2 ^ k.val := by decide +kernel
theorem or_pow (d : Int) (k : Nat) (hk : k < 6) (h0 : 0 ≤ d) (hd : d < 2 ^ k) : bits .or .i64 d (wrap64 (2 ^ k)) = d + 2 ^ k := by
  rw [wrap64_pow k hk]
  have h5 := pow_le5 k hk
  obtain ⟨n, rfl⟩ := Int.eq_ofNat_of_zero_le h0
  exact or_tab ⟨k, hk⟩ ⟨n, by show n < 32; omega⟩ (by simp only []; exact_mod_cast hd)

/-- lo ≤ n ≤ hi. -/
def inB (n lo hi : Int) : Bool := decide (lo ≤ n ∧ n ≤ hi)
theorem inB_true {n lo hi : Int} (h : inB n lo hi = true) : lo ≤ n ∧ n ≤ hi := of_decide_eq_true h
theorem inB_false {n lo hi : Int} (h : inB n lo hi = false) : ¬ (lo ≤ n ∧ n ≤ hi) := of_decide_eq_false h
theorem inB_mk {n lo hi : Int} (h : lo ≤ n ∧ n ≤ hi) : inB n lo hi = true := decide_eq_true h
theorem inB_no {n lo hi : Int} (h : ¬ (lo ≤ n ∧ n ≤ hi)) : inB n lo hi = false := decide_eq_false h
/-- a valid domain. -/
def vdB (d : Int) : Bool := inB d 0 63
/-- bit v of d, as the model's operations have it. -/
def hasB (d v : Int) : Bool := bits BinOp.and IntKind.i64 (d / 2 ^ v.toNat) 1 == 1
/-- v is a value in d. -/
def dhB (d v : Int) : Bool := inB v 0 5 && hasB d v

/-- the domain of the first k values that lie between lo and hi. -/
def drTo (lo hi : Int) : Nat → Int
  | 0 => 0
  | k + 1 => drTo lo hi k + (if inB k lo hi then 2 ^ k else 0)
theorem drTo_bd (lo hi : Int) (k : Nat) : 0 ≤ drTo lo hi k ∧ drTo lo hi k < 2 ^ k := by
  induction k with
  | zero => simp [drTo]
  | succ k ih =>
    have h2 : (2 : Int) ^ (k + 1) = 2 ^ k + 2 ^ k := by rw [Int.pow_succ]; omega
    unfold drTo
    rw [h2]
    split <;> omega
theorem drTo_63 (lo hi : Int) (k : Nat) (hk : k ≤ 6) : 0 ≤ drTo lo hi k ∧ drTo lo hi k ≤ 63 := by
  have h := drTo_bd lo hi k
  have h2 : (2 : Int) ^ k ≤ 64 := by
    have : k < 6 ∨ k = 6 := by omega
    rcases this with h | rfl
    · have := pow_le5 k h; omega
    · decide
  omega

/-- the greatest power of 2 that is a place of the Luby sequence up to i (i at most 127). -/
def pwr (i : Int) : Int := if i ≤ 1 then 1 else if i ≤ 3 then 2 else if i ≤ 7 then 4 else if i ≤ 15 then 8 else if i ≤ 31 then 16 else if i ≤ 63 then 32 else 64
def isP (p : Int) : Prop := p = 1 ∨ p = 2 ∨ p = 4 ∨ p = 8 ∨ p = 16 ∨ p = 32 ∨ p = 64
theorem pwr_of (p i : Int) (hp : isP p) (h : p ≤ i) (hi : i ≤ 127) (hx : i ≤ 2 * p - 1) : pwr i = p := by
  unfold pwr
  rcases hp with rfl | rfl | rfl | rfl | rfl | rfl | rfl <;> (repeat' split) <;> omega
def lub : Nat → Int → Int
  | 0, _ => 0
  | n + 1, i => if i = 2 * pwr i - 1 then pwr i else lub n (i - pwr i + 1)

/-- f holds of the first k elements. -/
def AllB {α : Type} (f : α → Bool) (xs : List α) (k : Nat) : Prop := ∀ j y, j < k → xs[j]? = some y → f y = true
section
variable {α : Type} {f : α → Bool} {xs : List α} {k n : Nat}
theorem AllB.zero (f : α → Bool) (xs : List α) : AllB f xs 0 := fun _ _ h => absurd h (by omega)
theorem AllB.succ (h : AllB f xs k) {x : α} (hx : xs[k]? = some x) (hf : f x = true) : AllB f xs (k + 1) := by
  intro j y hj hy
  rcases Nat.lt_or_ge j k with h1 | h1
  · exact h j y h1 hy
  · obtain rfl : j = k := by omega
    rw [hx] at hy
    injection hy with hy
    rw [← hy]; exact hf
theorem AllB.done (h : AllB f xs n) (hl : xs.length ≤ n) : xs.all f = true := by
  rw [List.all_eq_true]
  intro y hy
  obtain ⟨j, hj, e⟩ := List.getElem_of_mem hy
  exact h j y (by omega) (by rw [List.getElem?_eq_getElem hj, e])
theorem all_no {x : α} (hx : xs[k]? = some x) (hf : f x = false) : xs.all f = false := by
  cases h : xs.all f
  · rfl
  · rw [List.all_eq_true] at h
    have := h x (List.mem_of_getElem? hx)
    rw [hf] at this; cases this
end
/-- the two lists agree on their first k elements. -/
def EqB {α : Type} (xs ys : List α) (k : Nat) : Prop := ∀ j, j < k → xs[j]? = ys[j]?
theorem EqB.zero {α : Type} (xs ys : List α) : EqB xs ys 0 := fun _ h => absurd h (by omega)
theorem EqB.succ {α : Type} {xs ys : List α} {k : Nat} (h : EqB xs ys k) (hx : xs[k]? = ys[k]?) : EqB xs ys (k + 1) := by
  intro j hj
  rcases Nat.lt_or_ge j k with h1 | h1
  · exact h j h1
  · obtain rfl : j = k := by omega
    exact hx
theorem EqB.done {α : Type} {xs ys : List α} {n : Nat} (h : EqB xs ys n) (h1 : xs.length = n) (h2 : ys.length = n) : xs = ys := by
  refine List.ext_getElem? fun j => ?_
  rcases Nat.lt_or_ge j n with hj | hj
  · exact h j hj
  · rw [List.getElem?_eq_none (by omega), List.getElem?_eq_none (by omega)]
theorem ne_of_at {α : Type} {xs ys : List α} {k : Nat} {x y : α} (hx : xs[k]? = some x) (hy : ys[k]? = some y) (h : x ≠ y) : xs ≠ ys := by
  rintro rfl
  rw [hx] at hy
  injection hy with hy
  exact h hy

/-- at how many of the first k places two lists differ. -/
def distTo (xs ys : List Int) : Nat → Int
  | 0 => 0
  | k + 1 => distTo xs ys k + (if xs[k]?.getD 0 = ys[k]?.getD 0 then 0 else 1)
theorem distTo_bd (xs ys : List Int) (k : Nat) : 0 ≤ distTo xs ys k ∧ distTo xs ys k ≤ k := by
  induction k with
  | zero => simp [distTo]
  | succ k ih => unfold distTo; split <;> omega
theorem distTo_eq {xs ys : List Int} {k : Nat} {x y : Int} (hx : xs[k]? = some x) (hy : ys[k]? = some y) : distTo xs ys (k + 1) = distTo xs ys k + (if x = y then 0 else 1) := by
  rw [distTo, hx, hy]; rfl
/-- the sum of the first k products, as an int is. -/
def valTo (xs ys : List Int) : Nat → Int
  | 0 => 0
  | k + 1 => wrap64 (valTo xs ys k + wrap64 (xs[k]?.getD 0 * ys[k]?.getD 0))
theorem valTo_eq {xs ys : List Int} {k : Nat} {x y : Int} (hx : xs[k]? = some x) (hy : ys[k]? = some y) : valTo xs ys (k + 1) = wrap64 (valTo xs ys k + wrap64 (x * y)) := by
  rw [valTo, hx, hy]; rfl
/-- p holds somewhere below n. -/
def anyN (p : Nat → Bool) : Nat → Bool
  | 0 => false
  | k + 1 => anyN p k || p k
theorem anyN_no {p : Nat → Bool} {k n : Nat} (h : p k = true) (hk : k < n) : anyN p n = true := by
  induction n with
  | zero => omega
  | succ n ih =>
    unfold anyN
    rcases Nat.lt_or_ge k n with h1 | h1
    · rw [ih h1]; rfl
    · obtain rfl : k = n := by omega
      rw [h]; simp
theorem anyN_list {α : Type} (f : α → Bool) (d : α) (xs : List α) (n : Nat) (hn : xs.length = n) : anyN (fun k => f (xs[k]?.getD d)) n = xs.any f := by
  have h : ∀ k, k ≤ xs.length → anyN (fun k => f (xs[k]?.getD d)) k = (xs.take k).any f := by
    intro k
    induction k with
    | zero => intro _; simp [anyN]
    | succ k ih =>
      intro hk
      rw [anyN, ih (by omega), List.take_add_one, List.any_append]
      rw [List.getElem?_eq_getElem (by omega)]
      simp
  subst hn
  rw [h _ (Nat.le_refl _), List.take_length]
theorem anyN_congr {p q : Nat → Bool} {n : Nat} (h : ∀ k, k < n → p k = q k) : anyN p n = anyN q n := by
  induction n with
  | zero => rfl
  | succ n ih => rw [anyN, anyN, ih (fun k hk => h k (by omega)), h n (by omega)]

/-- k elements copied, the rest still zero values z. -/
def fillTo {α : Type} (f : α → Value) (z : Value) (xs : List α) (n k : Nat) : List Value := (xs.take k).map f ++ List.replicate (n - k) z
theorem fillTo_set {α : Type} (f : α → Value) (z : Value) {xs : List α} {n k : Nat} {x : α} (hl : xs.length = n) (hx : xs[k]? = some x) : (fillTo f z xs n k).set k (f x) = fillTo f z xs n (k + 1) := by
  have hk : k < xs.length := by
    rcases Nat.lt_or_ge k xs.length with h | h
    · exact h
    · rw [List.getElem?_eq_none h] at hx; cases hx
  unfold fillTo
  have h1 : n - k = (n - (k + 1)) + 1 := by omega
  rw [h1, List.replicate_succ, List.set_append_right _ _ (by simp; omega)]
  have h2 : k - (List.map f (List.take k xs)).length = 0 := by simp; omega
  rw [h2, List.set_cons_zero, List.take_add_one, hx]
  simp
theorem fillTo_zero {α : Type} (f : α → Value) (z : Value) (xs : List α) (n : Nat) : fillTo f z xs n 0 = List.replicate n z := by simp [fillTo]
theorem fillTo_done {α : Type} (f : α → Value) (z : Value) {xs : List α} {n : Nat} (hl : xs.length = n) : fillTo f z xs n n = xs.map f := by
  subst hl
  simp [fillTo]
theorem fillTo_at {α : Type} (f : α → Value) (z : Value) {xs : List α} {n k : Nat} (hl : xs.length = n) (hk : k < n) : (fillTo f z xs n k)[k]? = some z := by
  unfold fillTo
  have h1 : (List.map f (List.take k xs)).length = k := by simp; omega
  rw [List.getElem?_append_right (by omega), h1, List.getElem?_replicate, if_pos (by omega)]
def objF (xs ys : List Int) (n m : Nat) : Int := if n = m ∧ n ≤ 4 ∧ (xs.all fun x => inB x (-9) 9) = true ∧ (ys.all fun x => inB x 0 5) = true then valTo xs ys n else 0
def distF (xs ys : List Int) (n m : Nat) : Int := if n = m then distTo xs ys n else -1
/-- the values below k in the domain d. -/
def valsTo (d : Int) : Nat → List Int
  | 0 => []
  | k + 1 => valsTo d k ++ (if hasB d k then [(k : Int)] else [])
theorem valsTo_len (d : Int) (k : Nat) : (valsTo d k).length ≤ k := by
  induction k with
  | zero => simp [valsTo]
  | succ k ih => rw [valsTo, List.length_append]; split <;> simp <;> omega
def szD (d : Int) : Int := (valsTo d 6).length
/-- a domain as a Fin. -/
theorem dom_fin {d : Int} (h0 : 0 ≤ d) (h1 : d ≤ 63) : ∃ n : Fin 64, d = (n.val : Int) := ⟨⟨d.toNat, by omega⟩, by simp; omega⟩
theorem vdB_fin {d : Int} (h : vdB d = true) : ∃ n : Fin 64, d = (n.val : Int) := dom_fin (inB_true h).1 (inB_true h).2
def dvF (d : Int) : List Int := if vdB d then valsTo d 6 else []
def dsF (d : Int) : Int := if vdB d then szD d else -1
theorem dvF_len (d : Int) : (dvF d).length ≤ 6 := by unfold dvF; split; exact valsTo_len d 6; simp
/-- k, k + 1, ..: n numbers. -/
def seqF (k : Int) (n : Nat) : List Int := (List.range n).map fun (i : Nat) => k + (i : Int)
theorem seqF_len (k : Int) (n : Nat) : (seqF k n).length = n := by simp [seqF]
theorem seqF_at {k : Int} {n j : Nat} (h : j < n) : (seqF k n)[j]? = some (k + (j : Int)) := by simp [seqF, h]
/-- the first j elements numbered from k on, the others as they were. -/
def markTo (k : Int) (xs : List Int) (j : Nat) : List Int := seqF k j ++ xs.drop j
theorem markTo_zero (k : Int) (xs : List Int) : markTo k xs 0 = xs := by simp [markTo, seqF]
theorem markTo_done {k : Int} {xs : List Int} {n : Nat} (h : xs.length = n) : markTo k xs n = seqF k n := by simp [markTo, ← h]
theorem markTo_set {k : Int} {xs : List Int} {j : Nat} (h : j < xs.length) : (markTo k xs j).set j (k + (j : Int)) = markTo k xs (j + 1) := by
  unfold markTo
  rw [List.set_append_right _ _ (by rw [seqF_len]; omega), seqF_len, Nat.sub_self, List.drop_eq_getElem_cons h, List.set_cons_zero]
  simp [seqF, List.range_succ]
theorem markTo_at {k : Int} {xs : List Int} {j : Nat} (h : j < xs.length) : (markTo k xs j)[j]? = some xs[j] := by
  unfold markTo
  rw [List.getElem?_append_right (by rw [seqF_len]; omega), seqF_len, Nat.sub_self, List.drop_eq_getElem_cons h]
  rfl

/-- A literal. -/
structure Ltl where
  var : Int
  val : Int
  neg : Bool
  deriving DecidableEq
/-- The order of literals. -/
def ltlLess (a b : Ltl) : Bool := if a.var = b.var then (if a.val = b.val then !a.neg && b.neg else decide (a.val < b.val)) else decide (a.var < b.var)
def ltlV (l : Ltl) : Value := .agg #[.int .i64 l.var, .int .i64 l.val, .bool l.neg]
/-- what is left behind n more elements; -1 where too many. -/
def szF (left : Int) (n : Nat) : Int := if left - n < 0 then -1 else left - n

/-- k elements of several cells copied, the rest still z. -/
def fillK {α : Type} (f : α → List Value) (z : List Value) (xs : List α) (n k : Nat) : List Value := (xs.take k).flatMap f ++ (List.replicate (n - k) z).flatten
theorem flatMap_len {α : Type} (f : α → List Value) (s : Nat) (hf : ∀ x, (f x).length = s) (xs : List α) : (xs.flatMap f).length = xs.length * s := by
  induction xs with
  | nil => simp
  | cons x xs ih => rw [List.flatMap_cons, List.length_append, hf, ih, List.length_cons, Nat.succ_mul]; omega
theorem fillK_zero {α : Type} (f : α → List Value) (z : List Value) (xs : List α) (n : Nat) : fillK f z xs n 0 = (List.replicate n z).flatten := by simp [fillK]
theorem fillK_done {α : Type} (f : α → List Value) (z : List Value) {xs : List α} {n : Nat} (hl : xs.length = n) : fillK f z xs n n = xs.flatMap f := by
  subst hl
  simp [fillK]
theorem fillK_step {α : Type} (f : α → List Value) (z : List Value) {xs : List α} {n k : Nat} {x : α} (hk : k < n) (hx : xs[k]? = some x) : fillK f z xs n k = (xs.take k).flatMap f ++ (z ++ (List.replicate (n - (k + 1)) z).flatten) ∧ fillK f z xs n (k + 1) = (xs.take k).flatMap f ++ (f x ++ (List.replicate (n - (k + 1)) z).flatten) := by
  unfold fillK
  constructor
  · rw [show n - k = (n - (k + 1)) + 1 by omega, List.replicate_succ, List.flatten_cons]
  · rw [List.take_add_one, hx]
    simp
/-- three cells set in a row. -/
theorem set3 (p : List Value) (a b c x y z : Value) (q : List Value) (m : Nat) (hm : p.length = m) : (((p ++ ([a, b, c] ++ q)).set m x).set (m + 1) y).set (m + 2) z = p ++ ([x, y, z] ++ q) := by
  subst hm
  rw [List.set_append_right _ _ (Nat.le_refl _), Nat.sub_self, List.set_append_right _ _ (by omega), List.set_append_right _ _ (by omega)]
  rw [show p.length + 1 - p.length = 1 by omega, show p.length + 2 - p.length = 2 by omega]
  rfl
theorem at3 (p : List Value) (a b c : Value) (q : List Value) (m : Nat) (hm : p.length = m) : (p ++ ([a, b, c] ++ q))[m]? = some a ∧ (p ++ ([a, b, c] ++ q))[m + 1]? = some b ∧ (p ++ ([a, b, c] ++ q))[m + 2]? = some c := by
  subst hm
  refine ⟨?_, ?_, ?_⟩ <;> rw [List.getElem?_append_right (by omega)] <;> simp
def ltlCs (l : Ltl) : List Value := [.int .i64 l.var, .int .i64 l.val, .bool l.neg]
/-- the first number that is not 0, or 0. -/
def orF : List Int → Int
  | [] => 0
  | x :: xs => if x = 0 then orF xs else x
theorem orF_at {xs : List Int} {k : Nat} {x : Int} (h : AllB (fun y => y == 0) xs k) (hx : xs[k]? = some x) (hne : x ≠ 0) : orF xs = x := by
  induction xs generalizing k with
  | nil => simp at hx
  | cons y ys ih =>
    cases k with
    | zero => simp at hx; subst hx; simp [orF, hne]
    | succ k =>
      have hy : y = 0 := by simpa using h 0 y (by omega) rfl
      rw [orF, if_pos hy]
      exact ih (k := k) (fun j z hj hz => h (j + 1) z (by omega) (by simpa using hz)) (by simpa using hx)
theorem orF_zero {xs : List Int} (h : xs.all (fun y => y == 0) = true) : orF xs = 0 := by
  induction xs with
  | nil => rfl
  | cons y ys ih =>
    rw [List.all_cons, Bool.and_eq_true] at h
    rw [orF, if_pos (by simpa using h.1)]
    exact ih h.2
def cmpI (x y : Int) : Int := if x < y then -1 else if y < x then 1 else 0
def bitI (b : Bool) : Int := if b then 1 else 0
/-- the program's comparison of literals. -/
def cmpL (a b : Ltl) : Int := orF [cmpI a.var b.var, cmpI a.val b.val, cmpI (bitI a.neg) (bitI b.neg)]
theorem cmpL_less (a b : Ltl) : decide (0 ≤ cmpL a b) = !ltlLess a b := by
  unfold cmpL ltlLess cmpI orF orF orF orF
  rcases a with ⟨v, x, n⟩
  rcases b with ⟨v', x', n'⟩
  simp only
  by_cases h1 : v = v'
  · subst h1
    by_cases h2 : x = x'
    · subst h2
      cases n <;> cases n' <;> simp [bitI]
    · by_cases h3 : x < x'
      · simp [h2, h3]
      · have : x' < x := by omega
        simp [h2, h3, this]
  · by_cases h3 : v < v'
    · simp [h1, h3]
    · have : v' < v := by omega
      simp [h1, h3, this]
/-- the i-th literal of a clause is in order (m: the greatest variable). -/
def okAt (xs : List Ltl) (m : Int) (i : Nat) : Bool :=
  match xs[i]? with
  | some x => inB x.var 0 m && inB x.val 0 5 && (i == 0 || match xs[i - 1]? with | some y => ltlLess y x | none => true)
  | none => true
def okAll (xs : List Ltl) (m : Int) : Bool := (List.range xs.length).all (okAt xs m)
def OkTo (xs : List Ltl) (m : Int) (k : Nat) : Prop := ∀ i, i < k → okAt xs m i = true
theorem OkTo.zero (xs : List Ltl) (m : Int) : OkTo xs m 0 := fun _ h => absurd h (by omega)
theorem OkTo.succ {xs : List Ltl} {m : Int} {k : Nat} (h : OkTo xs m k) (hk : okAt xs m k = true) : OkTo xs m (k + 1) := by
  intro i hi
  rcases Nat.lt_or_ge i k with h1 | h1
  · exact h i h1
  · obtain rfl : i = k := by omega
    exact hk
theorem OkTo.done {xs : List Ltl} {m : Int} {n : Nat} (h : OkTo xs m n) (hl : xs.length = n) : okAll xs m = true := by
  unfold okAll
  rw [List.all_eq_true]
  intro i hi
  exact h i (by rw [← hl]; simpa using hi)
theorem okAll_no {xs : List Ltl} {m : Int} {k n : Nat} (hl : xs.length = n) (hk : k < n) (h : okAt xs m k = false) : okAll xs m = false := by
  cases h2 : okAll xs m
  · rfl
  · unfold okAll at h2
    rw [List.all_eq_true] at h2
    rw [h2 k (by simp; omega)] at h; cases h
theorem okAt_z {xs : List Ltl} {m : Int} {k : Nat} {x : Ltl} (hk : k = 0) (hx : xs[k]? = some x) : okAt xs m k = (inB x.var 0 m && inB x.val 0 5) := by
  unfold okAt; rw [hx]; simp [hk]
theorem okAt_p {xs : List Ltl} {m : Int} {k : Nat} {x y : Ltl} (hk : 0 < k) (hx : xs[k]? = some x) (hy : xs[k - 1]? = some y) : okAt xs m k = (inB x.var 0 m && inB x.val 0 5 && ltlLess y x) := by
  have h0 : (k == 0) = false := by simp; omega
  unfold okAt; rw [hx]; simp [hy, h0]
theorem okAt_f {xs : List Ltl} {m : Int} {k : Nat} {x : Ltl} (hx : xs[k]? = some x) (h : (inB x.var 0 m && inB x.val 0 5) = false) : okAt xs m k = false := by
  unfold okAt; rw [hx]; simp only [h, Bool.false_and]
theorem vclF_no_ {xs : List Ltl} {n : Int} {k l : Nat} (hl : xs.length = l) (hk : k < l) (h : okAt xs (wrap64 (n - 1)) k = false) : (okAll xs (wrap64 (n - 1)) && decide (xs.length ≤ 12)) = false := by
  rw [okAll_no hl hk h]; rfl
/-- a clause is valid for n variables but for n's own range. -/
def vclF (xs : List Ltl) (n : Int) : Bool := okAll xs (wrap64 (n - 1)) && decide (xs.length ≤ 12)
def vcF (xs : List Ltl) (n : Int) : Bool := inB n 1 4 && vclF xs n
theorem vclF_no {xs : List Ltl} {n : Int} {k l : Nat} (hl : xs.length = l) (hk : k < l) (h : okAt xs (wrap64 (n - 1)) k = false) : vclF xs n = false := vclF_no_ hl hk h
theorem vcF_no {xs : List Ltl} {n : Int} {k l : Nat} (hl : xs.length = l) (hk : k < l) (h : okAt xs (wrap64 (n - 1)) k = false) : vcF xs n = false := by
  unfold vcF; rw [vclF_no hl hk h]; simp
theorem flatMap_at {α : Type} (f : α → List Value) (s : Nat) (hf : ∀ x, (f x).length = s) (xs : List α) {i j : Nat} {x : α} (hx : xs[i]? = some x) (hj : j < s) : (xs.flatMap f)[i * s + j]? = (f x)[j]? := by
  induction xs generalizing i with
  | nil => simp at hx
  | cons y ys ih =>
    rw [List.flatMap_cons]
    cases i with
    | zero =>
      simp at hx
      subst hx
      rw [Nat.zero_mul, Nat.zero_add, List.getElem?_append_left (by rw [hf]; exact hj)]
    | succ i =>
      rw [List.getElem?_append_right (by rw [hf, Nat.succ_mul]; omega), hf, ← ih (i := i) (by simpa using hx)]
      congr 1
      rw [Nat.succ_mul]; omega
/-- the values for which a literal is true. -/
def truesF (l : Ltl) : Int := if l.neg then bits .andNot .i64 63 (2 ^ l.val.toNat) else 2 ^ l.val.toNat
theorem trues_tab : ∀ v x : Fin 6, ∀ b : Bool, hasB (truesF ⟨0, (v.val : Int), b⟩) (x.val : Int) = (((x.val : Int) == (v.val : Int)) != b) := by decide +kernel
theorem trues_has (l : Ltl) (x : Int) (h0 : 0 ≤ l.val) (h1 : l.val ≤ 5) (x0 : 0 ≤ x) (x1 : x ≤ 5) : hasB (truesF l) x = ((x == l.val) != l.neg) := by
  obtain ⟨v, hv⟩ : ∃ v : Fin 6, l.val = (v.val : Int) := ⟨⟨l.val.toNat, by omega⟩, by simp; omega⟩
  obtain ⟨y, hy⟩ : ∃ y : Fin 6, x = (y.val : Int) := ⟨⟨x.toNat, by omega⟩, by simp; omega⟩
  have := trues_tab v y l.neg
  rw [hy, hv, ← this]
  unfold truesF
  simp [hv]
theorem trues_bd_tab : ∀ v : Fin 6, ∀ b : Bool, 0 ≤ truesF ⟨0, (v.val : Int), b⟩ ∧ truesF ⟨0, (v.val : Int), b⟩ ≤ 63 := by decide +kernel
theorem trues_bd (l : Ltl) (h0 : 0 ≤ l.val) (h1 : l.val ≤ 5) : 0 ≤ truesF l ∧ truesF l ≤ 63 := by
  obtain ⟨v, hv⟩ : ∃ v : Fin 6, l.val = (v.val : Int) := ⟨⟨l.val.toNat, by omega⟩, by simp; omega⟩
  have := trues_bd_tab v l.neg
  unfold truesF at this ⊢
  simpa [hv] using this
/-- a literal is true at an assignment. -/
def litH (ys : List Int) (l : Ltl) : Bool := (ys[l.var.toNat]?.getD 0 == l.val) != l.neg
theorem okAll_vals {xs : List Ltl} {m : Int} (h : okAll xs m = true) : ∀ x ∈ xs, 0 ≤ x.var ∧ x.var ≤ m ∧ 0 ≤ x.val ∧ x.val ≤ 5 := by
  intro x hx
  obtain ⟨k, hk, e⟩ := List.getElem_of_mem hx
  unfold okAll at h
  rw [List.all_eq_true] at h
  have h1 := h k (by simpa using hk)
  unfold okAt at h1
  rw [List.getElem?_eq_getElem hk, e] at h1
  simp only [Bool.and_eq_true] at h1
  have a := inB_true h1.1.1
  have b := inB_true h1.1.2
  exact ⟨a.1, a.2, b.1, b.2⟩
theorem vcF_vals {xs : List Ltl} {m : Nat} (h : vcF xs m = true) : ∀ x ∈ xs, 0 ≤ x.var ∧ x.var < m ∧ 0 ≤ x.val ∧ x.val ≤ 5 := by
  unfold vcF vclF at h
  simp only [Bool.and_eq_true] at h
  have hm := inB_true h.1
  intro x hx
  have := okAll_vals h.2.1 x hx
  have e : wrap64 ((m : Int) - 1) = (m : Int) - 1 := IntWalk.wrap64_in _ ⟨by omega, by omega⟩
  rw [e] at this
  exact ⟨this.1, by omega, this.2.2⟩
/-- a clause holds at an assignment of m values. -/
def chF (xs : List Ltl) (ys : List Int) (m : Nat) : Bool := inB m 1 4 && (ys.all fun v => inB v 0 5) && vcF xs m && xs.any (litH ys)
/-- P holds of the first k elements. -/
def AllP {α : Type} (P : α → Prop) (xs : List α) (k : Nat) : Prop := ∀ j y, j < k → xs[j]? = some y → P y
section
variable {α : Type} {P : α → Prop} {xs : List α} {k n : Nat}
theorem AllP.zero (P : α → Prop) (xs : List α) : AllP P xs 0 := fun _ _ h => absurd h (by omega)
theorem AllP.succ (h : AllP P xs k) {x : α} (hx : xs[k]? = some x) (hf : P x) : AllP P xs (k + 1) := by
  intro j y hj hy
  rcases Nat.lt_or_ge j k with h1 | h1
  · exact h j y h1 hy
  · obtain rfl : j = k := by omega
    rw [hx] at hy
    injection hy with hy
    rw [← hy]; exact hf
theorem AllP.done (h : AllP P xs n) (hl : xs.length ≤ n) : ∀ x ∈ xs, P x := by
  intro y hy
  obtain ⟨j, hj, e⟩ := List.getElem_of_mem hy
  exact h j y (by omega) (by rw [List.getElem?_eq_getElem hj, e])
end
def Sm1 {α : Type} (x : List α) : Prop := x.length ≤ 1048576
def SmS {α : Type} (P : α → Prop) (xs : List α) : Prop := xs.length ≤ 1048576 ∧ ∀ x ∈ xs, P x
/-- diagrams. -/
def rowOk (last : Int) (r : List Int) : Bool := decide (r.length = 6) && r.all fun x => inB x (-1) last
def lastF (d : List (List (List Int))) (i : Nat) : Int := match d[i + 1]? with | some l => (l.length : Int) - 1 | none => 0
def layerOk (d : List (List (List Int))) (i : Nat) : Bool := match d[i]? with | some l => inB l.length 1 216 && l.all (rowOk (lastF d i)) | none => true
def firstOne (d : List (List (List Int))) : Bool := match d[0]? with | some l => decide (l.length = 1) | none => true
def layersOk (d : List (List (List Int))) : Bool := (List.range d.length).all (layerOk d)
def vdgF (d : List (List (List Int))) : Bool := inB d.length 1 4 && firstOne d && layersOk d
/-- p holds below k. -/
def UpTo (p : Nat → Bool) (k : Nat) : Prop := ∀ i, i < k → p i = true
theorem UpTo.zero (p : Nat → Bool) : UpTo p 0 := fun _ h => absurd h (by omega)
theorem UpTo.succ {p : Nat → Bool} {k : Nat} (h : UpTo p k) (hk : p k = true) : UpTo p (k + 1) := by
  intro i hi
  rcases Nat.lt_or_ge i k with h1 | h1
  · exact h i h1
  · obtain rfl : i = k := by omega
    exact hk
theorem UpTo.done {p : Nat → Bool} {n : Nat} (h : UpTo p n) : (List.range n).all p = true := by
  rw [List.all_eq_true]
  intro i hi
  exact h i (by simpa using hi)
theorem range_no {p : Nat → Bool} {k n : Nat} (hk : k < n) (h : p k = false) : (List.range n).all p = false := by
  cases h2 : (List.range n).all p
  · rfl
  · rw [List.all_eq_true] at h2
    rw [h2 k (by simpa using hk)] at h; cases h
theorem layersOk_no {d : List (List (List Int))} {n k : Nat} (hl : d.length = n) (hk : k < n) (h : layerOk d k = false) : layersOk d = false := range_no (by omega) h
theorem vdgF_no {d : List (List (List Int))} {n k : Nat} (hl : d.length = n) (hk : k < n) (h : layerOk d k = false) : vdgF d = false := by
  unfold vdgF; rw [layersOk_no hl hk h]; simp
theorem layerOk_eq {d : List (List (List Int))} {k : Nat} {l : List (List Int)} {last : Int} (hl : d[k]? = some l) (h : lastF d k = last) : layerOk d k = (inB l.length 1 216 && l.all (rowOk last)) := by
  unfold layerOk; rw [hl, h]
theorem lastF_some {d : List (List (List Int))} {k : Nat} {l : List (List Int)} (hl : d[k + 1]? = some l) : lastF d k = (l.length : Int) - 1 := by unfold lastF; rw [hl]
theorem lastF_none {d : List (List (List Int))} {k n : Nat} (hn : d.length = n) (h : ¬ k + 1 < n) : lastF d k = 0 := by unfold lastF; rw [List.getElem?_eq_none (by omega)]
/-- the node behind k steps of a path. -/
def accTo (d : List (List (List Int))) (xs : List Int) : Nat → Int
  | 0 => 0
  | k + 1 => (((d[k]?.getD [])[(accTo d xs k).toNat]?.getD [])[(xs[k]?.getD 0).toNat]?).getD 0
def AccInv (d : List (List (List Int))) (xs : List Int) (k a : Nat) : Prop := accTo d xs k = (a : Int) ∧ UpTo (fun j => decide (0 ≤ accTo d xs (j + 1))) k ∧ ∀ l, d[k]? = some l → a < l.length
def accF (d : List (List (List Int))) (xs : List Int) : Bool := vdgF d && decide (xs.length = d.length) && (xs.all fun x => inB x 0 5) && (List.range d.length).all fun j => decide (0 ≤ accTo d xs (j + 1))
theorem vdg_layer {d : List (List (List Int))} (h : vdgF d = true) {k : Nat} {l : List (List Int)} (hl : d[k]? = some l) : 1 ≤ l.length ∧ l.length ≤ 216 ∧ ∀ r ∈ l, r.length = 6 ∧ ∀ x ∈ r, -1 ≤ x ∧ x ≤ lastF d k := by
  unfold vdgF layersOk at h
  simp only [Bool.and_eq_true] at h
  have hk : k < d.length := by
    rcases Nat.lt_or_ge k d.length with h | h
    · exact h
    · rw [List.getElem?_eq_none h] at hl; cases hl
  have h1 := List.all_eq_true.1 h.2 k (by simpa using hk)
  rw [layerOk_eq hl rfl, Bool.and_eq_true] at h1
  have h2 := inB_true h1.1
  refine ⟨by omega, by omega, fun r hr => ?_⟩
  have h3 := List.all_eq_true.1 h1.2 r hr
  unfold rowOk at h3
  rw [Bool.and_eq_true] at h3
  exact ⟨of_decide_eq_true h3.1, fun x hx => inB_true (List.all_eq_true.1 h3.2 x hx)⟩
theorem acc_start {d : List (List (List Int))} (xs : List Int) (h : vdgF d = true) : AccInv d xs 0 0 := by
  refine ⟨rfl, UpTo.zero _, fun l hl => ?_⟩
  have := vdg_layer h hl
  omega
theorem acc_step {d : List (List (List Int))} {xs : List Int} {k a : Nat} {l : List (List Int)} {v : Int} (h : vdgF d = true) (hi : AccInv d xs k a) (hl : d[k]? = some l) (hx : xs[k]? = some v) (hv : 0 ≤ v ∧ v ≤ 5) :
    ∃ r e, l[a]? = some r ∧ r.length = 6 ∧ r[v.toNat]? = some e ∧ accTo d xs (k + 1) = e ∧ -1 ≤ e ∧ (0 ≤ e → AccInv d xs (k + 1) e.toNat) := by
  obtain ⟨h1, h2, h3⟩ := hi
  have ha := h3 l hl
  obtain ⟨r, hr⟩ : ∃ r, l[a]? = some r := ⟨l[a], List.getElem?_eq_getElem ha⟩
  have hlay := (vdg_layer h hl).2.2 r (List.mem_of_getElem? hr)
  obtain ⟨e, he⟩ : ∃ e, r[v.toNat]? = some e := ⟨r[v.toNat]'(by omega), List.getElem?_eq_getElem (by omega)⟩
  have heb := hlay.2 e (List.mem_of_getElem? he)
  have hacc : accTo d xs (k + 1) = e := by
    rw [accTo, hl, h1]
    simp only [Option.getD_some, Int.toNat_natCast, hr, hx, he]
  refine ⟨r, e, hr, hlay.1, he, hacc, heb.1, fun h0 => ⟨by rw [hacc]; omega, UpTo.succ h2 (by rw [hacc]; exact decide_eq_true h0), fun l2 hl2 => ?_⟩⟩
  rw [lastF_some hl2] at heb
  omega
theorem acc_no {d : List (List (List Int))} {xs : List Int} {k n : Nat} {e : Int} (hn : d.length = n) (hk : k < n) (h : accTo d xs (k + 1) = e) (he : e < 0) : accF d xs = false := by
  unfold accF
  rw [range_no (p := fun j => decide (0 ≤ accTo d xs (j + 1))) (by omega : k < d.length) (by simp only [h]; exact decide_eq_false (by omega))]
  simp
end Go.Proofs.YtfoodlhfmcfjeaaDoor
