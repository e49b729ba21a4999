/- Plain Lean: when values satisfy a constraint. No program in sight. -/
import Derived.Test.YtjpcdbdaimonlaaConP
namespace Go.Proofs.Ytjpcdbdaimonlaa
open Go.RowKit
set_option linter.unusedVariables false
set_option maxRecDepth 100000

def gat (l : List Int) (i : Nat) : Int := l[i]?.getD 0
theorem gat_eq {l : List Int} {i : Nat} {x : Int} (h : l[i]? = some x) : gat l i = x := by unfold gat; rw [h]; rfl
theorem gat_in {l : List Int} {i : Nat} (h : i < l.length) : gat l i ∈ l := by rw [gat_eq (List.getElem?_eq_getElem h)]; exact List.getElem_mem h
def cntTo (xs : List Int) (a : Int) : Nat → Int
  | 0 => 0
  | k + 1 => if gat xs k = a then wrap64 (cntTo xs a k + 1) else cntTo xs a k
theorem cntTo_yes {xs : List Int} {a x : Int} {k : Nat} (hx : xs[k]? = some x) (h : (x == a) = true) : cntTo xs a (k + 1) = wrap64 (cntTo xs a k + 1) := by
  show (if gat xs k = a then _ else _) = _
  rw [if_pos (by rw [gat_eq hx]; exact beq_iff_eq.1 h)]
theorem cntTo_no {xs : List Int} {a x : Int} {k : Nat} (hx : xs[k]? = some x) (h : (x == a) = false) : cntTo xs a (k + 1) = cntTo xs a k := by
  show (if gat xs k = a then _ else _) = _
  rw [if_neg (by rw [gat_eq hx]; exact beq_eq_false_iff_ne.1 h)]
def runs (ws xs : List Int) (t : Int) (i : Nat) : Bool := decide (gat xs i ≤ t) && decide (t < wrap64 (gat xs i + gat ws i))
theorem runs_eq {ws xs : List Int} {t a x : Int} {i : Nat} (ha : ws[i]? = some a) (hx : xs[i]? = some x) : runs ws xs t i = (decide (x ≤ t) && decide (t < wrap64 (x + a))) := by
  unfold runs; rw [gat_eq ha, gat_eq hx]
def loadTo (ws xs : List Int) (m : Nat) (t : Int) : Nat → Int
  | 0 => 0
  | i + 1 => if runs ws xs t i = true then wrap64 (loadTo ws xs m t i + gat ws (m + i)) else loadTo ws xs m t i
theorem loadTo_yes {ws xs : List Int} {m i : Nat} {t y : Int} (h : runs ws xs t i = true) (hy : ws[m + i]? = some y) : loadTo ws xs m t (i + 1) = wrap64 (loadTo ws xs m t i + y) := by
  show (if runs ws xs t i = true then _ else _) = _
  rw [if_pos h, gat_eq hy]
theorem loadTo_no {ws xs : List Int} {m i : Nat} {t : Int} (h : runs ws xs t i = false) : loadTo ws xs m t (i + 1) = loadTo ws xs m t i := by
  show (if runs ws xs t i = true then _ else _) = _
  rw [if_neg (by rw [h]; decide)]
def roomAt (c : Con) (xs : List Int) (t : Nat) : Bool := !decide (c.bound < loadTo c.args xs xs.length t xs.length)
def roomF (c : Con) (xs : List Int) : Bool := (List.range 15).all (roomAt c xs)
theorem all_range_no {p : Nat → Bool} {n i : Nat} (hi : i < n) (h : p i = false) : (List.range n).all p = false := by
  cases h2 : (List.range n).all p
  · rfl
  · rw [List.all_eq_true] at h2
    rw [h2 i (List.mem_range.2 hi)] at h; cases h
def autTo (rows : List (List Int)) (xs : List Int) : Nat → Int
  | 0 => 0
  | i + 1 => gat (rows[(autTo rows xs i).toNat]?.getD []) (gat xs i).toNat
theorem autTo_eq {rows : List (List Int)} {xs r : List Int} {i : Nat} {x y : Int} (hr : rows[(autTo rows xs i).toNat]? = some r) (hx : xs[i]? = some x) (hy : r[x.toNat]? = some y) : autTo rows xs (i + 1) = y := by
  show gat (rows[(autTo rows xs i).toNat]?.getD []) (gat xs i).toNat = y
  rw [hr, gat_eq hx]; exact gat_eq hy
def autAt (rows : List (List Int)) (xs : List Int) (i : Nat) : Bool := !decide (autTo rows xs (i + 1) < 0)
def autF (c : Con) (xs : List Int) : Bool := (List.range xs.length).all (autAt c.rows xs) && decide (autTo c.rows xs xs.length ∈ c.args)
def eqTo (r xs : List Int) : Nat → Bool
  | 0 => true
  | k + 1 => eqTo r xs k && (gat r k == gat xs k)
theorem eqTo_eq {r xs : List Int} {k : Nat} {a b : Int} (hr : r[k]? = some a) (hx : xs[k]? = some b) : eqTo r xs (k + 1) = (eqTo r xs k && (a == b)) := by
  show (eqTo r xs k && (gat r k == gat xs k)) = _
  rw [gat_eq hr, gat_eq hx]
theorem eqTo_iff (r xs : List Int) : ∀ k, eqTo r xs k = true ↔ ∀ j, j < k → gat r j = gat xs j
  | 0 => ⟨fun _ j h => absurd h (by omega), fun _ => rfl⟩
  | k + 1 => by
    show (eqTo r xs k && (gat r k == gat xs k)) = true ↔ _
    rw [Bool.and_eq_true, eqTo_iff r xs k, beq_iff_eq]
    constructor
    · rintro ⟨h1, h2⟩ j hj
      rcases Nat.lt_or_ge j k with h | h
      · exact h1 j h
      · obtain rfl : j = k := by omega
        exact h2
    · intro h
      exact ⟨fun j hj => h j (by omega), h k (by omega)⟩
theorem eqTo_done {r xs : List Int} {n : Nat} (h1 : r.length = n) (h2 : xs.length = n) : eqTo r xs n = decide (r = xs) := by
  cases h : eqTo r xs n
  · refine (decide_eq_false fun he => ?_).symm
    subst he
    rw [(eqTo_iff r r n).2 (fun _ _ => rfl)] at h; cases h
  · refine (decide_eq_true ?_).symm
    have hg := (eqTo_iff r xs n).1 h
    refine List.ext_getElem (by omega) fun i p1 p2 => ?_
    have := hg i (by omega)
    rw [gat_eq (List.getElem?_eq_getElem p1), gat_eq (List.getElem?_eq_getElem p2)] at this
    exact this
def hasF (rows : List (List Int)) (xs : List Int) : Bool := rows.any fun r => decide (r = xs)
theorem hasF_yes {rows : List (List Int)} {xs r : List Int} {k : Nat} (h : rows[k]? = some r) (he : decide (r = xs) = true) : hasF rows xs = true := List.any_eq_true.2 ⟨r, List.mem_of_getElem? h, he⟩
theorem hasF_no {rows : List (List Int)} {xs : List Int} {n : Nat} (hl : rows.length = n) (h : AllB (fun r => !decide (r = xs)) rows n) : hasF rows xs = false := by
  have := AllB.done h (Nat.le_of_eq hl)
  unfold hasF
  rw [List.all_eq_not_any_not] at this
  simp only [Bool.not_not] at this
  simpa using this
/-- the position behind n steps. -/
def itF (xs : List Int) : Nat → Nat
  | 0 => 0
  | n + 1 => (gat xs (itF xs n)).toNat
theorem itF_eq {xs : List Int} {n : Nat} {x : Int} (h : xs[itF xs n]? = some x) : itF xs (n + 1) = x.toNat := by
  show (gat xs (itF xs n)).toNat = _
  rw [gat_eq h]
def zeroAt (xs : List Int) : Bool := decide (itF xs xs.length = 0) && (List.range (xs.length - 1)).all fun j => itF xs (j + 1) != 0
def cycF (xs : List Int) : Bool := (xs.all fun v => decide (v < (xs.length : Int))) && zeroAt xs
theorem zero_early {xs : List Int} {s : Nat} (h1 : 1 ≤ s) (h2 : s < xs.length) (h : itF xs s = 0) : zeroAt xs = false := by
  unfold zeroAt
  rw [all_range_no (i := s - 1) (by omega) (by rw [show s - 1 + 1 = s by omega, h]; rfl), Bool.and_false]
theorem zero_late {xs : List Int} (h : itF xs xs.length ≠ 0) : zeroAt xs = false := by
  unfold zeroAt
  rw [decide_eq_false h, Bool.false_and]
theorem zero_now {xs : List Int} (h : itF xs xs.length = 0) (hn : ∀ j, 1 ≤ j → j < xs.length → itF xs j ≠ 0) : zeroAt xs = true := by
  unfold zeroAt
  rw [decide_eq_true h, Bool.true_and, List.all_eq_true]
  intro j hj
  have := hn (j + 1) (by omega) (by have := List.mem_range.1 hj; omega)
  simpa using this
theorem cyc1 : ∀ a : Fin 6, zeroAt [(a.val : Int)] = true → ((List.range 1).all fun j => decide (gat [(a.val : Int)] (itF [(a.val : Int)] j) < 1)) = true → ([(a.val : Int)].all fun v => decide (v < 1)) = true := by decide +kernel
theorem cyc2 : ∀ a b : Fin 6, zeroAt [(a.val : Int), b.val] = true → ((List.range 2).all fun j => decide (gat [(a.val : Int), b.val] (itF [(a.val : Int), b.val] j) < 2)) = true → ([(a.val : Int), b.val].all fun v => decide (v < 2)) = true := by decide +kernel
theorem cyc3 : ∀ a b c : Fin 6, zeroAt [(a.val : Int), b.val, c.val] = true → ((List.range 3).all fun j => decide (gat [(a.val : Int), b.val, c.val] (itF [(a.val : Int), b.val, c.val] j) < 3)) = true → ([(a.val : Int), b.val, c.val].all fun v => decide (v < 3)) = true := by decide +kernel
theorem cyc4 : ∀ a b c d : Fin 6, zeroAt [(a.val : Int), b.val, c.val, d.val] = true → ((List.range 4).all fun j => decide (gat [(a.val : Int), b.val, c.val, d.val] (itF [(a.val : Int), b.val, c.val, d.val] j) < 4)) = true → ([(a.val : Int), b.val, c.val, d.val].all fun v => decide (v < 4)) = true := by decide +kernel
theorem fin6 {v : Int} (h0 : 0 ≤ v) (h1 : v ≤ 5) : ∃ a : Fin 6, v = (a.val : Int) := ⟨⟨v.toNat, by omega⟩, by show v = ((v.toNat : Nat) : Int); omega⟩
theorem cyc_all {xs : List Int} (h1 : 1 ≤ xs.length) (h4 : xs.length ≤ 4) (hv : ∀ v ∈ xs, 0 ≤ v ∧ v ≤ 5) (hz : zeroAt xs = true) (hg : ∀ j, j < xs.length → gat xs (itF xs j) < xs.length) : (xs.all fun v => decide (v < (xs.length : Int))) = true := by
  have hr : ((List.range xs.length).all fun j => decide (gat xs (itF xs j) < (xs.length : Int))) = true := by
    rw [List.all_eq_true]; intro j hj; exact decide_eq_true (hg j (List.mem_range.1 hj))
  match xs, h1, h4 with
  | [a], _, _ =>
    obtain ⟨a, rfl⟩ := fin6 (hv a (by simp)).1 (hv a (by simp)).2
    exact cyc1 a hz hr
  | [a, b], _, _ =>
    obtain ⟨a, rfl⟩ := fin6 (hv a (by simp)).1 (hv a (by simp)).2
    obtain ⟨b, rfl⟩ := fin6 (hv b (by simp)).1 (hv b (by simp)).2
    exact cyc2 a b hz hr
  | [a, b, c], _, _ =>
    obtain ⟨a, rfl⟩ := fin6 (hv a (by simp)).1 (hv a (by simp)).2
    obtain ⟨b, rfl⟩ := fin6 (hv b (by simp)).1 (hv b (by simp)).2
    obtain ⟨c, rfl⟩ := fin6 (hv c (by simp)).1 (hv c (by simp)).2
    exact cyc3 a b c hz hr
  | [a, b, c, d], _, _ =>
    obtain ⟨a, rfl⟩ := fin6 (hv a (by simp)).1 (hv a (by simp)).2
    obtain ⟨b, rfl⟩ := fin6 (hv b (by simp)).1 (hv b (by simp)).2
    obtain ⟨c, rfl⟩ := fin6 (hv c (by simp)).1 (hv c (by simp)).2
    obtain ⟨d, rfl⟩ := fin6 (hv d (by simp)).1 (hv d (by simp)).2
    exact cyc4 a b c d hz hr
/-- values satisfy a constraint. -/
def satF (c : Con) (x : List Int) : Bool :=
  if c.kind = 1 then decide (valTo c.args x x.length ≤ c.bound)
  else if c.kind = 2 then gat x 0 != wrap64 (gat x 1 + gat c.args 0)
  else if c.kind = 3 then disF x
  else if c.kind = 4 then decide (gat x 0 < (c.args.length : Int)) && (gat c.args (gat x 0).toNat == gat x 1)
  else if c.kind = 5 then hasF c.rows x
  else if c.kind = 6 then cntTo x (gat c.args 0) x.length == c.bound
  else if c.kind = 7 then roomF c x
  else if c.kind = 8 then autF c x
  else cycF x
theorem sat1 {c : Con} {x : List Int} (h : c.kind = 1) : satF c x = decide (valTo c.args x x.length ≤ c.bound) := by unfold satF; simp only [h]; rfl
theorem sat2 {c : Con} {x : List Int} (h : c.kind = 2) : satF c x = (gat x 0 != wrap64 (gat x 1 + gat c.args 0)) := by unfold satF; simp only [h]; rfl
theorem sat3 {c : Con} {x : List Int} (h : c.kind = 3) : satF c x = disF x := by unfold satF; simp only [h]; rfl
theorem sat4 {c : Con} {x : List Int} (h : c.kind = 4) : satF c x = (decide (gat x 0 < (c.args.length : Int)) && (gat c.args (gat x 0).toNat == gat x 1)) := by unfold satF; simp only [h]; rfl
theorem sat5 {c : Con} {x : List Int} (h : c.kind = 5) : satF c x = hasF c.rows x := by unfold satF; simp only [h]; rfl
theorem sat6 {c : Con} {x : List Int} (h : c.kind = 6) : satF c x = (cntTo x (gat c.args 0) x.length == c.bound) := by unfold satF; simp only [h]; rfl
theorem sat7 {c : Con} {x : List Int} (h : c.kind = 7) : satF c x = roomF c x := by unfold satF; simp only [h]; rfl
theorem sat8 {c : Con} {x : List Int} (h : c.kind = 8) : satF c x = autF c x := by unfold satF; simp only [h]; rfl
theorem sat9 {c : Con} {x : List Int} (h : c.kind = 9) : satF c x = cycF x := by unfold satF; simp only [h]; rfl
/-- values of the variables of a valid constraint. -/
structure SatOk (c : Con) (x : List Int) : Prop where
  len : x.length = c.vars.length
  one : 1 ≤ x.length
  four : x.length ≤ 4
  val : ∀ v ∈ x, 0 ≤ v ∧ v ≤ 5
  fit : fitsF c = true
section
variable {c : Con} {x : List Int}
theorem SatOk.kinds (h : SatOk c x) : c.kind = 1 ∨ c.kind = 2 ∨ c.kind = 3 ∨ c.kind = 4 ∨ c.kind = 5 ∨ c.kind = 6 ∨ c.kind = 7 ∨ c.kind = 8 ∨ c.kind = 9 := by
  by_cases k1 : c.kind = 1
  · exact .inl k1
  by_cases k2 : c.kind = 2
  · exact .inr (.inl k2)
  by_cases k3 : c.kind = 3
  · exact .inr (.inr (.inl k3))
  by_cases k4 : c.kind = 4
  · exact .inr (.inr (.inr (.inl k4)))
  by_cases k5 : c.kind = 5
  · exact .inr (.inr (.inr (.inr (.inl k5))))
  by_cases k6 : c.kind = 6
  · exact .inr (.inr (.inr (.inr (.inr (.inl k6)))))
  by_cases k7 : c.kind = 7
  · exact .inr (.inr (.inr (.inr (.inr (.inr (.inl k7))))))
  by_cases k8 : c.kind = 8
  · exact .inr (.inr (.inr (.inr (.inr (.inr (.inr (.inl k8)))))))
  by_cases k9 : c.kind = 9
  · exact .inr (.inr (.inr (.inr (.inr (.inr (.inr (.inr k9)))))))
  have := h.fit
  rw [fits0 k1 k2 k3 k9 k4 k5 k6 k7 k8] at this; cases this
theorem SatOk.a1 (h : SatOk c x) (k : c.kind = 1) : c.args.length = x.length := by
  have := h.fit; rw [fits1 k] at this; simp at this; have := h.len; omega
theorem SatOk.a2 (h : SatOk c x) (k : c.kind = 2) : c.args.length = 1 ∧ x.length = 2 := by
  have := h.fit; rw [fits2 k] at this; simp at this; have := h.len; omega
theorem SatOk.a4 (h : SatOk c x) (k : c.kind = 4) : x.length = 2 := by
  have := h.fit; rw [fits4 k] at this; simp at this; have := h.len; omega
theorem SatOk.a5 (h : SatOk c x) (k : c.kind = 5) : ∀ r ∈ c.rows, r.length = x.length := by
  have := h.fit; rw [fits5 k] at this
  simp only [Bool.and_eq_true, rowsOk, List.all_eq_true] at this
  intro r hr
  have h2 := this.2.2.2 r hr
  unfold rowIn at h2
  rw [Bool.and_eq_true, beq_iff_eq] at h2
  have := h2.1
  have := h.len; omega
theorem SatOk.a6 (h : SatOk c x) (k : c.kind = 6) : c.args.length = 1 := by
  have := h.fit; rw [fits6 k] at this; simp at this; omega
theorem SatOk.a7 (h : SatOk c x) (k : c.kind = 7) : c.args.length = x.length + x.length := by
  have h1 := h.fit; rw [fits7 k] at h1
  simp only [Bool.and_eq_true, beq_iff_eq] at h1
  have h2 := h1.1
  have h3 := h.len
  have h4 := h.four
  rw [IntWalk.wrap64_in _ ⟨by omega, by omega⟩] at h2
  omega
theorem SatOk.a8 (h : SatOk c x) (k : c.kind = 8) : 1 ≤ c.rows.length ∧ c.rows.length ≤ 8 ∧ ∀ r ∈ c.rows, r.length = 6 ∧ ∀ v ∈ r, -1 ≤ v ∧ v < c.rows.length := by
  have h1 := h.fit; rw [fits8 k] at h1
  simp only [Bool.and_eq_true, rowsOk, List.all_eq_true] at h1
  have h2 := inB_true h1.1.1
  refine ⟨by omega, by omega, fun r hr => ?_⟩
  have h3 := h1.1.2 r hr
  unfold rowIn at h3
  rw [Bool.and_eq_true, beq_iff_eq, List.all_eq_true] at h3
  refine ⟨by have := h3.1; omega, fun v hv => ?_⟩
  have h4 := inB_true (h3.2 v hv)
  rw [IntWalk.wrap64_in _ ⟨by omega, by omega⟩] at h4
  omega
end
def wordF (vars x : List Int) : List Int := vars.map fun v => gat x v.toNat
end Go.Proofs.Ytjpcdbdaimonlaa
