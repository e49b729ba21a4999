/- Fresh slices whose elements have several cells and are themselves fresh. No program in sight. -/
import Derived.Test.YtfoodlhfmcfjeaaDoorMem
namespace Go.Proofs.YtfoodlhfmcfjeaaDoor
open Go.RowKit Go.ChangeShapes Go.WideShapes
set_option linter.unusedVariables false
set_option maxRecDepth 100000

theorem flat_len {uss : List (List Value)} {m : Nat} (h : ∀ u ∈ uss, u.length = m) : uss.flatten.length = uss.length * m := by
  induction uss with
  | nil => simp
  | cons u uss ih =>
    rw [List.flatten_cons, List.length_append, h u (by simp), ih (fun u hu => h u (by simp [hu])), List.length_cons, Nat.succ_mul]; omega
theorem flat_at {uss : List (List Value)} {m : Nat} (h : ∀ u ∈ uss, u.length = m) {i j : Nat} {u : List Value} {y : Value} (hu : uss[i]? = some u) (hy : u[j]? = some y) : uss.flatten[i * m + j]? = some y := by
  induction uss generalizing i with
  | nil => simp at hu
  | cons v uss ih =>
    rw [List.flatten_cons]
    have hv := h v (by simp)
    cases i with
    | zero =>
      simp at hu
      subst hu
      have hj : j < v.length := by
        rcases Nat.lt_or_ge j v.length with h | h
        · exact h
        · rw [List.getElem?_eq_none h] at hy; cases hy
      rw [Nat.zero_mul, Nat.zero_add, List.getElem?_append_left hj]; exact hy
    | succ i =>
      rw [List.getElem?_append_right (by rw [hv, Nat.succ_mul]; omega), hv, show (i + 1) * m + j - m = i * m + j by rw [Nat.succ_mul]; omega]
      exact ih (fun u hu => h u (by simp [hu])) (by simpa using hu)
/-- A fresh slice whose elements (m cells each) are themselves fresh. -/
def OwnK {α : Type} (e : TypeId) (m : Nat) (In : World → Nat → List Value → α → Prop) (w : World) (base : Nat) (v : Value) (xs : List α) : Prop :=
  ∃ uss : List (List Value), uss.length = xs.length ∧ (∀ u ∈ uss, u.length = m) ∧ w.ownsRow base e m v xs.length uss.flatten ∧ xs.length ≤ 9223372036854775807 ∧ ∀ (i : Nat) u x, uss[i]? = some u → xs[i]? = some x → In w base u x
structure StaysK {α : Type} (In : World → Nat → List Value → α → Prop) : Prop where
  below : ∀ w w' base v x, Below w.heap.size w w' → In w base v x → In w' base v x
  base : ∀ w base base' v x, base' ≤ base → In w base v x → In w base' v x
def ShunsK {α : Type} (t : TypeId) (In : World → Nat → List Value → α → Prop) : Prop :=
  ∀ (w : World) base v x (g j : Nat) (cs : Array Value) fr (u : Value), w.heap[g]? = some (.cells cs t fr) → In w base v x → In (w.setCell ⟨g, j, none⟩ u) base v x
theorem OwnK.stays {α : Type} {e : TypeId} {m : Nat} {In : World → Nat → List Value → α → Prop} (hI : StaysK In) : Stays (OwnK e m In) :=
  ⟨fun _ _ _ _ _ hb ⟨us, h1, h0, h2, h3, h4⟩ => ⟨us, h1, h0, own_below h2 hb, h3, fun i u x hu hx => hI.below _ _ _ _ _ hb (h4 i u x hu hx)⟩,
   fun _ _ _ _ _ hb ⟨us, h1, h0, h2, h3, h4⟩ => ⟨us, h1, h0, own_base h2 hb, h3, fun i u x hu hx => hI.base _ _ _ _ _ hb (h4 i u x hu hx)⟩⟩
theorem OwnK.shuns {α : Type} {e t : TypeId} {m : Nat} {In : World → Nat → List Value → α → Prop} (h : t ≠ e) (hI : ShunsK t In) : Shuns t (OwnK e m In) :=
  fun _ _ _ _ _ j _ _ u hg ⟨us, h1, h0, h2, h3, h4⟩ => ⟨us, h1, h0, own_shun h j u hg h2, h3, fun i u' x hu hx => hI _ _ _ _ _ j _ _ u hg (h4 i u' x hu hx)⟩
theorem OwnK.read {α : Type} {e : TypeId} {m : Nat} {In : World → Nat → List Value → α → Prop} {R : World → Nat → List Value → α → Prop} (hR : ∀ w base v x, In w base v x → R w w.heap.size v x) {w : World} {base : Nat} {v : Value} {xs : List α} (h : OwnK e m In w base v xs) :
    ∃ A c, v = .slice A xs.length c ∧ SlK R m w w.heap.size A xs.length xs ∧ xs.length ≤ c := by
  obtain ⟨uss, h1, h0, h2, h3, h4⟩ := h
  refine (h2.2).elim (fun h5 => ?_) (fun h5 => ?_)
  · obtain ⟨rfl, h6⟩ := h5
    exact ⟨none, 0, by rw [h6], ⟨rfl, h3, fun hn => absurd hn (by omega)⟩, by omega⟩
  · obtain ⟨g, cap, cur, rfl, hg, hh, hcap, hmax, hsz, ht⟩ := h5
    refine ⟨some ⟨g, 0, none⟩, cap, rfl, ⟨rfl, h3, fun hn0 => ⟨_, _, rfl, (h2.lt g rfl).2, fun i x hx => ?_⟩⟩, by omega⟩
    have hi : i < uss.length := by
      rcases Nat.lt_or_ge i uss.length with h | h
      · exact h
      · rw [List.getElem?_eq_none (by omega)] at hx; cases hx
    have hu : uss[i]? = some uss[i] := List.getElem?_eq_getElem hi
    refine ⟨uss[i], h0 _ (List.getElem_mem hi), fun j u hj => ?_, hR _ _ _ _ (h4 i _ _ hu hx)⟩
    have hc := h2.cells (g := g) rfl (i * m + j) u (flat_at h0 hu hj)
    rw [add_own] at hc
    rw [Nat.zero_add]; exact hc
/-- A row that is being filled. -/
def FillK {α : Type} (e : TypeId) (m : Nat) (In : World → Nat → List Value → α → Prop) (w : World) (base g c n : Nat) (z : List Value) (xs : List α) (k : Nat) : Prop :=
  ∃ uss : List (List Value), uss.length = k ∧ (∀ u ∈ uss, u.length = m) ∧ w.ownsRow base e m (.slice (some ⟨g, 0, none⟩) n c) n (uss.flatten ++ (List.replicate (n - k) z).flatten) ∧ ∀ (i : Nat) u x, uss[i]? = some u → xs[i]? = some x → In w base u x
theorem FillK.start {α : Type} {e : TypeId} {m : Nat} {In : World → Nat → List Value → α → Prop} {w : World} {base g c n : Nat} {z : List Value} {xs : List α} (h : w.ownsRow base e m (.slice (some ⟨g, 0, none⟩) n c) n (List.replicate n z).flatten) : FillK e m In w base g c n z xs 0 :=
  ⟨[], rfl, fun u hu => (by simp at hu), by simpa using h, fun i u x hu => by simp at hu⟩
theorem FillK.done {α : Type} {e : TypeId} {m : Nat} {In : World → Nat → List Value → α → Prop} {w : World} {base g c n : Nat} {z : List Value} {xs : List α} (h : FillK e m In w base g c n z xs n) (hl : xs.length = n) (hn : n ≤ 9223372036854775807) : OwnK e m In w base (.slice (some ⟨g, 0, none⟩) n c) xs := by
  obtain ⟨uss, h1, h0, h2, h4⟩ := h
  refine ⟨uss, by rw [h1, hl], h0, ?_, by omega, h4⟩
  rw [hl]; simpa using h2
theorem FillK.below {α : Type} {e : TypeId} {m : Nat} {In : World → Nat → List Value → α → Prop} (hI : StaysK In) {w w' : World} {base g c n k : Nat} {z : List Value} {xs : List α} (h : FillK e m In w base g c n z xs k) (hb : Below w.heap.size w w') : FillK e m In w' base g c n z xs k := by
  obtain ⟨uss, h1, h0, h2, h4⟩ := h
  exact ⟨uss, h1, h0, own_below h2 hb, fun i u x hu hx => hI.below _ _ _ _ _ hb (h4 i u x hu hx)⟩
theorem fstep {α : Type} {w : World} {base g n c m : Nat} {e : TypeId} {L : List Value} {In : World → Nat → List Value → α → Prop} (hS : ShunsK e In) (ho : w.ownsRow base e m (.slice (some ⟨g, 0, none⟩) n c) n L) (p : Nat) (y : Value) :
    (w.setCell ⟨g, p, none⟩ y).ownsRow base e m (.slice (some ⟨g, 0, none⟩) n c) n (L.set p y) ∧ ∀ us x, In w base us x → In (w.setCell ⟨g, p, none⟩ y) base us x :=
  ⟨(ho.stored p y).1, fun us x h => by obtain ⟨cur, hb⟩ := own_block ho; exact hS _ _ _ _ _ p _ _ y hb h⟩
theorem set5 (p : List Value) (a b c d e x y z s t : Value) (q : List Value) (m : Nat) (hm : p.length = m) : (((((p ++ ([a, b, c, d, e] ++ q)).set m x).set (m + 1) y).set (m + 2) z).set (m + 3) s).set (m + 4) t = p ++ ([x, y, z, s, t] ++ q) := by
  subst hm
  rw [List.set_append_right _ _ (Nat.le_refl _), Nat.sub_self, List.set_append_right _ _ (by omega), List.set_append_right _ _ (by omega), List.set_append_right _ _ (by omega), List.set_append_right _ _ (by omega)]
  rw [show p.length + 1 - p.length = 1 by omega, show p.length + 2 - p.length = 2 by omega, show p.length + 3 - p.length = 3 by omega, show p.length + 4 - p.length = 4 by omega]
  rfl
theorem set6 (p : List Value) (a b c d e f x y z s t r : Value) (q : List Value) (m : Nat) (hm : p.length = m) : ((((((p ++ ([a, b, c, d, e, f] ++ q)).set m x).set (m + 1) y).set (m + 2) z).set (m + 3) s).set (m + 4) t).set (m + 5) r = p ++ ([x, y, z, s, t, r] ++ q) := by
  subst hm
  rw [List.set_append_right _ _ (Nat.le_refl _), Nat.sub_self, List.set_append_right _ _ (by omega), List.set_append_right _ _ (by omega), List.set_append_right _ _ (by omega), List.set_append_right _ _ (by omega), List.set_append_right _ _ (by omega)]
  rw [show p.length + 1 - p.length = 1 by omega, show p.length + 2 - p.length = 2 by omega, show p.length + 3 - p.length = 3 by omega, show p.length + 4 - p.length = 4 by omega, show p.length + 5 - p.length = 5 by omega]
  rfl
theorem fill_snoc {α : Type} {In : World → Nat → List Value → α → Prop} {w : World} {base k : Nat} {uss : List (List Value)} {us : List Value} {xs : List α} {x : α} (h1 : uss.length = k) (hx : xs[k]? = some x) (h4 : ∀ (i : Nat) u x, uss[i]? = some u → xs[i]? = some x → In w base u x) (h : In w base us x) :
    ∀ (i : Nat) u x, (uss ++ [us])[i]? = some u → xs[i]? = some x → In w base u x := by
  intro i u y hu hy
  rcases Nat.lt_or_ge i k with hi | hi
  · rw [List.getElem?_append_left (by omega)] at hu
    exact h4 i u y hu hy
  · have hik : i = k := by
      rcases Nat.lt_or_ge i (k + 1) with h1 | h1
      · omega
      · rw [List.getElem?_eq_none (by simp; omega)] at hu; cases hu
    subst hik
    rw [List.getElem?_append_right (by omega), h1, Nat.sub_self] at hu
    simp at hu
    subst hu
    rw [hx] at hy
    injection hy with hy
    subst hy
    exact h
theorem rep_next {n k : Nat} (z : List Value) (h : k < n) : (List.replicate (n - k) z).flatten = z ++ (List.replicate (n - (k + 1)) z).flatten := by
  rw [show n - k = (n - (k + 1)) + 1 by omega, List.replicate_succ, List.flatten_cons]
theorem FillK.five {α : Type} {e : TypeId} {In : World → Nat → List Value → α → Prop} (hS : ShunsK e In) {w : World} {base g c n k : Nat} {z0 z1 z2 z3 z4 x0 x1 x2 x3 x4 : Value} {xs : List α} {x : α} (hk : k < n) (hx : xs[k]? = some x) (h : FillK e 5 In w base g c n [z0, z1, z2, z3, z4] xs k) (hi : In w base [x0, x1, x2, x3, x4] x) :
    (w.cell? ⟨g, k * 5, none⟩ = some z0 ∧ w.cell? ⟨g, k * 5 + 1, none⟩ = some z1 ∧ w.cell? ⟨g, k * 5 + 2, none⟩ = some z2 ∧ w.cell? ⟨g, k * 5 + 3, none⟩ = some z3 ∧ w.cell? ⟨g, k * 5 + 4, none⟩ = some z4) ∧ (∀ j, w.frozen? ⟨g, j, none⟩ = false) ∧
    FillK e 5 In (((((w.setCell ⟨g, k * 5, none⟩ x0).setCell ⟨g, k * 5 + 1, none⟩ x1).setCell ⟨g, k * 5 + 2, none⟩ x2).setCell ⟨g, k * 5 + 3, none⟩ x3).setCell ⟨g, k * 5 + 4, none⟩ x4) base g c n [z0, z1, z2, z3, z4] xs (k + 1) := by
  obtain ⟨uss, h1, h0, ho, h4⟩ := h
  have hm : uss.flatten.length = k * 5 := by rw [flat_len h0, h1]
  rw [rep_next _ hk] at ho
  have at_ : ∀ j u, [z0, z1, z2, z3, z4][j]? = some u → w.cell? ⟨g, k * 5 + j, none⟩ = some u := by
    intro j u hj
    have hj5 : j < 5 := by
      rcases Nat.lt_or_ge j 5 with h | h
      · exact h
      · rw [List.getElem?_eq_none (by simpa using h)] at hj; cases hj
    have := ho.cellAt (k * 5 + j) (by omega)
    rw [List.getElem?_append_right (by omega), hm, show k * 5 + j - k * 5 = j by omega, List.getElem?_append_left (by simpa using hj5), hj] at this
    exact this
  refine ⟨⟨at_ 0 _ rfl, at_ 1 _ rfl, at_ 2 _ rfl, at_ 3 _ rfl, at_ 4 _ rfl⟩, fun j => ho.frozenAt j, ?_⟩
  obtain ⟨o1, i1⟩ := fstep hS ho (k * 5) x0
  obtain ⟨o2, i2⟩ := fstep hS o1 (k * 5 + 1) x1
  obtain ⟨o3, i3⟩ := fstep hS o2 (k * 5 + 2) x2
  obtain ⟨o4, i4⟩ := fstep hS o3 (k * 5 + 3) x3
  obtain ⟨o5, i5⟩ := fstep hS o4 (k * 5 + 4) x4
  rw [set5 _ _ _ _ _ _ _ _ _ _ _ _ _ hm] at o5
  refine ⟨uss ++ [[x0, x1, x2, x3, x4]], by simp [h1], ?_, ?_, fill_snoc h1 hx (fun i u y hu hy => i5 _ _ (i4 _ _ (i3 _ _ (i2 _ _ (i1 _ _ (h4 i u y hu hy)))))) (i5 _ _ (i4 _ _ (i3 _ _ (i2 _ _ (i1 _ _ hi)))))⟩
  · intro u hu
    rcases List.mem_append.1 hu with hu | hu
    · exact h0 u hu
    · simp at hu; subst hu; rfl
  · rw [List.flatten_append, List.flatten_singleton, List.append_assoc]; exact o5
theorem FillK.six {α : Type} {e : TypeId} {In : World → Nat → List Value → α → Prop} (hS : ShunsK e In) {w : World} {base g c n k : Nat} {z0 z1 z2 z3 z4 z5 x0 x1 x2 x3 x4 x5 : Value} {xs : List α} {x : α} (hk : k < n) (hx : xs[k]? = some x) (h : FillK e 6 In w base g c n [z0, z1, z2, z3, z4, z5] xs k) (hi : In w base [x0, x1, x2, x3, x4, x5] x) :
    (w.cell? ⟨g, k * 6, none⟩ = some z0 ∧ w.cell? ⟨g, k * 6 + 1, none⟩ = some z1 ∧ w.cell? ⟨g, k * 6 + 2, none⟩ = some z2 ∧ w.cell? ⟨g, k * 6 + 3, none⟩ = some z3 ∧ w.cell? ⟨g, k * 6 + 4, none⟩ = some z4 ∧ w.cell? ⟨g, k * 6 + 5, none⟩ = some z5) ∧ (∀ j, w.frozen? ⟨g, j, none⟩ = false) ∧
    FillK e 6 In ((((((w.setCell ⟨g, k * 6, none⟩ x0).setCell ⟨g, k * 6 + 1, none⟩ x1).setCell ⟨g, k * 6 + 2, none⟩ x2).setCell ⟨g, k * 6 + 3, none⟩ x3).setCell ⟨g, k * 6 + 4, none⟩ x4).setCell ⟨g, k * 6 + 5, none⟩ x5) base g c n [z0, z1, z2, z3, z4, z5] xs (k + 1) := by
  obtain ⟨uss, h1, h0, ho, h4⟩ := h
  have hm : uss.flatten.length = k * 6 := by rw [flat_len h0, h1]
  rw [rep_next _ hk] at ho
  have at_ : ∀ j u, [z0, z1, z2, z3, z4, z5][j]? = some u → w.cell? ⟨g, k * 6 + j, none⟩ = some u := by
    intro j u hj
    have hj5 : j < 6 := by
      rcases Nat.lt_or_ge j 6 with h | h
      · exact h
      · rw [List.getElem?_eq_none (by simpa using h)] at hj; cases hj
    have := ho.cellAt (k * 6 + j) (by omega)
    rw [List.getElem?_append_right (by omega), hm, show k * 6 + j - k * 6 = j by omega, List.getElem?_append_left (by simpa using hj5), hj] at this
    exact this
  refine ⟨⟨at_ 0 _ rfl, at_ 1 _ rfl, at_ 2 _ rfl, at_ 3 _ rfl, at_ 4 _ rfl, at_ 5 _ rfl⟩, fun j => ho.frozenAt j, ?_⟩
  obtain ⟨o1, i1⟩ := fstep hS ho (k * 6) x0
  obtain ⟨o2, i2⟩ := fstep hS o1 (k * 6 + 1) x1
  obtain ⟨o3, i3⟩ := fstep hS o2 (k * 6 + 2) x2
  obtain ⟨o4, i4⟩ := fstep hS o3 (k * 6 + 3) x3
  obtain ⟨o5, i5⟩ := fstep hS o4 (k * 6 + 4) x4
  obtain ⟨o6, i6⟩ := fstep hS o5 (k * 6 + 5) x5
  rw [set6 _ _ _ _ _ _ _ _ _ _ _ _ _ _ _ hm] at o6
  refine ⟨uss ++ [[x0, x1, x2, x3, x4, x5]], by simp [h1], ?_, ?_, fill_snoc h1 hx (fun i u y hu hy => i6 _ _ (i5 _ _ (i4 _ _ (i3 _ _ (i2 _ _ (i1 _ _ (h4 i u y hu hy))))))) (i6 _ _ (i5 _ _ (i4 _ _ (i3 _ _ (i2 _ _ (i1 _ _ hi))))))⟩
  · intro u hu
    rcases List.mem_append.1 hu with hu | hu
    · exact h0 u hu
    · simp at hu; subst hu; rfl
  · rw [List.flatten_append, List.flatten_singleton, List.append_assoc]; exact o6
end Go.Proofs.YtfoodlhfmcfjeaaDoor
