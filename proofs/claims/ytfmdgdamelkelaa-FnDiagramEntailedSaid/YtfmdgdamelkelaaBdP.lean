/- The reduced diagram of a list of tuples: plain lists. No program in sight. -/
import Derived.Test.YtfmdgdamelkelaaEdge
namespace Go.Proofs.Ytfmdgdamelkelaa
set_option linter.unusedVariables false
set_option linter.unusedSectionVars false
set_option maxRecDepth 100000

/-- the rests of the tuples that begin with v. -/
def sufF (v : Int) : List (List Int) → List (List Int)
  | [] => []
  | t :: ts => if t.head? = some v then t.tail :: sufF v ts else sufF v ts
theorem sufF_app (v : Int) (a b : List (List Int)) : sufF v (a ++ b) = sufF v a ++ sufF v b := by
  induction a with
  | nil => rfl
  | cons t ts ih => simp only [List.cons_append, sufF]; split <;> simp [ih]
theorem sufF_cons (v u : Int) (l : List (List Int)) : sufF v (l.map (u :: ·)) = if u = v then l else [] := by
  induction l with
  | nil => simp [sufF]
  | cons t ts ih =>
    simp only [List.map_cons, sufF, List.head?_cons, List.tail_cons, Option.some.injEq]
    by_cases h : u = v
    · rw [if_pos h] at ih ⊢; rw [if_pos h, ih]
    · rw [if_neg h] at ih ⊢; rw [if_neg h, ih]
theorem sufF_mem {v : Int} {t : List Int} : ∀ {l : List (List Int)}, (t ∈ sufF v l ↔ (v :: t) ∈ l)
  | [] => by simp [sufF]
  | s :: ss => by
    rw [sufF]
    cases s with
    | nil => simp [sufF_mem (l := ss)]
    | cons a s =>
      simp only [List.head?_cons, List.tail_cons, Option.some.injEq]
      split
      · rename_i h; subst h; simp [sufF_mem (l := ss)]
      · rename_i h
        rw [sufF_mem (l := ss), List.mem_cons]
        constructor
        · exact .inr
        · rintro (h2 | h2)
          · injection h2 with h3 _; exact absurd h3.symm h
          · exact h2
theorem sufF_nodup {v : Int} : ∀ {l : List (List Int)}, l.Nodup → (sufF v l).Nodup
  | [], _ => by simp [sufF]
  | s :: ss, h => by
    obtain ⟨h1, h2⟩ := List.nodup_cons.1 h
    rw [sufF]
    split
    · rename_i hh
      refine List.nodup_cons.2 ⟨fun hm => h1 ?_, sufF_nodup h2⟩
      cases s with
      | nil => simp at hh
      | cons a s =>
        simp at hh
        subst hh
        exact sufF_mem.1 hm
    · exact sufF_nodup h2
/-- the values below n with what they lead to. -/
def flatV (b : Nat → List (List Int)) : Nat → List (List Int)
  | 0 => []
  | n + 1 => flatV b n ++ (b n).map (((n : Nat) : Int) :: ·)
theorem sufF_flatV (b : Nat → List (List Int)) : ∀ n v, sufF ((v : Nat) : Int) (flatV b n) = if v < n then b v else []
  | 0, v => by simp [flatV, sufF]
  | n + 1, v => by
    rw [flatV, sufF_app, sufF_flatV b n v, sufF_cons]
    by_cases h : v = n
    · subst h; simp
    · by_cases h2 : v < n
      · rw [if_pos h2, if_neg (by omega), if_pos (by omega)]; simp
      · rw [if_neg h2, if_neg (by omega), if_neg (by omega)]; simp
theorem flatV_mem {b : Nat → List (List Int)} {t : List Int} : ∀ {n}, (t ∈ flatV b n ↔ ∃ v s, v < n ∧ s ∈ b v ∧ t = ((v : Nat) : Int) :: s)
  | 0 => by simp [flatV]
  | n + 1 => by
    rw [flatV, List.mem_append, flatV_mem, List.mem_map]
    constructor
    · rintro (⟨v, s, h1, h2, h3⟩ | ⟨s, h1, h2⟩)
      · exact ⟨v, s, by omega, h2, h3⟩
      · exact ⟨n, s, by omega, h1, h2.symm⟩
    · rintro ⟨v, s, h1, h2, h3⟩
      rcases Nat.lt_or_ge v n with h | h
      · exact .inl ⟨v, s, h, h2, h3⟩
      · obtain rfl : v = n := by omega
        exact .inr ⟨s, h2, h3.symm⟩
theorem flatV_congr {b c : Nat → List (List Int)} : ∀ {n}, (∀ v, v < n → b v = c v) → flatV b n = flatV c n
  | 0, _ => rfl
  | n + 1, h => by rw [flatV, flatV, flatV_congr fun v hv => h v (by omega), h n (by omega)]
theorem flatV_len {b : Nat → List (List Int)} : ∀ n, (flatV b (n + 1)).length = (flatV b n).length + (b n).length := fun n => by rw [flatV]; simp
theorem flatV_nodup {b : Nat → List (List Int)} : ∀ {n}, (∀ v, v < n → (b v).Nodup) → (flatV b n).Nodup
  | 0, _ => by simp [flatV]
  | n + 1, h => by
    rw [flatV, List.nodup_append]
    refine ⟨flatV_nodup fun v hv => h v (by omega), List.Pairwise.map _ (fun a b hab e => hab (by injection e)) (h n (by omega)), ?_⟩
    intro t ht s hs e
    subst e
    obtain ⟨v, s', h1, -, h3⟩ := flatV_mem.1 ht
    obtain ⟨s2, -, h4⟩ := List.mem_map.1 hs
    rw [← h4] at h3
    injection h3 with h3 _
    omega
section
variable {X S : Type} [DecidableEq S]
/-- the index of the last of the first n that is r, or -1. -/
def fnd (nx : List S) (r : S) : Nat → Int
  | 0 => -1
  | k + 1 => if nx[k]? = some r then (k : Int) else fnd nx r k
theorem fnd_cases (nx : List S) (r : S) : ∀ n, (fnd nx r n = -1 ∧ ∀ j, j < n → nx[j]? ≠ some r) ∨ ∃ j, j < n ∧ fnd nx r n = (j : Int) ∧ nx[j]? = some r
  | 0 => .inl ⟨rfl, fun j hj => by omega⟩
  | n + 1 => by
    rw [fnd]
    split
    · rename_i h; exact .inr ⟨n, by omega, rfl, h⟩
    · rename_i h
      rcases fnd_cases nx r n with ⟨h1, h2⟩ | ⟨j, h1, h2, h3⟩
      · exact .inl ⟨h1, fun j hj => by
          rcases Nat.lt_or_ge j n with h4 | h4
          · exact h2 j h4
          · obtain rfl : j = n := by omega
            exact h⟩
      · exact .inr ⟨j, by omega, h2, h3⟩
theorem at_inj {nx : List S} (hn : nx.Nodup) {i j : Nat} {r : S} (hi : nx[i]? = some r) (hj : nx[j]? = some r) : i = j := by
  obtain ⟨h1, e1⟩ := List.getElem?_eq_some_iff.1 hi
  obtain ⟨h2, e2⟩ := List.getElem?_eq_some_iff.1 hj
  exact (List.getElem_inj hn).1 (e1.trans e2.symm)
theorem fnd_at {nx : List S} (hn : nx.Nodup) {r : S} {j n : Nat} (hj : nx[j]? = some r) (hjn : j < n) : fnd nx r n = (j : Int) := by
  rcases fnd_cases nx r n with ⟨-, h2⟩ | ⟨i, h1, h2, h3⟩
  · exact absurd hj (h2 j hjn)
  · rw [h2, at_inj hn h3 hj]
theorem fnd_none {nx : List S} {r : S} (h : r ∉ nx) (n : Nat) : fnd nx r n = -1 := by
  rcases fnd_cases nx r n with ⟨h1, -⟩ | ⟨i, -, -, h3⟩
  · exact h1
  · exact absurd (List.mem_of_getElem? h3) h
theorem fnd_some {nx : List S} {r : S} (h : r ∈ nx) : ∃ j, j < nx.length ∧ fnd nx r nx.length = (j : Int) ∧ nx[j]? = some r := by
  rcases fnd_cases nx r nx.length with ⟨-, h2⟩ | h3
  · obtain ⟨j, hj, e⟩ := List.getElem_of_mem h
    exact absurd (by rw [List.getElem?_eq_getElem hj, e]) (h2 j hj)
  · exact h3
theorem fnd_pre {nx ny : List S} (hp : nx <+: ny) (hn : ny.Nodup) {r : S} (h : r ∈ nx) : fnd nx r nx.length = fnd ny r ny.length := by
  obtain ⟨j, h1, h2, h3⟩ := fnd_some h
  obtain ⟨zs, rfl⟩ := hp
  rw [h2]
  exact (fnd_at hn (by rw [List.getElem?_append_left h1]; exact h3) (by simp; omega)).symm
/-- the next layer's nodes behind the first edges of a node. -/
def addO (a : List S) : Option S → List S
  | none => a
  | some s => if s ∈ a then a else a ++ [s]
def nxV (ch : X → Nat → Option S) (x : X) (acc : List S) : Nat → List S
  | 0 => acc
  | v + 1 => addO (nxV ch x acc v) (ch x v)
def nxL (ch : X → Nat → Option S) (xs : List X) : Nat → List S
  | 0 => []
  | k + 1 => match xs[k]? with
    | none => nxL ch xs k
    | some x => nxV ch x (nxL ch xs k) 6
def toG (nx : List S) : Option S → Int
  | none => -1
  | some s => fnd nx s nx.length
def rowG (ch : X → Nat → Option S) (nx : List S) (x : X) : List Int := (List.range 6).map fun v => toG nx (ch x v)
theorem addO_pre (a : List S) (o : Option S) : a <+: addO a o := by
  cases o with
  | none => exact List.prefix_refl _
  | some s => rw [addO]; split; exact List.prefix_refl _; exact List.prefix_append _ _
theorem addO_nodup {a : List S} (h : a.Nodup) (o : Option S) : (addO a o).Nodup := by
  cases o with
  | none => exact h
  | some s =>
    rw [addO]
    split
    · exact h
    · rename_i hs
      rw [List.nodup_append]
      refine ⟨h, by simp, fun x hx y hy e => ?_⟩
      rw [List.mem_singleton.1 hy] at e
      subst e
      exact hs hx
theorem addO_mem {a : List S} {o : Option S} {s : S} : s ∈ addO a o ↔ s ∈ a ∨ o = some s := by
  cases o with
  | none => simp [addO]
  | some t =>
    rw [addO]
    split
    · rename_i h
      constructor
      · exact .inl
      · rintro (h2 | h2)
        · exact h2
        · injection h2 with h2; subst h2; exact h
    · rw [List.mem_append, List.mem_singleton, Option.some.injEq]
      constructor
      · rintro (h | h)
        · exact .inl h
        · exact .inr h.symm
      · rintro (h | h)
        · exact .inl h
        · exact .inr h.symm
theorem nxV_mono (ch : X → Nat → Option S) (x : X) (acc : List S) : ∀ {u v}, u ≤ v → nxV ch x acc u <+: nxV ch x acc v := fun {u v} h => by
  induction v with
  | zero => obtain rfl : u = 0 := by omega
            exact List.prefix_refl _
  | succ v ih =>
    rcases Nat.lt_or_ge u (v + 1) with h1 | h1
    · exact (ih (by omega)).trans (addO_pre _ _)
    · obtain rfl : u = v + 1 := by omega
      exact List.prefix_refl _
theorem nxV_nodup {ch : X → Nat → Option S} {x : X} {acc : List S} (h : acc.Nodup) : ∀ v, (nxV ch x acc v).Nodup
  | 0 => h
  | v + 1 => addO_nodup (nxV_nodup h v) _
theorem nxL_mono (ch : X → Nat → Option S) (xs : List X) : ∀ {u v}, u ≤ v → nxL ch xs u <+: nxL ch xs v := fun {u v} h => by
  induction v with
  | zero => obtain rfl : u = 0 := by omega
            exact List.prefix_refl _
  | succ v ih =>
    rcases Nat.lt_or_ge u (v + 1) with h1 | h1
    · refine (ih (by omega)).trans ?_
      rw [nxL]
      cases xs[v]? with
      | none => exact List.prefix_refl _
      | some x => exact nxV_mono ch x _ (Nat.zero_le 6)
    · obtain rfl : u = v + 1 := by omega
      exact List.prefix_refl _
theorem nxL_nodup (ch : X → Nat → Option S) (xs : List X) : ∀ k, (nxL ch xs k).Nodup
  | 0 => List.nodup_nil
  | k + 1 => by
    rw [nxL]
    cases xs[k]? with
    | none => exact nxL_nodup ch xs k
    | some x => exact nxV_nodup (nxL_nodup ch xs k) 6
theorem nxV_mem {ch : X → Nat → Option S} {x : X} {acc : List S} {s : S} : ∀ {v}, (s ∈ nxV ch x acc v ↔ s ∈ acc ∨ ∃ u, u < v ∧ ch x u = some s)
  | 0 => by simp [nxV]
  | v + 1 => by
    rw [nxV, addO_mem, nxV_mem]
    constructor
    · rintro ((h | ⟨u, h1, h2⟩) | h)
      · exact .inl h
      · exact .inr ⟨u, by omega, h2⟩
      · exact .inr ⟨v, by omega, h⟩
    · rintro (h | ⟨u, h1, h2⟩)
      · exact .inl (.inl h)
      · rcases Nat.lt_or_ge u v with h3 | h3
        · exact .inl (.inr ⟨u, h3, h2⟩)
        · obtain rfl : u = v := by omega
          exact .inr h2
theorem nxL_mem {ch : X → Nat → Option S} {xs : List X} {s : S} : ∀ {k}, k ≤ xs.length → (s ∈ nxL ch xs k ↔ ∃ i x u, i < k ∧ xs[i]? = some x ∧ u < 6 ∧ ch x u = some s)
  | 0, _ => by simp [nxL]
  | k + 1, hk => by
    have hx : xs[k]? = some xs[k] := List.getElem?_eq_getElem (by omega)
    rw [nxL, hx]
    show s ∈ nxV ch xs[k] (nxL ch xs k) 6 ↔ _
    rw [nxV_mem, nxL_mem (by omega)]
    constructor
    · rintro (⟨i, x, u, h1, h2⟩ | ⟨u, h1, h2⟩)
      · exact ⟨i, x, u, by omega, h2⟩
      · exact ⟨k, _, u, by omega, hx, h1, h2⟩
    · rintro ⟨i, x, u, h1, h2, h3⟩
      rcases Nat.lt_or_ge i k with h4 | h4
      · exact .inl ⟨i, x, u, h4, h2, h3⟩
      · obtain rfl : i = k := by omega
        rw [hx] at h2
        injection h2 with h2
        subst h2
        exact .inr ⟨u, h3⟩
theorem nxV_len (ch : X → Nat → Option S) (x : X) (acc : List S) : ∀ v, (nxV ch x acc v).length ≤ acc.length + v
  | 0 => Nat.le_refl _
  | v + 1 => by
    have ih := nxV_len ch x acc v
    rw [nxV]
    cases ch x v with
    | none => rw [addO]; omega
    | some s => rw [addO]; split <;> simp <;> omega
theorem nxL_len (ch : X → Nat → Option S) (xs : List X) : ∀ k, (nxL ch xs k).length ≤ 6 * k
  | 0 => by simp [nxL]
  | k + 1 => by
    have ih := nxL_len ch xs k
    rw [nxL]
    cases xs[k]? with
    | none => show (nxL ch xs k).length ≤ _; omega
    | some x => have := nxV_len ch x (nxL ch xs k) 6; show (nxV ch x (nxL ch xs k) 6).length ≤ _; omega
/-- one more edge: what the edge is, in the list so far. -/
theorem toG_step (ch : X → Nat → Option S) (xs : List X) {k v : Nat} {x : X} (hx : xs[k]? = some x) (hv : v < 6) :
    toG (nxV ch x (nxL ch xs k) (v + 1)) (ch x v) = toG (nxL ch xs xs.length) (ch x v) := by
  have hk : k < xs.length := (List.getElem?_eq_some_iff.1 hx).1
  cases h : ch x v with
  | none => rfl
  | some s =>
    refine fnd_pre ?_ (nxL_nodup ch xs _) (by rw [nxV, addO_mem]; exact .inr h)
    refine (nxV_mono ch x _ (show v + 1 ≤ 6 by omega)).trans ?_
    have := nxL_mono ch xs (show k + 1 ≤ xs.length by omega)
    rw [nxL, hx] at this
    exact this
end
section
variable {X S X' S' : Type} [DecidableEq S] [DecidableEq S'] {f : X → X'} {g : S → S'} {ch : X → Nat → Option S} {ch' : X' → Nat → Option S'}
theorem fnd_map {nx : List S} {r : S} (hi : ∀ a ∈ nx, g a = g r → a = r) : ∀ n, fnd (nx.map g) (g r) n = fnd nx r n
  | 0 => rfl
  | n + 1 => by
    rw [fnd, fnd, fnd_map hi n, List.getElem?_map]
    cases h : nx[n]? with
    | none => simp
    | some a =>
      simp only [Option.map_some, Option.some.injEq]
      by_cases e : a = r
      · rw [if_pos e, if_pos (by rw [e])]
      · rw [if_neg e, if_neg (fun h2 => e (hi a (List.mem_of_getElem? h) h2))]
/-- a renaming that keeps what differs apart renames all. -/
theorem nxV_map {x : X} {acc : List S} {Q : S → Prop} (hQ : ∀ a b, Q a → Q b → g a = g b → a = b) (hacc : ∀ a ∈ acc, Q a) (hch : ∀ v s, ch x v = some s → Q s) (he : ∀ v, v < 6 → ch' (f x) v = (ch x v).map g) : ∀ v, v ≤ 6 → nxV ch' (f x) (acc.map g) v = (nxV ch x acc v).map g ∧ ∀ a ∈ nxV ch x acc v, Q a
  | 0, _ => ⟨rfl, hacc⟩
  | v + 1, hv => by
    obtain ⟨h1, h2⟩ := nxV_map hQ hacc hch he v (by omega)
    rw [nxV, nxV, h1, he v (by omega)]
    cases h : ch x v with
    | none => exact ⟨rfl, h2⟩
    | some s =>
      have hs := hch v s h
      simp only [Option.map_some, addO]
      by_cases hm : s ∈ nxV ch x acc v
      · rw [if_pos hm, if_pos (List.mem_map.2 ⟨s, hm, rfl⟩)]
        exact ⟨rfl, h2⟩
      · rw [if_neg hm, if_neg (fun h3 => by
          obtain ⟨a, ha, e⟩ := List.mem_map.1 h3
          rw [hQ a s (h2 a ha) hs e] at ha
          exact hm ha)]
        refine ⟨by simp, fun a ha => ?_⟩
        rcases List.mem_append.1 ha with h4 | h4
        · exact h2 a h4
        · rw [List.mem_singleton.1 h4]; exact hs
theorem nxL_map {xs : List X} {Q : S → Prop} (hQ : ∀ a b, Q a → Q b → g a = g b → a = b) (hch : ∀ x ∈ xs, ∀ v s, ch x v = some s → Q s) (he : ∀ x ∈ xs, ∀ v, v < 6 → ch' (f x) v = (ch x v).map g) : ∀ k, nxL ch' (xs.map f) k = (nxL ch xs k).map g ∧ ∀ a ∈ nxL ch xs k, Q a
  | 0 => ⟨rfl, by simp [nxL]⟩
  | k + 1 => by
    obtain ⟨h1, h2⟩ := nxL_map hQ hch he k
    rw [nxL, nxL, List.getElem?_map, h1]
    cases h : xs[k]? with
    | none => exact ⟨rfl, h2⟩
    | some x => exact nxV_map hQ h2 (hch x (List.mem_of_getElem? h)) (he x (List.mem_of_getElem? h)) 6 (Nat.le_refl _)
theorem rowG_map {nx : List S} {x : X} {Q : S → Prop} (hQ : ∀ a b, Q a → Q b → g a = g b → a = b) (hnx : ∀ a ∈ nx, Q a) (hch : ∀ v s, ch x v = some s → Q s) (he : ∀ v, v < 6 → ch' (f x) v = (ch x v).map g) : rowG ch' (nx.map g) (f x) = rowG ch nx x := by
  unfold rowG
  refine List.map_congr_left fun v hv => ?_
  rw [he v (List.mem_range.1 hv)]
  cases h : ch x v with
  | none => rfl
  | some s =>
    simp only [Option.map_some, toG]
    rw [List.length_map]
    exact fnd_map (fun a ha e => hQ a s (hnx a ha) (hch v s h) e) _
end
/-- what v leads to, in a set of rests. -/
def chS (L : List (List Int)) (v : Nat) : Option (List (List Int)) := if sufF v L = [] then none else some (sufF v L)
def nextS (lay : List (List (List Int))) : List (List (List Int)) := nxL chS lay lay.length
/-- the layers from one layer of sets of rests on. -/
def bdL : Nat → List (List (List Int)) → List (List (List Int))
  | 0, _ => []
  | f + 1, lay => lay.map (rowG chS (nextS lay)) :: bdL f (nextS lay)
end Go.Proofs.Ytfmdgdamelkelaa
