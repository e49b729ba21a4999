/- What the maker's node stands for. No program in sight. -/
import Derived.Test.YtfmdgdamelkelaaBdG
namespace Go.Proofs.Ytfmdgdamelkelaa
set_option linter.unusedVariables false
set_option maxRecDepth 100000

/-- the rests behind the value u. -/
def tgtF (sat : List Int → Bool) (ws x : List Int) (d : Int) (u : Nat) : List (List Int) := if hasB d u = true then cmpF sat ws (x ++ [(u : Int)]) else []
/-- the edges so far: each leads to a node that stands for its rests, or nowhere. -/
def RowOk (N : List (List (List Int))) (k i f : Nat) (tgt : Nat → List (List Int)) (rs : List Int) : Prop :=
  ∀ (u : Nat) x, rs[u]? = some x → (x = -1 ∧ tgt u = []) ∨ (IsN N k (i + 1) x ∧ lang N f (i + 1) x = tgt u ∧ tgt u ≠ [])
theorem RowOk.nil (N : List (List (List Int))) (k i f : Nat) (tgt : Nat → List (List Int)) : RowOk N k i f tgt [] := fun u x h => by simp at h
theorem RowOk.ext {N N' : List (List (List Int))} {k i f : Nat} {tgt : Nat → List (List Int)} {rs : List Int} (h : RowOk N k i f tgt rs) (hi : i + (f + 1) = k) (hg : GInv N k) (he : GExt N N') : RowOk N' k i f tgt rs := fun u x hx =>
  (h u x hx).imp id fun ⟨h1, h2, h3⟩ => ⟨h1.ext he, by rw [lang_ext hg he f (i + 1) x (by omega) h1]; exact h2, h3⟩
theorem RowOk.snoc {N : List (List (List Int))} {k i f : Nat} {tgt : Nat → List (List Int)} {rs : List Int} {x : Int} (h : RowOk N k i f tgt rs) (hx : (x = -1 ∧ tgt rs.length = []) ∨ (IsN N k (i + 1) x ∧ lang N f (i + 1) x = tgt rs.length ∧ tgt rs.length ≠ [])) : RowOk N k i f tgt (rs ++ [x]) := fun u y hy => by
  rcases Nat.lt_or_ge u rs.length with hu | hu
  · rw [List.getElem?_append_left hu] at hy; exact h u y hy
  · have : u = rs.length := by
      have := (List.getElem?_eq_some_iff.1 hy).1
      simp at this
      omega
    subst this
    simp at hy
    subst hy
    exact hx
/-- what a call gives. -/
def ResF (N : List (List (List Int))) (k f : Nat) (sat : List Int → Bool) (ws x : List Int) (a : Int) : Prop :=
  (a = -1 ∧ cmpF sat ws x = []) ∨ (IsN N k x.length a ∧ lang N f x.length a = cmpF sat ws x ∧ cmpF sat ws x ≠ [])
theorem ResF.full {N : List (List (List Int))} {k : Nat} {sat : List Int → Bool} {ws x : List Int} (h : x.length = k) (hw : ws.length = k) : ResF N k 0 sat ws x (if sat x = true then 0 else -1) := by
  unfold ResF
  rw [cmp_full (by rw [h, hw])]
  split
  · exact .inr ⟨⟨by omega, fun _ => rfl, fun h' => absurd h h'⟩, rfl, by simp⟩
  · exact .inl ⟨rfl, rfl⟩
theorem ResF.dead {N : List (List (List Int))} {k f : Nat} {sat : List Int → Bool} {ws x rs : List Int} {d : Int} (hd : ws[x.length]? = some d) (h6 : rs.length = 6) (hr : RowOk N k x.length f (tgtF sat ws x d) rs) (ha : rs.any (fun x => decide (0 ≤ x)) = false) : ResF N k (f + 1) sat ws x (-1) := by
  refine .inl ⟨rfl, ?_⟩
  rw [cmp_step hd]
  have : ∀ v : Nat, v < 6 → (if hasB d v = true then cmpF sat ws (x ++ [(v : Int)]) else []) = [] := fun v hv => by
    have hx : rs[v]? = some rs[v] := List.getElem?_eq_getElem (by omega)
    rcases hr v _ hx with ⟨-, e⟩ | ⟨h1, -⟩
    · exact e
    · have := List.any_eq_false.1 ha _ (List.mem_of_getElem? hx)
      simp at this
      have := h1.1
      omega
  exact (flatV_congr (c := fun _ => []) this).trans rfl
theorem any_yes {rs : List Int} (ha : rs.any (fun x => decide (0 ≤ x)) = true) : ∃ (v : Nat) (x : Int), v < rs.length ∧ rs[v]? = some x ∧ 0 ≤ x := by
  obtain ⟨x, hx, h0⟩ := List.any_eq_true.1 ha
  obtain ⟨v, hv, e⟩ := List.getElem_of_mem hx
  exact ⟨v, x, hv, by rw [List.getElem?_eq_getElem hv, e], of_decide_eq_true h0⟩
/-- a node whose edges are the row's stands for x's rests. -/
theorem ResF.node {N : List (List (List Int))} {k f a : Nat} {sat : List Int → Bool} {ws x rs : List Int} {d : Int} {l : List (List Int)} (hk : x.length + (f + 1) = k) (hd : ws[x.length]? = some d) (h6 : rs.length = 6) (hg : GInv N k) (hl : N[x.length]? = some l) (ha : l[a]? = some rs)
    (hr : RowOk N k x.length f (tgtF sat ws x d) rs) (hn : rs.any (fun x => decide (0 ≤ x)) = true) : ResF N k (f + 1) sat ws x (a : Int) := by
  have hlang : lang N (f + 1) x.length (a : Int) = cmpF sat ws x := by
    rw [cmp_step hd, lang]
    refine flatV_congr fun v hv => ?_
    have hx : rs[v]? = some rs[v] := List.getElem?_eq_getElem (by omega)
    rw [Int.toNat_natCast, edge_of hl ha hx]
    rcases hr v _ hx with ⟨e1, e⟩ | ⟨h1, h2, h3⟩
    · rw [e1, if_neg (by decide)]; exact e.symm
    · rw [if_pos h1.1, h2]; rfl
  have hal := (List.getElem?_eq_some_iff.1 ha).1
  refine .inr ⟨⟨by omega, fun e => by omega, fun _ => ⟨l, hl, by simpa using hal⟩⟩, hlang, ?_⟩
  rw [← hlang]
  exact lang_ne hg (f + 1) x.length (a : Int) (by omega) ⟨by omega, fun e => by omega, fun _ => ⟨l, hl, by simpa using hal⟩⟩
theorem RowOk.edges {N : List (List (List Int))} {k i f : Nat} {tgt : Nat → List (List Int)} {rs : List Int} (h : RowOk N k i f tgt rs) : ∀ (v : Nat) x, rs[v]? = some x → x = -1 ∨ IsN N k (i + 1) x := fun v x hx => (h v x hx).imp And.left And.left
/-- no layer is longer than M. -/
def Bd5 (N : List (List (List Int))) (M : Nat) : Prop := ∀ l ∈ N, l.length ≤ M
theorem Bd5.mono {N : List (List (List Int))} {M M' : Nat} (h : Bd5 N M) (hm : M ≤ M') : Bd5 N M' := fun l hl => Nat.le_trans (h l hl) hm
theorem Bd5.add {N : List (List (List Int))} {M i : Nat} {l : List (List Int)} {r : List Int} (h : Bd5 N M) (hl : N[i]? = some l) : Bd5 (N.set i (l ++ [r])) (M + 1) := fun m hm => by
  rcases List.mem_or_eq_of_mem_set hm with h1 | h1
  · have := h m h1; omega
  · rw [h1]
    have := h l (List.mem_of_getElem? hl)
    simp
    omega
/-- the numbers of a row of nodes are small. -/
theorem row64 {N : List (List (List Int))} {k i f M : Nat} {tgt : Nat → List (List Int)} {rs : List Int} (h : RowOk N k i f tgt rs) (hb : Bd5 N M) (hM : M ≤ 100000) : ∀ x ∈ rs, -1 ≤ x ∧ x ≤ 100000 := fun x hx => by
  obtain ⟨u, hu, e⟩ := List.getElem_of_mem hx
  rcases h u x (by rw [List.getElem?_eq_getElem hu, e]) with ⟨rfl, -⟩ | ⟨h1, -⟩
  · omega
  · refine ⟨by have := h1.1; omega, ?_⟩
    by_cases hi : i + 1 = k
    · rw [h1.2.1 hi]; omega
    · obtain ⟨l, h2, h3⟩ := h1.2.2 hi
      have := hb l (List.mem_of_getElem? h2)
      omega
end Go.Proofs.Ytfmdgdamelkelaa
