/- Which number cells a value holds, in the order in which they are marked; what marking leaves. No program in sight. -/
import Derived.Test.YtjpcdbdaimonlaaTouch
namespace Go.Proofs.Ytjpcdbdaimonlaa
open Go.ChangeShapes Go.WideShapes Go.ChangeAt Go.RowKit
open Go.Shelf
set_option linter.unusedVariables false
set_option maxRecDepth 100000

/-- the cells of S hold k, k + 1, ..; every other cell is as it was. -/
structure Wr (lo : Nat) (w w' : World) (S : List (Nat × Nat)) (k : Int) : Prop where
  below : Below lo w w'
  keep : Keep w w'
  old : ∀ (b j : Nat), b < w.heap.size → (b, j) ∉ S → w'.cell? ⟨b, j, none⟩ = w.cell? ⟨b, j, none⟩
  set : S.Nodup → ∀ (i : Nat) s, S[i]? = some s → w'.cell? ⟨s.1, s.2, none⟩ = some (.int .i64 (k + i))
  lt : ∀ s ∈ S, s.1 < w'.heap.size
/-- the cells of S hold k, k + 1, .. -/
def Holds (w : World) (S : List (Nat × Nat)) (k : Int) : Prop := ∀ (i : Nat) s, S[i]? = some s → w.cell? ⟨s.1, s.2, none⟩ = some (.int .i64 (k + i))
section
variable {lo : Nat} {w w1 w2 w' : World} {S T : List (Nat × Nat)} {k : Int}
theorem Wr.refl (lo : Nat) (w : World) (k : Int) : Wr lo w w [] k := ⟨Below.refl _ _, Keep.refl _, fun _ _ _ _ => rfl, fun _ i s h => by simp at h, fun s h => by simp at h⟩
theorem Wr.of_below (hb : Below w.heap.size w w') (hl : lo ≤ w.heap.size) : Wr lo w w' [] k := ⟨hb.mono hl, Keep.of_below hb, fun b j hs _ => hb.cell (p := ⟨b, j, none⟩) hs, fun _ i s h => by simp at h, fun s h => by simp at h⟩
theorem Wr.trans {k2 : Int} (h : Wr lo w w1 S k) (g : Wr lo w1 w2 T k2) (hk : k2 = k + S.length) : Wr lo w w2 (S ++ T) k := by
  subst hk
  have hS := h.lt
  refine ⟨h.below.trans g.below, h.keep.trans g.keep, fun b j hb hn => ?_, fun hnd i s hi => ?_, fun s hs => (List.mem_append.1 hs).elim (fun h1 => Nat.lt_of_lt_of_le (h.lt s h1) g.below.size) (g.lt s)⟩
  · rw [List.mem_append, not_or] at hn
    exact (g.old b j (Nat.lt_of_lt_of_le hb h.below.size) hn.2).trans (h.old b j hb hn.1)
  · obtain ⟨n1, n2, n3⟩ := List.nodup_append.1 hnd
    rcases Nat.lt_or_ge i S.length with hl | hl
    · rw [List.getElem?_append_left hl] at hi
      have hm := List.mem_of_getElem? hi
      have := g.old s.1 s.2 (hS s hm) (fun hc => n3 s hm _ hc rfl)
      exact this.trans (h.set n1 i s hi)
    · rw [List.getElem?_append_right hl] at hi
      have := g.set n2 _ s hi
      rw [this]
      congr 2
      omega
theorem Wr.store {g j : Nat} {cs : Array Value} {t : TypeId} {x : Int} (hl : lo ≤ g) (hg : w.heap[g]? = some (.cells cs t (0, 0))) (hj : cs[j]? = some (.int .i64 x)) : Wr lo w (w.setCell ⟨g, j, none⟩ (.int .i64 k)) [(g, j)] k := by
  have hc : w.cell? ⟨g, j, none⟩ = some (.int .i64 x) := by rw [cell_of_row w g j cs t _ hg]; exact hj
  refine ⟨(Below.refl _ _).setCell (by simpa using hl) _, Keep.store hg hj, fun b j' hb hn => ?_, fun _ i s hi => ?_, fun s hs => by simp at hs; subst hs; simpa using lt_heap hg⟩
  · refine World.cell?_setCell_other _ _ _ _ (fun e => hn ?_)
    injection e with e1 e2
    rw [← e1, ← e2]; simp
  · match i, hi with
    | 0, hi =>
      simp at hi
      subst hi
      rw [World.cell?_setCell_same _ _ _ hc]
      simp
    | i + 1, hi => simp at hi
theorem Wr.nil_left (h : Wr lo w w1 [] k) (g : Wr lo w1 w2 T k) : Wr lo w w2 T k := by
  have := h.trans g (by simp)
  simpa using this
theorem Wr.nil_right {k2 : Int} (h : Wr lo w w1 S k) (g : Wr lo w1 w2 [] k2) : Wr lo w w2 S k :=
  ⟨h.below.trans g.below, h.keep.trans g.keep, fun b j hb hn => (g.old b j (Nat.lt_of_lt_of_le hb h.below.size) (by simp)).trans (h.old b j hb hn), fun hnd i s hi => (g.old s.1 s.2 (h.lt s (List.mem_of_getElem? hi)) (by simp)).trans (h.set hnd i s hi), fun s hs => Nat.lt_of_lt_of_le (h.lt s hs) g.below.size⟩
theorem Holds.of_wr (h : Wr lo w w' S k) (hn : S.Nodup) : Holds w' S k := h.set hn
theorem Holds.append (h : Holds w (S ++ T) k) : Holds w S k ∧ Holds w T (k + S.length) := by
  refine ⟨fun i s hi => h i s ?_, fun i s hi => ?_⟩
  · rw [List.getElem?_append_left (by
      rcases Nat.lt_or_ge i S.length with hl | hl
      · exact hl
      · rw [List.getElem?_eq_none hl] at hi; cases hi)]; exact hi
  · have := h (S.length + i) s (by rw [List.getElem?_append_right (by omega)]; rw [show S.length + i - S.length = i by omega]; exact hi)
    rw [this]
    congr 2
    omega
theorem Holds.below (h : Holds w S k) (hb : Below w.heap.size w w') (hS : ∀ s ∈ S, s.1 < w.heap.size) : Holds w' S k := fun i s hi => (hb.cell (p := ⟨s.1, s.2, none⟩) (hS s (List.mem_of_getElem? hi))).trans (h i s hi)
end
section
variable {lo n : Nat} {w w' : World} {A : Option Addr}
/-- the first n cells of block g. -/
def seg (g n : Nat) : List (Nat × Nat) := (List.range n).map fun j => (g, j)
theorem seg_len (g n : Nat) : (seg g n).length = n := by simp [seg]
theorem seg_at {g n j : Nat} (h : j < n) : (seg g n)[j]? = some (g, j) := by simp [seg, h]
theorem seg_take {g n j : Nat} (h : j ≤ n) : (seg g n).take j = seg g j := by
  unfold seg
  rw [← List.map_take, List.take_range, Nat.min_eq_left h]
theorem seg_succ (g j : Nat) : seg g (j + 1) = seg g j ++ [(g, j)] := by simp [seg, List.range_succ]
theorem take_snoc {α : Type} {S : List α} {j : Nat} {s : α} (h : S[j]? = some s) : S.take (j + 1) = S.take j ++ [s] := by rw [List.take_add_one, h]; rfl
theorem flat_snoc {α : Type} {Ss : List (List α)} {j : Nat} {S : List α} (h : Ss[j]? = some S) : (Ss.take (j + 1)).flatten = (Ss.take j).flatten ++ S := by rw [take_snoc h]; simp
theorem flat_le {α : Type} (Ss : List (List α)) (j : Nat) : (Ss.take j).flatten.length ≤ Ss.flatten.length := by
  have := congrArg (fun l => l.flatten.length) (List.take_append_drop j Ss)
  simp only [List.flatten_append, List.length_append] at this
  omega
/-- numbers, at S. -/
def SI (lo : Nat) (w : World) (A : Option Addr) (n : Nat) (S : List (Nat × Nat)) : Prop := (n = 0 ∧ S = []) ∨ ∃ (g : Nat) (cs : Array Value) (t : TypeId), A = some ⟨g, 0, none⟩ ∧ lo ≤ g ∧ w.heap[g]? = some (.cells cs t (0, 0)) ∧ (∀ j, j < n → ∃ x, cs[j]? = some (.int .i64 x)) ∧ S = seg g n
theorem SI.keep {S : List (Nat × Nat)} (h : SI lo w A n S) (k : Keep w w') : SI lo w' A n S := by
  rcases h with h | ⟨g, cs, t, e, h1, h3, h4, h5⟩
  · exact .inl h
  · obtain ⟨c1, k1, k2, k3⟩ := k g cs t h3
    refine .inr ⟨g, c1, t, e, h1, k1, fun j hj => ?_, h5⟩
    obtain ⟨x, hx⟩ := h4 j hj
    exact k3 j x hx
theorem SI.len {S : List (Nat × Nat)} (h : SI lo w A n S) : S.length = n := by
  rcases h with ⟨h1, h2⟩ | ⟨g, cs, t, e, h1, h3, h4, h5⟩
  · rw [h1, h2]; rfl
  · rw [h5, seg_len]
theorem SI.lt {S : List (Nat × Nat)} (h : SI lo w A n S) : ∀ s ∈ S, s.1 < w.heap.size := by
  rcases h with ⟨h1, h2⟩ | ⟨g, cs, t, e, h1, h3, h4, h5⟩
  · rw [h2]; simp
  · intro s hs
    rw [h5] at hs
    unfold seg at hs
    obtain ⟨j, -, rfl⟩ := List.mem_map.1 hs
    exact lt_heap h3
/-- rows of numbers, at Ss. -/
def SRows (lo : Nat) (w : World) (A : Option Addr) (n : Nat) (Ss : List (List (Nat × Nat))) : Prop := Ss.length = n ∧ (n = 0 ∨ ∃ (g : Nat) (cs : Array Value) (t : TypeId), A = some ⟨g, 0, none⟩ ∧ w.heap[g]? = some (.cells cs t (0, 0)) ∧ ∀ (j : Nat) S, Ss[j]? = some S → ∃ A' n' c', cs[j]? = some (.slice A' n' c') ∧ SI lo w A' n' S)
theorem SRows.keep {Ss : List (List (Nat × Nat))} (h : SRows lo w A n Ss) (k : Keep w w') : SRows lo w' A n Ss := by
  obtain ⟨hl, h⟩ := h
  refine ⟨hl, h.imp id ?_⟩
  rintro ⟨g, cs, t, e, h3, h4⟩
  obtain ⟨c1, k1, k2, k3⟩ := k g cs t h3
  refine ⟨g, c1, t, e, k1, fun j S hj => ?_⟩
  obtain ⟨A', n', c', a1, a3⟩ := h4 j S hj
  exact ⟨A', n', c', k2 j _ _ _ a1, a3.keep k⟩
theorem SRows.lt {Ss : List (List (Nat × Nat))} (h : SRows lo w A n Ss) : ∀ s ∈ Ss.flatten, s.1 < w.heap.size := by
  obtain ⟨hl, h⟩ := h
  intro s hs
  obtain ⟨S, hS, hs⟩ := List.mem_flatten.1 hs
  obtain ⟨j, hj⟩ := List.mem_iff_getElem?.1 hS
  rcases h with h | ⟨g, cs, t, e, h3, h4⟩
  · rw [List.length_eq_zero_iff.1 (hl.trans h)] at hS; simp at hS
  · obtain ⟨A', n', c', a1, a3⟩ := h4 j S hj
    exact a3.lt s hs
/-- a constraint's slices, at V, Q, Rs. -/
def SCon (lo : Nat) (w : World) (va aa ra : Option Addr) (nv na nr : Nat) (V Q : List (Nat × Nat)) (Rs : List (List (Nat × Nat))) : Prop := SI lo w va nv V ∧ SI lo w aa na Q ∧ SRows lo w ra nr Rs
theorem SCon.keep {va aa ra : Option Addr} {nv na nr : Nat} {V Q : List (Nat × Nat)} {Rs : List (List (Nat × Nat))} (h : SCon lo w va aa ra nv na nr V Q Rs) (k : Keep w w') : SCon lo w' va aa ra nv na nr V Q Rs := ⟨h.1.keep k, h.2.1.keep k, h.2.2.keep k⟩
/-- the sites of the constraint at cell o of block g. -/
def csite (g o : Nat) (p : List (Nat × Nat) × List (Nat × Nat) × List (List (Nat × Nat))) : List (Nat × Nat) := [(g, o)] ++ (p.1 ++ (p.2.1 ++ ([(g, o + 3)] ++ p.2.2.flatten)))
/-- the sites of the constraints from the j-th on. -/
def csites (g : Nat) : Nat → List (List (Nat × Nat) × List (Nat × Nat) × List (List (Nat × Nat))) → List (Nat × Nat)
  | _, [] => []
  | j, p :: ps => csite g (j * 5) p ++ csites g (j + 1) ps
/-- the sites of constraint j alone. -/
theorem csites_take (g : Nat) (ps : List (List (Nat × Nat) × List (Nat × Nat) × List (List (Nat × Nat)))) (p : List (Nat × Nat) × List (Nat × Nat) × List (List (Nat × Nat))) : ∀ (i j : Nat), ps[j]? = some p → csites g i (ps.take (j + 1)) = csites g i (ps.take j) ++ csite g ((i + j) * 5) p := by
  induction ps with
  | nil => intro i j h; simp at h
  | cons q ps ih =>
    intro i j h
    cases j with
    | zero =>
      simp at h
      subst h
      simp [csites]
    | succ j =>
      have := ih (i + 1) j (by simpa using h)
      rw [List.take_succ_cons, List.take_succ_cons]
      show csite g (i * 5) q ++ csites g (i + 1) (ps.take (j + 1)) = (csite g (i * 5) q ++ csites g (i + 1) (ps.take j)) ++ _
      rw [this, List.append_assoc, show i + 1 + j = i + (j + 1) by omega]
theorem csites_le (g : Nat) (ps : List (List (Nat × Nat) × List (Nat × Nat) × List (List (Nat × Nat)))) : ∀ j, (csites g 0 (ps.take j)).length ≤ (csites g 0 ps).length := by
  have : ∀ i j, (csites g i (ps.take j)).length ≤ (csites g i ps).length := by
    induction ps with
    | nil => intro i j; simp
    | cons q ps ih =>
      intro i j
      cases j with
      | zero => simp [csites]
      | succ j =>
        rw [List.take_succ_cons]
        show (csite g (i * 5) q ++ csites g (i + 1) (ps.take j)).length ≤ (csite g (i * 5) q ++ csites g (i + 1) ps).length
        have := ih (i + 1) j
        simp only [List.length_append]
        omega
  exact this 0
theorem csites_at (g : Nat) (ps : List (List (Nat × Nat) × List (Nat × Nat) × List (List (Nat × Nat)))) (p : List (Nat × Nat) × List (Nat × Nat) × List (List (Nat × Nat))) : ∀ (j i : Nat), ps[j]? = some p → ∃ T, csites g i ps = csites g i (ps.take j) ++ (csite g ((i + j) * 5) p ++ T) := by
  induction ps with
  | nil => intro j i h; simp at h
  | cons q ps ih =>
    intro j i h
    cases j with
    | zero =>
      simp at h
      subst h
      exact ⟨csites g (i + 1) ps, by simp [csites]⟩
    | succ j =>
      obtain ⟨T, hT⟩ := ih j (i + 1) (by simpa using h)
      refine ⟨T, ?_⟩
      rw [List.take_succ_cons]
      show csite g (i * 5) q ++ csites g (i + 1) ps = (csite g (i * 5) q ++ csites g (i + 1) (ps.take j)) ++ _
      rw [hT, List.append_assoc, show i + 1 + j = i + (j + 1) by omega]
theorem Holds.one {w : World} {g o : Nat} {k : Int} (h : Holds w [(g, o)] k) : w.cell? ⟨g, o, none⟩ = some (.int .i64 k) := by
  have := h 0 (g, o) rfl
  simpa using this
/-- constraints, at ps. -/
def SCons (lo : Nat) (w : World) (A : Option Addr) (n g : Nat) (ps : List (List (Nat × Nat) × List (Nat × Nat) × List (List (Nat × Nat)))) : Prop := ps.length = n ∧ n ≤ 1048576 ∧ (n = 0 ∨ ∃ (cs : Array Value) (t : TypeId), A = some ⟨g, 0, none⟩ ∧ lo ≤ g ∧ w.heap[g]? = some (.cells cs t (0, 0)) ∧
  ∀ (j : Nat) p, ps[j]? = some p → ∃ k va nv cv aa na ca b ra nr cr, cs[j * 5]? = some (.int .i64 k) ∧ cs[j * 5 + 1]? = some (.slice va nv cv) ∧ cs[j * 5 + 2]? = some (.slice aa na ca) ∧ cs[j * 5 + 3]? = some (.int .i64 b) ∧ cs[j * 5 + 4]? = some (.slice ra nr cr) ∧ nr ≤ 1048576 ∧ SCon lo w va aa ra nv na nr p.1 p.2.1 p.2.2)
theorem SCons.keep {g : Nat} {ps : List (List (Nat × Nat) × List (Nat × Nat) × List (List (Nat × Nat)))} (h : SCons lo w A n g ps) (k : Keep w w') : SCons lo w' A n g ps := by
  obtain ⟨hl, hn, h⟩ := h
  refine ⟨hl, hn, h.imp id ?_⟩
  rintro ⟨cs, t, e, h1, h3, h4⟩
  obtain ⟨c1, k1, k2, k3⟩ := k g cs t h3
  refine ⟨c1, t, e, h1, k1, fun j p hj => ?_⟩
  obtain ⟨kk, va, nv, cv, aa, na, ca, b, ra, nr, cr, a0, a1, a2, a3, a4, a5, a6⟩ := h4 j p hj
  obtain ⟨k', a0'⟩ := k3 _ _ a0
  obtain ⟨b', a3'⟩ := k3 _ _ a3
  exact ⟨k', va, nv, cv, aa, na, ca, b', ra, nr, cr, a0', k2 _ _ _ _ a1, k2 _ _ _ _ a2, a3', k2 _ _ _ _ a4, a5, a6.keep k⟩
/-- a model, at S. -/
def SMod (lo : Nat) (w : World) (us : List Value) (S : List (Nat × Nat)) : Prop := ∃ da nd cd ca nc cc D g ps, us = [.slice da nd cd, .slice ca nc cc] ∧ SI lo w da nd D ∧ SCons lo w ca nc g ps ∧ S = D ++ csites g 0 ps
theorem SMod.keep {us : List Value} {S : List (Nat × Nat)} (h : SMod lo w us S) (k : Keep w w') : SMod lo w' us S := by
  obtain ⟨da, nd, cd, ca, nc, cc, D, g, ps, e, h1, h2, h3⟩ := h
  exact ⟨da, nd, cd, ca, nc, cc, D, g, ps, e, h1.keep k, h2.keep k, h3⟩
end
end Go.Proofs.Ytjpcdbdaimonlaa
