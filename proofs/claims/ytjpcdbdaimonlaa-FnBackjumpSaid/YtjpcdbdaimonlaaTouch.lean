/- Marks on the law's own copies of models: which blocks they touch, and what they keep. -/
import Derived.Test.YtjpcdbdaimonlaaSto
import Derived.Test.YtjpcdbdaimonlaaMarks
namespace Go.Proofs.Ytjpcdbdaimonlaa
open Go.ChangeShapes Go.WideShapes Go.ChangeAt Go.RowKit
open Go.Shelf
set_option linter.unusedVariables false
set_option maxRecDepth 100000

/-- Of the blocks of w only those from lo to below hi may have turned. -/
def Touch (lo hi : Nat) (w w' : World) : Prop := Below lo w w' ∧ ∀ b, hi ≤ b → b < w.heap.size → w'.heap[b]? = w.heap[b]?
/-- Slices in cells stay, numbers stay numbers. -/
def Keep (w w' : World) : Prop := ∀ (g : Nat) (cs : Array Value) (t : TypeId), w.heap[g]? = some (.cells cs t (0, 0)) → ∃ cs' : Array Value, w'.heap[g]? = some (.cells cs' t (0, 0)) ∧
  (∀ (j : Nat) A n c, cs[j]? = some (.slice A n c) → cs'[j]? = some (.slice A n c)) ∧ (∀ (j : Nat) x, cs[j]? = some (.int .i64 x) → ∃ y, cs'[j]? = some (.int .i64 y))
section
variable {w w1 w2 w' : World} {lo hi n : Nat} {A : Option Addr}
theorem lt_heap {g : Nat} {o : Obj} (h : w.heap[g]? = some o) : g < w.heap.size := (Array.getElem?_eq_some_iff.1 h).1
theorem Touch.refl (lo hi : Nat) (w : World) : Touch lo hi w w := ⟨Below.refl _ _, fun _ _ _ => rfl⟩
theorem Touch.trans (h : Touch lo hi w w1) (k : Touch lo hi w1 w2) : Touch lo hi w w2 :=
  ⟨h.1.trans k.1, fun b hb hs => (k.2 b hb (Nat.lt_of_lt_of_le hs h.1.size)).trans (h.2 b hb hs)⟩
theorem Touch.of_below (hb : Below w.heap.size w w') (hl : lo ≤ w.heap.size) : Touch lo hi w w' := ⟨hb.mono hl, fun b _ hs => hb.block b hs⟩
theorem Touch.store {g : Nat} (hl : lo ≤ g) (hh : g < hi) (j : Nat) (u : Value) : Touch lo hi w (w.setCell ⟨g, j, none⟩ u) :=
  ⟨(Below.refl _ _).setCell (by simpa using hl) _, fun b hb _ => Below.heap_setCell w ⟨g, j, none⟩ u b (by show b ≠ g; omega)⟩
theorem Keep.refl (w : World) : Keep w w := fun g cs t h => ⟨cs, h, fun _ _ _ _ h => h, fun _ x h => ⟨x, h⟩⟩
theorem Keep.trans (h : Keep w w1) (k : Keep w1 w2) : Keep w w2 := fun g cs t hg => by
  obtain ⟨c1, h1, h2, h3⟩ := h g cs t hg
  obtain ⟨c2, k1, k2, k3⟩ := k g c1 t h1
  refine ⟨c2, k1, fun j A n c hj => k2 j A n c (h2 j A n c hj), fun j x hj => ?_⟩
  obtain ⟨y, hy⟩ := h3 j x hj
  exact k3 j y hy
theorem Keep.of_below (hb : Below w.heap.size w w') : Keep w w' := fun g cs t hg => ⟨cs, (hb.block g (lt_heap hg)).trans hg, fun _ _ _ _ h => h, fun _ x h => ⟨x, h⟩⟩
theorem Keep.store {g j : Nat} {cs : Array Value} {t : TypeId} {x y : Int} (hg : w.heap[g]? = some (.cells cs t (0, 0))) (hj : cs[j]? = some (.int .i64 x)) : Keep w (w.setCell ⟨g, j, none⟩ (.int .i64 y)) := by
  intro g' c0 t0 h0
  by_cases he : g' = g
  · subst he
    rw [hg] at h0
    injection h0 with h0
    injection h0 with e1 e2 e3
    subst e1 e2
    refine ⟨_, heap_setCell_same w g' j cs t _ hg, fun i A n c hi => ?_, fun i x' hi => ?_⟩
    · rw [Array.getElem?_setIfInBounds]
      split
      · rename_i hij; subst hij; rw [hj] at hi; cases hi
      · exact hi
    · rw [Array.getElem?_setIfInBounds]
      split
      · rename_i hij
        subst hij
        rw [if_pos (Array.getElem?_eq_some_iff.1 hj).1]
        exact ⟨y, rfl⟩
      · exact ⟨x', hi⟩
  · exact ⟨c0, (Below.heap_setCell w ⟨g, j, none⟩ _ g' he).trans h0, fun _ _ _ _ h => h, fun _ x h => ⟨x, h⟩⟩
/-- n numbers in a block from lo to below hi. -/
def HI (w : World) (lo hi : Nat) (A : Option Addr) (n : Nat) : Prop := n = 0 ∨ ∃ (g : Nat) (cs : Array Value) (t : TypeId), A = some ⟨g, 0, none⟩ ∧ lo ≤ g ∧ g < hi ∧ w.heap[g]? = some (.cells cs t (0, 0)) ∧ ∀ j, j < n → ∃ x, cs[j]? = some (.int .i64 x)
theorem HI.keep (h : HI w lo hi A n) (k : Keep w w') : HI w' lo hi A n := by
  rcases h with h | ⟨g, cs, t, e, h1, h2, h3, h4⟩
  · exact .inl h
  · obtain ⟨c1, k1, k2, k3⟩ := k g cs t h3
    refine .inr ⟨g, c1, t, e, h1, h2, k1, fun j hj => ?_⟩
    obtain ⟨x, hx⟩ := h4 j hj
    exact k3 j x hx
/-- rows of numbers, each in a block from lo to below hi. -/
def HRows (w : World) (lo hi : Nat) (A : Option Addr) (n : Nat) : Prop := n = 0 ∨ ∃ (g : Nat) (cs : Array Value) (t : TypeId), A = some ⟨g, 0, none⟩ ∧ w.heap[g]? = some (.cells cs t (0, 0)) ∧ ∀ j, j < n → ∃ A' n' c', cs[j]? = some (.slice A' n' c') ∧ n' ≤ 1048576 ∧ HI w lo hi A' n'
theorem HRows.keep (h : HRows w lo hi A n) (k : Keep w w') : HRows w' lo hi A n := by
  rcases h with h | ⟨g, cs, t, e, h3, h4⟩
  · exact .inl h
  · obtain ⟨c1, k1, k2, k3⟩ := k g cs t h3
    refine .inr ⟨g, c1, t, e, k1, fun j hj => ?_⟩
    obtain ⟨A', n', c', a1, a2, a3⟩ := h4 j hj
    exact ⟨A', n', c', k2 j _ _ _ a1, a2, a3.keep k⟩
def HCon (w : World) (lo hi : Nat) (va aa ra : Option Addr) (nv na nr : Nat) : Prop := nv ≤ 1048576 ∧ na ≤ 1048576 ∧ nr ≤ 1048576 ∧ HI w lo hi va nv ∧ HI w lo hi aa na ∧ HRows w lo hi ra nr
theorem HCon.keep {va aa ra : Option Addr} {nv na nr : Nat} (h : HCon w lo hi va aa ra nv na nr) (k : Keep w w') : HCon w' lo hi va aa ra nv na nr := ⟨h.1, h.2.1, h.2.2.1, h.2.2.2.1.keep k, h.2.2.2.2.1.keep k, h.2.2.2.2.2.keep k⟩
/-- constraints, all in blocks from lo to below hi. -/
def HCons (w : World) (lo hi : Nat) (A : Option Addr) (n : Nat) : Prop := n = 0 ∨ ∃ (g : Nat) (cs : Array Value) (t : TypeId), A = some ⟨g, 0, none⟩ ∧ lo ≤ g ∧ g < hi ∧ w.heap[g]? = some (.cells cs t (0, 0)) ∧
  ∀ j, j < n → ∃ k va nv cv aa na ca b ra nr cr, cs[j * 5]? = some (.int .i64 k) ∧ cs[j * 5 + 1]? = some (.slice va nv cv) ∧ cs[j * 5 + 2]? = some (.slice aa na ca) ∧ cs[j * 5 + 3]? = some (.int .i64 b) ∧ cs[j * 5 + 4]? = some (.slice ra nr cr) ∧ HCon w lo hi va aa ra nv na nr
theorem HCons.keep (h : HCons w lo hi A n) (k : Keep w w') : HCons w' lo hi A n := by
  rcases h with h | ⟨g, cs, t, e, h1, h2, h3, h4⟩
  · exact .inl h
  · obtain ⟨c1, k1, k2, k3⟩ := k g cs t h3
    refine .inr ⟨g, c1, t, e, h1, h2, k1, fun j hj => ?_⟩
    obtain ⟨k, va, nv, cv, aa, na, ca, b, ra, nr, cr, a0, a1, a2, a3, a4, a5⟩ := h4 j hj
    obtain ⟨k', a0'⟩ := k3 _ _ a0
    obtain ⟨b', a3'⟩ := k3 _ _ a3
    exact ⟨k', va, nv, cv, aa, na, ca, b', ra, nr, cr, a0', k2 _ _ _ _ a1, k2 _ _ _ _ a2, a3', k2 _ _ _ _ a4, a5.keep ‹_›⟩
end
/-- A model whose blocks lie from lo to below hi. -/
def HMod (w : World) (lo hi : Nat) (us : List Value) : Prop := ∃ da nd cd ca nc cc, us = [.slice da nd cd, .slice ca nc cc] ∧ nd ≤ 1048576 ∧ nc ≤ 1048576 ∧ HI w lo hi da nd ∧ HCons w lo hi ca nc
theorem HMod.keep {w w' : World} {lo hi : Nat} {us : List Value} (h : HMod w lo hi us) (k : Keep w w') : HMod w' lo hi us := by
  obtain ⟨da, nd, cd, ca, nc, cc, e, h1, h2, h3, h4⟩ := h
  exact ⟨da, nd, cd, ca, nc, cc, e, h1, h2, h3.keep k, h4.keep k⟩
theorem take_at {cur : Array Value} {m j : Nat} {L : List Value} (h : cur.toList.take m = L) (hj : j < m) : cur[j]? = L[j]? := by
  rw [← h, List.getElem?_take, if_pos hj]; simp
theorem own_heap {w : World} {base n m size c : Nat} {e : TypeId} {A : Option Addr} {xs : List Value} (h : w.ownsRow base e size (.slice A n c) m xs) : (n = 0 ∧ m = 0) ∨ ∃ (g : Nat) (cur : Array Value), A = some ⟨g, 0, none⟩ ∧ n = m ∧ base ≤ g ∧ g < w.heap.size ∧ w.heap[g]? = some (.cells cur e (0, 0)) ∧ ∀ j, j < m * size → cur[j]? = xs[j]? := by
  rcases h.2 with ⟨h1, h2⟩ | ⟨g, cap, cur, hv, hg, hh, hcap, hmax, hsz, ht⟩
  · injection h1 with _ e1 _
    exact .inl ⟨e1, h2⟩
  · injection hv with e1 e2 e3
    exact .inr ⟨g, cur, e1, e2, hg, lt_heap hh, hh, fun j hj => take_at ht hj⟩
theorem HI.of_own {w : World} {base n c : Nat} {A : Option Addr} {xs : List Int} {e : TypeId} (h : OwnI e w base (.slice A n c) xs) : HI w base w.heap.size A n := by
  rcases own_heap h.1 with ⟨h1, -⟩ | ⟨g, cur, e1, e2, hg, hgw, hh, hc⟩
  · exact .inl h1
  · refine .inr ⟨g, cur, e, e1, hg, hgw, hh, fun j hj => ?_⟩
    have hj' : j < xs.length := by omega
    refine ⟨xs[j], ?_⟩
    rw [hc j (by omega), List.getElem?_map, List.getElem?_eq_getElem hj']; rfl
theorem HRows.of_own {w : World} {base n c : Nat} {A : Option Addr} {xs : List (List Int)} {e e0 : TypeId} (h : OwnOf e (OwnI e0) w base (.slice A n c) xs) (hs : ∀ x ∈ xs, x.length ≤ 1048576) : HRows w base w.heap.size A n := by
  obtain ⟨us, h1, h2, -, h4⟩ := h
  rcases own_heap h2 with ⟨h5, -⟩ | ⟨g, cur, e1, e2, hg, hgw, hh, hc⟩
  · exact .inl h5
  · refine .inr ⟨g, cur, e, e1, hh, fun j hj => ?_⟩
    have hj' : j < xs.length := by omega
    have hju : j < us.length := by omega
    have ho := h4 j us[j] xs[j] (List.getElem?_eq_getElem hju) (List.getElem?_eq_getElem hj')
    obtain ⟨A', c', hv, -⟩ := ho.read
    rw [hv] at ho
    refine ⟨A', xs[j].length, c', ?_, hs _ (List.getElem_mem hj'), HI.of_own ho⟩
    rw [hc j (by omega), List.getElem?_eq_getElem hju, hv]
theorem HCons.of_own {w : World} {base n c : Nat} {A : Option Addr} {xs : List Con} (h : OwnCons w base (.slice A n c) xs) (hs : SmS SmCon xs) : HCons w base w.heap.size A n := by
  obtain ⟨uss, h1, h0, h2, -, h4⟩ := h
  rcases own_heap h2 with ⟨h5, -⟩ | ⟨g, cur, e1, e2, hg, hgw, hh, hc⟩
  · exact .inl h5
  · refine .inr ⟨g, cur, _, e1, hg, hgw, hh, fun j hj => ?_⟩
    have hj' : j < xs.length := by omega
    have hju : j < uss.length := by omega
    have hu : uss[j]? = some uss[j] := List.getElem?_eq_getElem hju
    obtain ⟨vv, av, rv, he, o1, o2, o3⟩ := h4 j uss[j] xs[j] hu (List.getElem?_eq_getElem hj')
    injection he with he
    have he2 : uss[j] = [.int .i64 xs[j].kind, vv, av, .int .i64 xs[j].bound, rv] := by simpa using congrArg Array.toList he
    have hsm := hs.2 xs[j] (List.getElem_mem hj')
    obtain ⟨A1, c1, hv1, -⟩ := o1.read
    obtain ⟨A2, c2, hv2, -⟩ := o2.read
    obtain ⟨A3, c3, hv3, -⟩ := read2 o3
    rw [hv1] at o1 he2
    rw [hv2] at o2 he2
    rw [hv3] at o3 he2
    have hcell : ∀ i u, [Value.int .i64 xs[j].kind, .slice A1 xs[j].vars.length c1, .slice A2 xs[j].args.length c2, .int .i64 xs[j].bound, .slice A3 xs[j].rows.length c3][i]? = some u → cur[j * 5 + i]? = some u := fun i u hi => by
      have hi5 : i < 5 := (List.getElem?_eq_some_iff.1 hi).1
      rw [hc (j * 5 + i) (by omega)]
      exact flat_at h0 hu (by rw [he2]; exact hi)
    exact ⟨_, _, _, _, _, _, _, _, _, _, _, hcell 0 _ rfl, hcell 1 _ rfl, hcell 2 _ rfl, hcell 3 _ rfl, hcell 4 _ rfl, hsm.1, hsm.2.1, hsm.2.2.1, HI.of_own o1, HI.of_own o2, HRows.of_own o3 hsm.2.2.2⟩
theorem HMod.of_own {w : World} {base : Nat} {us : List Value} {m : Mod} (h : OwnMod w base (.agg us.toArray) m) (hs : SmMod m) : HMod w base w.heap.size us := by
  obtain ⟨dv, cv, he, o1, o2⟩ := h
  injection he with he
  have he2 : us = [dv, cv] := by simpa using congrArg Array.toList he
  obtain ⟨A1, c1, rfl, -⟩ := o1.read
  obtain ⟨A2, c2, rfl, -⟩ := OwnCons.read o2
  exact ⟨A1, _, c1, A2, _, c2, he2, hs.1, hs.2.1, HI.of_own o1, HCons.of_own o2 hs.2⟩
theorem HoldR.touch {w w' : World} {base n size lo hi : Nat} {e : TypeId} {v : Value} {xs : List Value} (h : HoldR w base e size v n xs) (ht : Touch lo hi w w') (hb : hi ≤ base) : HoldR w' base e size v n xs :=
  ⟨h.1, h.2.imp id fun ⟨g, cap, cur, h1, h2, h3, r⟩ => ⟨g, cap, cur, h1, h2, (ht.2 g (by omega) (lt_heap h3)).trans h3, r⟩⟩
theorem TBlk.touch {w w' : World} {lo hi b : Nat} {t : TypeId} {cs : Array Value} (h : TBlk t w b cs) (ht : Touch lo hi w w') (hb : hi ≤ b) : TBlk t w' b cs := (ht.2 b hb h.lt).trans h
theorem Touch.below {w0 w w' : World} {lo hi B : Nat} (ht : Touch lo hi w w') (h : Below B w0 w) (hB : B ≤ lo) : Below B w0 w' := h.trans (ht.1.mono hB)
end Go.Proofs.Ytjpcdbdaimonlaa
