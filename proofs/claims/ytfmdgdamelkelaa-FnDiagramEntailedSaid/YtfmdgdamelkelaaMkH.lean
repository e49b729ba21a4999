/- Numbering the maker's nodes: plain laws and the memory of the layers. -/
import Derived.Test.YtfmdgdamelkelaaMkN
import Derived.Test.YtfmdgdamelkelaaDistinct
namespace Go.Proofs.Ytfmdgdamelkelaa
open Go.ChangeShapes Go.WideShapes Go.ChangeAt Go.RowKit
open Go.Shelf
set_option linter.unusedVariables false
set_option maxRecDepth 100000

/-- the row of a met node, as it is handed out. -/
def finR (last : Bool) (N : List (List (List Int))) (i : Nat) (met : List Int) (a : Int) : List Int := if last then rawR N i a else rowG (chI N i) (nextI N i met) a
/-- the next layer's nodes behind j nodes and v edges. -/
def nxA (last : Bool) (N : List (List (List Int))) (i : Nat) (met : List Int) (j : Nat) (a : Int) (v : Nat) : List Int := if last then [] else nxV (chI N i) a (nxL (chI N i) met j) v
def nxB (last : Bool) (N : List (List (List Int))) (i : Nat) (met : List Int) (j : Nat) : List Int := if last then [] else nxL (chI N i) met j
theorem nxA_zero (last : Bool) (N : List (List (List Int))) (i : Nat) (met : List Int) (j : Nat) (a : Int) : nxA last N i met j a 0 = nxB last N i met j := rfl
theorem nxA_done {last : Bool} {N : List (List (List Int))} {i : Nat} {met : List Int} {j : Nat} {a : Int} (h : met[j]? = some a) : nxA last N i met j a 6 = nxB last N i met (j + 1) := by
  unfold nxA nxB
  cases last
  · rw [if_neg (by simp), if_neg (by simp), nxL, h]
  · rfl
theorem nxB_len (last : Bool) (N : List (List (List Int))) (i : Nat) (met : List Int) (j : Nat) : (nxB last N i met j).length ≤ 6 * j := by
  unfold nxB
  split
  · simp
  · exact nxL_len _ _ _
theorem nxA_len (last : Bool) (N : List (List (List Int))) (i : Nat) (met : List Int) (j : Nat) (a : Int) (v : Nat) : (nxA last N i met j a v).length ≤ 6 * j + v := by
  unfold nxA
  split
  · simp
  · have h1 := nxV_len (chI N i) a (nxL (chI N i) met j) v
    have h2 := nxL_len (chI N i) met j
    omega
theorem nxA_nodup (last : Bool) (N : List (List (List Int))) (i : Nat) (met : List Int) (j : Nat) (a : Int) (v : Nat) : (nxA last N i met j a v).Nodup := by
  unfold nxA
  split
  · simp
  · exact nxV_nodup (nxL_nodup _ _ _) _
section
variable {N : List (List (List Int))} {k i a : Nat} {l : List (List Int)} {r : List Int} {met : List Int} {j v : Nat} {x : Int} {last : Bool}
theorem fin_len (h6 : r.length = 6) (hl : N[i]? = some l) (hr : l[a]? = some r) : (finR last N i met (a : Int)).length = 6 := by
  unfold finR
  split
  · unfold rawR; rw [hl]; simp [hr, h6]
  · simp [rowG]
theorem ch_of (hl : N[i]? = some l) (hr : l[a]? = some r) (hx : r[v]? = some x) : chI N i (a : Int) v = if 0 ≤ x then some x else none := by
  unfold chI
  rw [Int.toNat_natCast, edge_of hl hr hx]
/-- an edge that stays as it is. -/
theorem fin_stay (hl : N[i]? = some l) (hr : l[a]? = some r) (hx : r[v]? = some x) (hv : v < 6) (hm : x = -1 ∨ 0 ≤ x) (h : last = true ∨ x < 0) : (finR last N i met (a : Int))[v]? = some x ∧ nxA last N i met j (a : Int) (v + 1) = nxA last N i met j (a : Int) v := by
  unfold finR nxA
  cases last
  · rw [if_neg (by simp), if_neg (by simp)]
    have hneg : x < 0 := by rcases h with h | h; cases h; exact h
    have hc := ch_of hl hr hx
    rw [if_neg (by omega)] at hc
    refine ⟨?_, by rw [if_neg (by simp), nxV, hc]; rfl⟩
    unfold rowG
    rw [List.getElem?_map, List.getElem?_range hv]
    show some (toG _ (chI N i (a : Int) v)) = _
    rw [hc]
    show some (-1) = some x
    congr 1
    omega
  · refine ⟨?_, rfl⟩
    rw [if_pos rfl]
    unfold rawR
    rw [hl]
    simp [hr, hx]
/-- an edge that is renamed. -/
theorem fin_go (hl : N[i]? = some l) (hr : l[a]? = some r) (hx : r[v]? = some x) (hv : v < 6) (h0 : 0 ≤ x) (hm : met[j]? = some (a : Int)) :
    nxA false N i met j (a : Int) (v + 1) = addO (nxA false N i met j (a : Int) v) (some x) ∧ ∀ q : Nat, (nxA false N i met j (a : Int) (v + 1))[q]? = some x → (finR false N i met (a : Int))[v]? = some (q : Int) := by
  have hc := ch_of hl hr hx
  rw [if_pos h0] at hc
  have e1 : nxA false N i met j (a : Int) (v + 1) = addO (nxA false N i met j (a : Int) v) (some x) := by
    show nxV (chI N i) (a : Int) (nxL (chI N i) met j) (v + 1) = addO (nxV (chI N i) (a : Int) (nxL (chI N i) met j) v) (some x)
    rw [nxV, hc]
  refine ⟨e1, fun q hq => ?_⟩
  have hs := toG_step (chI N i) met hm hv
  rw [hc] at hs
  show (rowG (chI N i) (nextI N i met) (a : Int))[v]? = _
  unfold rowG
  rw [List.getElem?_map, List.getElem?_range hv]
  show some (toG (nextI N i met) (chI N i (a : Int) v)) = _
  rw [hc]
  show some (toG (nxL (chI N i) met met.length) (some x)) = _
  rw [← hs]
  congr 1
  exact fnd_at (nxA_nodup false N i met j (a : Int) (v + 1)) hq (List.getElem?_eq_some_iff.1 hq).1
theorem takeAt {F r : List Int} {v : Nat} (hF : F.length = 6) (hr : r.length = 6) (hv : v < 6) : (F.take v ++ r.drop v)[v]? = r[v]? := by
  rw [List.getElem?_append_right (by rw [List.length_take]; omega), List.length_take, List.getElem?_drop]
  congr 1
  omega
theorem takeSet {F r : List Int} {v : Nat} {y : Int} (hF : F.length = 6) (hr : r.length = 6) (hv : v < 6) (hy : F[v]? = some y) : (F.take v ++ r.drop v).set v y = F.take (v + 1) ++ r.drop (v + 1) := by
  have h1 : (F.take v).length = v := by rw [List.length_take]; omega
  rw [List.set_append_right _ _ (by omega), h1, Nat.sub_self, List.drop_eq_getElem_cons (show v < r.length by omega), List.set_cons_zero, List.take_add_one, hy]
  simp
theorem takeStay {F r : List Int} {v : Nat} {y : Int} (hF : F.length = 6) (hr : r.length = 6) (hv : v < 6) (hy : F[v]? = some y) (hy2 : r[v]? = some y) : F.take v ++ r.drop v = F.take (v + 1) ++ r.drop (v + 1) := by
  rw [← takeSet hF hr hv hy]
  refine List.ext_getElem? fun q => ?_
  rw [List.getElem?_set]
  split
  · rename_i e
    subst e
    rw [takeAt hF hr hv, hy2]
    split
    · rfl
    · rename_i h
      rw [List.length_append, List.length_take, List.length_drop] at h
      omega
  · rfl
/-- one layer more. -/
theorem nm_step (h1 : i + (j + 1) = k) : nmL N (j + 1) i met = met.map (finR (decide (i + 1 = k)) N i met) :: nmL N j (i + 1) (nxB (decide (i + 1 = k)) N i met met.length) := by
  cases j with
  | zero =>
    rw [nmL, decide_eq_true (by omega)]
    rfl
  | succ j =>
    rw [nmL, decide_eq_false (by omega)]
    rfl
theorem met_next (hG : GInv N k) (hi : i + 1 < k) (hm : ∀ a ∈ met, IsN N k i a) : ∀ a ∈ nextI N i met, IsN N k (i + 1) a := (next_lang (f := k - (i + 1)) hG (by omega) hm).2.1
theorem met_nxB (hG : GInv N k) (hi : i < k) (hm : ∀ a ∈ met, IsN N k i a) : ∀ a ∈ nxB (decide (i + 1 = k)) N i met met.length, IsN N k (i + 1) a := by
  by_cases h : i + 1 = k
  · rw [decide_eq_true h]; intro a ha; simp [nxB] at ha
  · rw [decide_eq_false h]; exact met_next hG (by omega) hm
end
/-- rows of numbers at the blocks gs. -/
def RowsH (W : World) (lo : Nat) (es : List (List Int)) (gs : List Nat) (rs : List Value) : Prop := gs.length = es.length ∧ rs.length = es.length ∧
  ∀ (i : Nat) r x g, rs[i]? = some r → es[i]? = some x → gs[i]? = some g → HoldR W lo 3 1 r x.length (x.map (.int .i64)) ∧ r.ownBlock = some g
theorem RowsH.nil (W : World) (lo : Nat) : RowsH W lo [] [] [] := ⟨rfl, rfl, fun i r x g h => by simp at h⟩
theorem HoldR.same {w w' : World} {base n size : Nat} {e : TypeId} {v : Value} {xs : List Value} (h : HoldR w base e size v n xs) (hb : ∀ g, v.ownBlock = some g → g < w.heap.size → w'.heap[g]? = w.heap[g]?) : HoldR w' base e size v n xs :=
  ⟨h.1, h.2.imp id fun ⟨g, cap, cur, h1, h2, h3, r⟩ => ⟨g, cap, cur, h1, h2, (hb g (by rw [h1]; rfl) (Array.getElem?_eq_some_iff.1 h3).1).trans h3, r⟩⟩
theorem HoldR.geBase {w : World} {base n size g : Nat} {e : TypeId} {v : Value} {xs : List Value} (h : HoldR w base e size v n xs) (hg : v.ownBlock = some g) : base ≤ g := by
  rcases h.2 with ⟨rfl, -⟩ | ⟨g', cap, cur, rfl, h2, h3, -⟩
  · cases hg
  · injection hg with hg; subst hg; exact h2
theorem RowsH.same {W W' : World} {lo : Nat} {es : List (List Int)} {gs : List Nat} {rs : List Value} (h : RowsH W lo es gs rs) (hb : ∀ g ∈ gs, g < W.heap.size → W'.heap[g]? = W.heap[g]?) : RowsH W' lo es gs rs :=
  ⟨h.1, h.2.1, fun i r x g hr hx hg => by
    obtain ⟨k1, k2⟩ := h.2.2 i r x g hr hx hg
    exact ⟨k1.same fun g' hg' hlt => by rw [k2] at hg'; injection hg' with hg'; subst hg'; exact hb g (List.mem_of_getElem? hg) hlt, k2⟩⟩
theorem RowsH.lt {W : World} {lo : Nat} {es : List (List Int)} {gs : List Nat} {rs : List Value} (h : RowsH W lo es gs rs) : ∀ g ∈ gs, lo ≤ g ∧ g < W.heap.size := fun g hg => by
  obtain ⟨i, hi, e⟩ := List.getElem_of_mem hg
  have h1 := h.1
  have h2 := h.2.1
  obtain ⟨k1, k2⟩ := h.2.2 i rs[i] es[i] g (List.getElem?_eq_getElem (by omega)) (List.getElem?_eq_getElem (by omega)) (by rw [List.getElem?_eq_getElem hi, e])
  exact ⟨k1.geBase k2, k1.ownLt k2⟩
theorem RowsH.snoc {W : World} {lo g : Nat} {es : List (List Int)} {gs : List Nat} {rs : List Value} {u : Value} {x : List Int} (h : RowsH W lo es gs rs) (hx : HoldR W lo 3 1 u x.length (x.map (.int .i64))) (hu : u.ownBlock = some g) : RowsH W lo (es ++ [x]) (gs ++ [g]) (rs ++ [u]) := by
  obtain ⟨h1, h2, h3⟩ := h
  refine ⟨by simp [h1], by simp [h2], fun i r y g' hr hy hg => ?_⟩
  rcases Nat.lt_or_ge i es.length with hi | hi
  · rw [List.getElem?_append_left (by omega)] at hr hy hg
    exact h3 i r y g' hr hy hg
  · have hi2 : i = es.length := by
      have := (List.getElem?_eq_some_iff.1 hy).1
      simp at this
      omega
    subst hi2
    rw [List.getElem?_append_right (by omega)] at hr hy hg
    rw [h2, Nat.sub_self] at hr
    rw [Nat.sub_self] at hy
    rw [h1, Nat.sub_self] at hg
    simp at hr hy hg
    subst hr hy hg
    exact ⟨hx, hu⟩
/-- layers of rows. -/
def LaysH (W : World) (lo : Nat) (d : List (List (List Int))) (gss : List (List Nat)) (us : List Value) : Prop := gss.length = d.length ∧ us.length = d.length ∧
  ∀ (i : Nat) u es gs, us[i]? = some u → d[i]? = some es → gss[i]? = some gs → ∃ rs, HoldR W lo 22 1 u es.length rs ∧ RowsH W lo es gs rs ∧ es.length ≤ 1048576
theorem LaysH.nil (W : World) (lo : Nat) : LaysH W lo [] [] [] := ⟨rfl, rfl, fun i r x g h => by simp at h⟩
theorem LaysH.below {W W' : World} {lo : Nat} {d : List (List (List Int))} {gss : List (List Nat)} {us : List Value} (h : LaysH W lo d gss us) (hb : Below W.heap.size W W') : LaysH W' lo d gss us :=
  ⟨h.1, h.2.1, fun i u es gs hu he hg => by
    obtain ⟨rs, k1, k2, k3⟩ := h.2.2 i u es gs hu he hg
    exact ⟨rs, k1.below hb, k2.same fun g _ hlt => hb.block g hlt, k3⟩⟩
/-- a slice of layers grows. -/
theorem LaysH.grown {W W' : World} {lo base n : Nat} {d : List (List (List Int))} {gss : List (List Nat)} {us : List Value} {v : Value} {ys : List Value} (h : LaysH W lo d gss us) (hv : W.ownsRow base 23 1 v n ys) (hg : W.grownBy W' v.ownBlock) : LaysH W' lo d gss us :=
  ⟨h.1, h.2.1, fun i u es gs hu he hgs => by
    obtain ⟨rs, k1, k2, k3⟩ := h.2.2 i u es gs hu he hgs
    refine ⟨rs, k1.same fun g hg' hlt => hg.block g hlt (fun e => ?_), k2.same fun g hm hlt => hg.block g hlt (fun e => ?_), k3⟩
    · rcases k1.2 with ⟨rfl, -⟩ | ⟨g', cap, cur, rfl, -, h3, -⟩
      · cases hg'
      · injection hg' with hg'
        subst hg'
        exact own_not hv e.symm (show TBlk 22 W g' cur from h3) (by decide)
    · obtain ⟨q, hq, eq⟩ := List.getElem_of_mem hm
      have h1 := k2.1
      have h2 := k2.2.1
      obtain ⟨m1, m2⟩ := k2.2.2 q rs[q] es[q] g (List.getElem?_eq_getElem (by omega)) (List.getElem?_eq_getElem (by omega)) (by rw [List.getElem?_eq_getElem hq, eq])
      rcases m1.2 with ⟨h0, -⟩ | ⟨g', cap, cur, h0, -, h3, -⟩
      · rw [h0] at m2; cases m2
      · rw [h0] at m2
        injection m2 with m2
        subst m2
        exact own_not hv e.symm (show TBlk 3 W g' cur from h3) (by decide)⟩
theorem LaysH.snoc {W : World} {lo : Nat} {d : List (List (List Int))} {gss : List (List Nat)} {us : List Value} {u : Value} {es : List (List Int)} {gs : List Nat} {rs : List Value} (h : LaysH W lo d gss us) (hu : HoldR W lo 22 1 u es.length rs) (hr : RowsH W lo es gs rs) (hl : es.length ≤ 1048576) : LaysH W lo (d ++ [es]) (gss ++ [gs]) (us ++ [u]) := by
  obtain ⟨h1, h2, h3⟩ := h
  refine ⟨by simp [h1], by simp [h2], fun i u' es' gs' hu' he hg => ?_⟩
  rcases Nat.lt_or_ge i d.length with hi | hi
  · rw [List.getElem?_append_left (by omega)] at hu' he hg
    exact h3 i u' es' gs' hu' he hg
  · have hi2 : i = d.length := by
      have := (List.getElem?_eq_some_iff.1 he).1
      simp at this
      omega
    subst hi2
    rw [List.getElem?_append_right (by omega)] at hu' he hg
    rw [h2, Nat.sub_self] at hu'
    rw [Nat.sub_self] at he
    rw [h1, Nat.sub_self] at hg
    simp at hu' he hg
    subst hu' he hg
    exact ⟨rs, hu, hr, hl⟩
theorem RowsH.base_ {W : World} {lo lo' : Nat} {es : List (List Int)} {gs : List Nat} {rs : List Value} (h : RowsH W lo es gs rs) (hl : lo' ≤ lo) : RowsH W lo' es gs rs :=
  ⟨h.1, h.2.1, fun i r x g hr hx hg => by obtain ⟨k1, k2⟩ := h.2.2 i r x g hr hx hg; exact ⟨k1.base_ hl, k2⟩⟩
theorem LaysH.lt {W : World} {lo : Nat} {d : List (List (List Int))} {gss : List (List Nat)} {us : List Value} (h : LaysH W lo d gss us) : ∀ g ∈ gss.flatten, lo ≤ g ∧ g < W.heap.size := fun g hg => by
  obtain ⟨gs, hgs, hm⟩ := List.mem_flatten.1 hg
  obtain ⟨i, hi, e⟩ := List.getElem_of_mem hgs
  have h1 := h.1
  have h2 := h.2.1
  obtain ⟨rs, k1, k2, k3⟩ := h.2.2 i us[i] d[i] gs (List.getElem?_eq_getElem (by omega)) (List.getElem?_eq_getElem (by omega)) (by rw [List.getElem?_eq_getElem hi, e])
  exact k2.lt g hm
/-- what numbered hands back. -/
def DgHR (W : World) (lo : Nat) (v : Value) (d : List (List (List Int))) : Prop := ∃ (gss : List (List Nat)) (us : List Value), HoldR W lo 23 1 v d.length us ∧ LaysH W lo d gss us ∧ gss.flatten.Nodup ∧ d.length ≤ 1048576
theorem DgHR.nil (W : World) (lo : Nat) : DgHR W lo (.slice none 0 0) [] := ⟨[], [], HoldR.nil _ _ _ _, LaysH.nil _ _, by simp, by simp⟩
theorem DgHR.below {W W' : World} {lo : Nat} {v : Value} {d : List (List (List Int))} (h : DgHR W lo v d) (hb : Below W.heap.size W W') : DgHR W' lo v d := by
  obtain ⟨gss, us, h1, h2, h3⟩ := h; exact ⟨gss, us, h1.below hb, h2.below hb, h3⟩
theorem DgHR.base_ {W : World} {lo lo' : Nat} {v : Value} {d : List (List (List Int))} (h : DgHR W lo v d) (hl : lo' ≤ lo) : DgHR W lo' v d := by
  obtain ⟨gss, us, h1, ⟨h2, h3, h4⟩, h5⟩ := h
  exact ⟨gss, us, h1.base_ hl, ⟨h2, h3, fun i u es gs hu he hg => by
    obtain ⟨rs, k1, k2, k3⟩ := h4 i u es gs hu he hg
    exact ⟨rs, k1.base_ hl, k2.base_ hl, k3⟩⟩, h5⟩
end Go.Proofs.Ytfmdgdamelkelaa
