/- A graph of nodes, and the tuples that its nodes stand for: plain lists. No program in sight. -/
import Derived.Test.YtfmdgdamelkelaaBdP
import Derived.Test.YtfmdgdamelkelaaTupP
namespace Go.Proofs.Ytfmdgdamelkelaa
set_option linter.unusedVariables false
set_option maxRecDepth 100000

/-- a node's tuples; f layers are left. -/
def lang (N : List (List (List Int))) : Nat → Nat → Int → List (List Int)
  | 0, _, _ => [[]]
  | f + 1, i, a => flatV (fun v => if 0 ≤ edge N i a.toNat v then lang N f (i + 1) (edge N i a.toNat v) else []) 6
/-- a is a node of layer i, of k. -/
def IsN (N : List (List (List Int))) (k i : Nat) (a : Int) : Prop := 0 ≤ a ∧ (i = k → a = 0) ∧ (i ≠ k → ∃ l, N[i]? = some l ∧ a.toNat < l.length)
structure GInv (N : List (List (List Int))) (k : Nat) : Prop where
  len : N.length = k
  ok : ∀ (i : Nat) l (a : Nat) r, N[i]? = some l → l[a]? = some r → r.length = 6 ∧ (∀ (v : Nat) x, r[v]? = some x → x = -1 ∨ IsN N k (i + 1) x) ∧ ∃ v x, v < 6 ∧ r[v]? = some x ∧ 0 ≤ x
  ne : ∀ (i : Nat) l, N[i]? = some l → l.Nodup
theorem IsN.get {N : List (List (List Int))} {k i : Nat} {a : Int} (h : IsN N k i a) (hi : i ≠ k) : ∃ l r, N[i]? = some l ∧ l[a.toNat]? = some r := by
  obtain ⟨l, h1, h2⟩ := h.2.2 hi
  exact ⟨l, _, h1, List.getElem?_eq_getElem h2⟩
theorem lang_suf (N : List (List (List Int))) (f i : Nat) (a : Int) {v : Nat} (hv : v < 6) : sufF (v : Int) (lang N (f + 1) i a) = if 0 ≤ edge N i a.toNat v then lang N f (i + 1) (edge N i a.toNat v) else [] := by
  rw [lang, sufF_flatV, if_pos hv]
theorem lang_ne {N : List (List (List Int))} {k : Nat} (h : GInv N k) : ∀ f i a, i + f = k → IsN N k i a → lang N f i a ≠ []
  | 0, i, a, _, _ => by simp [lang]
  | f + 1, i, a, hi, ha => by
    obtain ⟨l, r, h1, h2⟩ := ha.get (by omega)
    obtain ⟨h3, h4, v, x, h5, h6, h7⟩ := h.ok i l _ r h1 h2
    have hx : IsN N k (i + 1) x := (h4 v x h6).resolve_left (by omega)
    have he := edge_of h1 h2 h6
    have hn := lang_ne h f (i + 1) x (by omega) hx
    cases hl : lang N f (i + 1) x with
    | nil => exact absurd hl hn
    | cons s ss =>
      intro e
      have : ((v : Int) :: s) ∈ lang N (f + 1) i a := by
        rw [lang, flatV_mem]
        exact ⟨v, s, h5, by rw [he, if_pos h7, hl]; simp, rfl⟩
      rw [e] at this
      simp at this
theorem lang_inj {N : List (List (List Int))} {k : Nat} (h : GInv N k) : ∀ f i a b, i + f = k → IsN N k i a → IsN N k i b → lang N f i a = lang N f i b → a = b
  | 0, i, a, b, hi, ha, hb, _ => by rw [ha.2.1 (by omega), hb.2.1 (by omega)]
  | f + 1, i, a, b, hi, ha, hb, he => by
    obtain ⟨l, r, h1, h2⟩ := ha.get (by omega)
    obtain ⟨l', s, h1', k2⟩ := hb.get (by omega)
    rw [h1] at h1'
    injection h1' with h1'
    subst h1'
    obtain ⟨h3, h4, -⟩ := h.ok i l _ r h1 h2
    obtain ⟨k3, k4, -⟩ := h.ok i l _ s h1 k2
    have hrs : r = s := by
      refine List.ext_getElem? fun v => ?_
      rcases Nat.lt_or_ge v 6 with hv | hv
      · have hx : r[v]? = some r[v] := List.getElem?_eq_getElem (by omega)
        have hy : s[v]? = some s[v] := List.getElem?_eq_getElem (by omega)
        have e1 := lang_suf N f i a hv
        have e2 := lang_suf N f i b hv
        rw [he, e2, edge_of h1 h2 hx, edge_of h1 k2 hy] at e1
        rw [hx, hy]
        congr 1
        generalize r[v] = x at *
        generalize s[v] = y at *
        rcases h4 v x hx with rfl | nx
        · rcases k4 v y hy with rfl | ny
          · rfl
          · rw [if_pos ny.1, if_neg (by decide)] at e1
            exact absurd e1 (lang_ne h f (i + 1) y (by omega) ny)
        · rcases k4 v y hy with rfl | ny
          · rw [if_pos nx.1, if_neg (by decide)] at e1
            exact absurd e1.symm (lang_ne h f (i + 1) x (by omega) nx)
          · rw [if_pos nx.1, if_pos ny.1] at e1
            exact lang_inj h f (i + 1) x y (by omega) nx ny e1.symm
      · rw [List.getElem?_eq_none (by omega), List.getElem?_eq_none (by omega)]
    subst hrs
    have := at_inj (h.ne i l h1) h2 k2
    have := ha.1
    have := hb.1
    omega
/-- N' has the nodes of N, and maybe more. -/
def GExt (N N' : List (List (List Int))) : Prop := ∀ (i : Nat) l, N[i]? = some l → ∃ l', N'[i]? = some l' ∧ l <+: l'
theorem GExt.refl (N : List (List (List Int))) : GExt N N := fun i l h => ⟨l, h, List.prefix_refl _⟩
theorem GExt.trans {N N' N'' : List (List (List Int))} (h : GExt N N') (k : GExt N' N'') : GExt N N'' := fun i l h1 => by
  obtain ⟨l', h2, h3⟩ := h i l h1
  obtain ⟨l'', h4, h5⟩ := k i l' h2
  exact ⟨l'', h4, h3.trans h5⟩
theorem pre_at {α : Type} {l l' : List α} (h : l <+: l') {j : Nat} {x : α} (hx : l[j]? = some x) : l'[j]? = some x := by
  obtain ⟨z, rfl⟩ := h
  rw [List.getElem?_append_left (List.getElem?_eq_some_iff.1 hx).1]; exact hx
theorem IsN.ext {N N' : List (List (List Int))} {k i : Nat} {a : Int} (h : IsN N k i a) (he : GExt N N') : IsN N' k i a :=
  ⟨h.1, h.2.1, fun hi => by
    obtain ⟨l, h1, h2⟩ := h.2.2 hi
    obtain ⟨l', h3, h4⟩ := he i l h1
    exact ⟨l', h3, Nat.lt_of_lt_of_le h2 h4.length_le⟩⟩
theorem edge_ext {N N' : List (List (List Int))} {k i : Nat} {a : Int} (he : GExt N N') (ha : IsN N k i a) (hi : i ≠ k) (h : GInv N k) {v : Nat} (hv : v < 6) : edge N' i a.toNat v = edge N i a.toNat v := by
  obtain ⟨l, r, h1, h2⟩ := ha.get hi
  obtain ⟨l', h3, h4⟩ := he i l h1
  obtain ⟨h5, -⟩ := h.ok i l _ r h1 h2
  have hx : r[v]? = some r[v] := List.getElem?_eq_getElem (by omega)
  rw [edge_of h1 h2 hx, edge_of h3 (pre_at h4 h2) hx]
theorem lang_ext {N N' : List (List (List Int))} {k : Nat} (h : GInv N k) (he : GExt N N') : ∀ f i a, i + f = k → IsN N k i a → lang N' f i a = lang N f i a
  | 0, _, _, _, _ => rfl
  | f + 1, i, a, hi, ha => by
    rw [lang, lang]
    refine flatV_congr fun v hv => ?_
    rw [edge_ext he ha (by omega) h hv]
    split
    · rename_i h0
      obtain ⟨l, r, h1, h2, h3⟩ := edge_some h0
      exact lang_ext h he f (i + 1) _ (by omega) (((h.ok i l _ r h1 h2).2.1 v _ h3).resolve_left (by omega))
    · rfl
/-- one more node of layer i. -/
theorem GInv.add {N : List (List (List Int))} {k i : Nat} (h : GInv N k) {l : List (List Int)} {r : List Int} (hl : N[i]? = some l) (h6 : r.length = 6) (hr : ∀ (v : Nat) x, r[v]? = some x → x = -1 ∨ IsN N k (i + 1) x) (hx : ∃ v x, v < 6 ∧ r[v]? = some x ∧ 0 ≤ x) (hm : r ∉ l) :
    GInv (N.set i (l ++ [r])) k ∧ GExt N (N.set i (l ++ [r])) ∧ IsN (N.set i (l ++ [r])) k i (l.length : Int) := by
  have hi : i < N.length := (List.getElem?_eq_some_iff.1 hl).1
  have hext : GExt N (N.set i (l ++ [r])) := fun j m hj => by
    rw [List.getElem?_set]
    split
    · rename_i e
      subst e
      rw [hl] at hj
      injection hj with hj
      subst hj
      exact ⟨_, rfl, List.prefix_append _ _⟩
    · exact ⟨m, hj, List.prefix_refl _⟩
  refine ⟨⟨by simpa using h.len, fun j m a s hj ha => ?_, fun j m hj => ?_⟩, hext, ⟨by omega, fun e => ?_, fun e => ⟨_, by rw [List.getElem?_set_self hi], by simp⟩⟩⟩
  · rw [List.getElem?_set] at hj
    split at hj
    · rename_i e
      subst e
      injection hj with hj
      subst hj
      rcases Nat.lt_or_ge a l.length with h1 | h1
      · rw [List.getElem?_append_left h1] at ha
        obtain ⟨h2, h3, h4⟩ := h.ok i l a s hl ha
        exact ⟨h2, fun v x hv => (h3 v x hv).imp id (·.ext hext), h4⟩
      · rw [List.getElem?_append_right h1] at ha
        obtain ⟨-, rfl⟩ : a - l.length = 0 ∧ r = s := by
          cases hh : a - l.length with
          | zero => rw [hh] at ha; simpa using ha
          | succ q => rw [hh] at ha; simp at ha
        exact ⟨h6, fun v x hv => (hr v x hv).imp id (·.ext hext), hx⟩
    · obtain ⟨h2, h3, h4⟩ := h.ok j m a s hj ha
      exact ⟨h2, fun v x hv => (h3 v x hv).imp id (·.ext hext), h4⟩
  · rw [List.getElem?_set] at hj
    split at hj
    · rename_i e
      subst e
      injection hj with hj
      subst hj
      rw [List.nodup_append]
      refine ⟨h.ne i l hl, by simp, fun x hx' y hy e => ?_⟩
      rw [List.mem_singleton.1 hy] at e
      subst e
      exact hm hx'
    · exact h.ne j m hj
  · exact absurd h.len (by omega)
/-- what v leads to, in a graph. -/
def chI (N : List (List (List Int))) (i : Nat) (a : Int) (v : Nat) : Option Int := if 0 ≤ edge N i a.toNat v then some (edge N i a.toNat v) else none
theorem ch_lang {N : List (List (List Int))} {k f i : Nat} {a : Int} (h : GInv N k) (hi : i + (f + 1) = k) (ha : IsN N k i a) {v : Nat} (hv : v < 6) : chS (lang N (f + 1) i a) v = (chI N i a v).map (lang N f (i + 1)) := by
  unfold chS chI
  rw [lang_suf N f i a hv]
  by_cases h0 : 0 ≤ edge N i a.toNat v
  · obtain ⟨l, r, h1, h2, h3⟩ := edge_some h0
    have hn := lang_ne h f (i + 1) _ (by omega) (((h.ok i l _ r h1 h2).2.1 v _ h3).resolve_left (by omega))
    rw [if_pos h0, if_pos h0, if_neg hn]
    rfl
  · rw [if_neg h0, if_neg h0, if_pos rfl]
    rfl
def nextI (N : List (List (List Int))) (i : Nat) (met : List Int) : List Int := nxL (chI N i) met met.length
def rawR (N : List (List (List Int))) (i : Nat) (a : Int) : List Int := ((N[i]?.getD [])[a.toNat]?).getD []
/-- the layers from layer i on, the nodes in the order in which they are met. -/
def nmL (N : List (List (List Int))) : Nat → Nat → List Int → List (List (List Int))
  | 0, _, _ => []
  | 1, i, met => [met.map (rawR N i)]
  | f + 2, i, met => met.map (rowG (chI N i) (nextI N i met)) :: nmL N (f + 1) (i + 1) (nextI N i met)
theorem next_lang {N : List (List (List Int))} {k f i : Nat} {met : List Int} (h : GInv N k) (hi : i + (f + 1) = k) (hm : ∀ a ∈ met, IsN N k i a) :
    nextS (met.map (lang N (f + 1) i)) = (nextI N i met).map (lang N f (i + 1)) ∧ (∀ a ∈ nextI N i met, IsN N k (i + 1) a) ∧ ∀ a ∈ met, rowG chS (nextS (met.map (lang N (f + 1) i))) (lang N (f + 1) i a) = rowG (chI N i) (nextI N i met) a := by
  have hQ : ∀ a b, IsN N k (i + 1) a → IsN N k (i + 1) b → lang N f (i + 1) a = lang N f (i + 1) b → a = b := fun a b ha hb => lang_inj h f (i + 1) a b (by omega) ha hb
  have hch : ∀ x ∈ met, ∀ v s, chI N i x v = some s → IsN N k (i + 1) s := fun x hx v s hs => by
    unfold chI at hs
    split at hs
    · rename_i h0
      injection hs with hs
      subst hs
      obtain ⟨l, r, h1, h2, h3⟩ := edge_some h0
      exact ((h.ok i l _ r h1 h2).2.1 v _ h3).resolve_left (by omega)
    · cases hs
  have he : ∀ x ∈ met, ∀ v, v < 6 → chS (lang N (f + 1) i x) v = (chI N i x v).map (lang N f (i + 1)) := fun x hx v hv => ch_lang h hi (hm x hx) hv
  obtain ⟨h1, h2⟩ := nxL_map (f := lang N (f + 1) i) (g := lang N f (i + 1)) (ch := chI N i) (ch' := chS) (Q := IsN N k (i + 1)) hQ hch he met.length
  have h3 : nextS (met.map (lang N (f + 1) i)) = (nextI N i met).map (lang N f (i + 1)) := by
    unfold nextS nextI
    rw [List.length_map]; exact h1
  refine ⟨h3, h2, fun a ha => ?_⟩
  rw [h3]
  exact rowG_map (Q := IsN N k (i + 1)) hQ h2 (hch a ha) (he a ha)
theorem nm_bd {N : List (List (List Int))} {k : Nat} (h : GInv N k) : ∀ f i met, i + f = k → (∀ a ∈ met, IsN N k i a) → nmL N f i met = bdL f (met.map (lang N f i))
  | 0, _, _, _, _ => rfl
  | 1, i, met, hi, hm => by
    obtain ⟨h1, h2, h3⟩ := next_lang (f := 0) h (by omega) hm
    rw [nmL, bdL, bdL, List.map_map]
    congr 1
    refine List.map_congr_left fun a ha => ?_
    show _ = rowG chS _ (lang N 1 i a)
    rw [h3 a ha]
    obtain ⟨l, r, k1, k2⟩ := (hm a ha).get (by omega)
    obtain ⟨k3, k4, -⟩ := h.ok i l _ r k1 k2
    have hr : rawR N i a = r := by unfold rawR; rw [k1]; simp [k2]
    rw [hr]
    refine List.ext_getElem? fun v => ?_
    rcases Nat.lt_or_ge v 6 with hv | hv
    · have hx : r[v]? = some r[v] := List.getElem?_eq_getElem (by omega)
      unfold rowG
      rw [List.getElem?_map, List.getElem?_range hv, hx]
      simp only [Option.map_some, Option.some.injEq]
      unfold chI
      rw [edge_of k1 k2 hx]
      rcases k4 v _ hx with e | e
      · rw [e, if_neg (by decide)]; rfl
      · have e0 : r[v] = 0 := e.2.1 (by omega)
        rw [e0, if_pos (by decide)]
        show (0 : Int) = fnd (nextI N i met) 0 _
        have hmem : (0 : Int) ∈ nextI N i met := by
          unfold nextI
          rw [nxL_mem (Nat.le_refl _)]
          obtain ⟨j, hj, ej⟩ := List.getElem_of_mem ha
          exact ⟨j, a, v, hj, by rw [List.getElem?_eq_getElem hj, ej], hv, by unfold chI; rw [edge_of k1 k2 hx, e0]; rfl⟩
        obtain ⟨j, hj, e1, e2⟩ := fnd_some hmem
        rw [e1]
        have hz : (nextI N i met)[0]? = some 0 := by
          have h0 : (nextI N i met)[0]? = some (nextI N i met)[0] := List.getElem?_eq_getElem (by omega)
          rw [h0, (h2 _ (List.mem_of_getElem? h0)).2.1 (by omega)]
        have := at_inj (nxL_nodup (chI N i) met met.length) e2 hz
        omega
    · rw [List.getElem?_eq_none (by omega), List.getElem?_eq_none (by simp [rowG]; omega)]
  | f + 2, i, met, hi, hm => by
    obtain ⟨h1, h2, h3⟩ := next_lang (f := f + 1) h (by omega) hm
    rw [nmL, bdL, nm_bd h (f + 1) (i + 1) _ (by omega) h2, h1, List.map_map]
    congr 1
    refine List.map_congr_left fun a ha => ?_
    show _ = rowG chS _ (lang N (f + 2) i a)
    rw [← h1, h3 a ha]
/-- the rests of the tuples of ws that begin with x and hold. -/
def cmpF (sat : List Int → Bool) (ws x : List Int) : List (List Int) := (allT (ws.drop x.length)).filter fun y => sat (x ++ y)
theorem vals_flat (sat : List Int → Bool) (ds x : List Int) (d : Int) : ∀ n, ((valsTo d n).flatMap fun v => (allT ds).map (v :: ·)).filter (fun y => sat (x ++ y)) = flatV (fun v => if hasB d v = true then (allT ds).filter (fun y => sat ((x ++ [(v : Int)]) ++ y)) else []) n
  | 0 => by simp [valsTo, flatV]
  | n + 1 => by
    rw [valsTo, flatV, List.flatMap_append, List.filter_append, vals_flat sat ds x d n]
    congr 1
    split
    · simp only [List.flatMap_cons, List.flatMap_nil, List.append_nil, List.filter_map]
      congr 1
      refine List.filter_congr fun y _ => ?_
      simp
    · simp
theorem cmp_step {sat : List Int → Bool} {ws x : List Int} {d : Int} (h : ws[x.length]? = some d) : cmpF sat ws x = flatV (fun v => if hasB d v = true then cmpF sat ws (x ++ [(v : Int)]) else []) 6 := by
  have hk : x.length < ws.length := (List.getElem?_eq_some_iff.1 h).1
  unfold cmpF
  rw [List.drop_eq_getElem_cons hk]
  rw [List.getElem?_eq_getElem hk] at h
  injection h with h
  rw [h, allT, vals_flat]
  refine flatV_congr fun v _ => ?_
  simp
theorem cmp_full {sat : List Int → Bool} {ws x : List Int} (h : x.length = ws.length) : cmpF sat ws x = if sat x = true then [[]] else [] := by
  unfold cmpF
  rw [List.drop_eq_nil_of_le (by omega)]
  simp [allT, List.filter]
  cases sat x <;> rfl
end Go.Proofs.Ytfmdgdamelkelaa
