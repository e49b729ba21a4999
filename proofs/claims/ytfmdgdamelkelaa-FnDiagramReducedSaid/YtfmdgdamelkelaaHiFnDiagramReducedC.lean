/- Texts laid into one: MkS RedP. -/
import Derived.Test.YtfmdgdamelkelaaHiFnDiagramReducedB
/- The result of impl's BuildDiagram: how it reads, and where its numbers lie. -/
namespace Go.Proofs.Ytfmdgdamelkelaa
open Go.ChangeShapes Go.WideShapes Go.ChangeAt Go.RowKit
open Go.Shelf
set_option linter.unusedVariables false
set_option maxRecDepth 100000

theorem hold_heap {w : World} {base n m c : Nat} {e : TypeId} {A : Option Addr} {xs : List Value} (h : HoldR w base e 1 (.slice A n c) m xs) : (n = 0 ∧ m = 0) ∨ ∃ (g : Nat) (cur : Array Value), A = some ⟨g, 0, none⟩ ∧ n = m ∧ base ≤ g ∧ g < w.heap.size ∧ w.heap[g]? = some (.cells cur e (0, 0)) ∧ ∀ j, j < m → cur[j]? = xs[j]? := by
  rcases h.2 with ⟨h1, h2⟩ | ⟨g, cap, cur, hv, hg, hh, hcap, hmax, ht⟩
  · injection h1 with _ e1 _
    exact .inl ⟨e1, h2⟩
  · injection hv with e1 e2 e3
    refine .inr ⟨g, cur, e1, e2, hg, (Array.getElem?_eq_some_iff.1 hh).1, hh, fun j hj => ?_⟩
    rw [← ht, List.getElem?_take, if_pos (by omega), Array.getElem?_toList]
theorem hold_slr {α : Type} {R : World → Nat → Value → α → Prop} {W : World} {lo : Nat} {e : TypeId} {v : Value} {xs : List α} {us : List Value} (h : HoldR W lo e 1 v xs.length us) (hl : xs.length ≤ 9223372036854775807) (hR : ∀ (i : Nat) u x, us[i]? = some u → xs[i]? = some x → R W W.heap.size u x) : RowC R W W.heap.size v xs := by
  have hul : us.length = xs.length := by have := h.1; omega
  obtain ⟨A, c, rfl⟩ := h.form
  refine ⟨A, c, rfl, rfl, hl, fun hn => ?_⟩
  rcases hold_heap h with ⟨e1, -⟩ | ⟨g, cur, rfl, -, -, hg, hh, hc⟩
  · omega
  · refine ⟨g, 0, rfl, hg, fun k x hx => ?_⟩
    have hk : k < xs.length := (List.getElem?_eq_some_iff.1 hx).1
    have hu : us[k]? = some us[k] := List.getElem?_eq_getElem (by omega)
    exact ⟨us[k], by rw [Nat.zero_add, cell_of_row W g k cur e _ hh, hc k hk, hu], hR k _ _ hu hx⟩
theorem DgHR.lays {W : World} {lo : Nat} {v : Value} {d : List (List (List Int))} (h : DgHR W lo v d) : RowC (RowC (RowC IntC)) W W.heap.size v d := by
  obtain ⟨gss, us, h1, ⟨h2, h3, h4⟩, h5, h6⟩ := h
  refine hold_slr h1 (by omega) (fun i u es hu he => ?_)
  have hi : i < d.length := (List.getElem?_eq_some_iff.1 he).1
  obtain ⟨rs, k1, ⟨k2, k3, k4⟩, k5⟩ := h4 i u es gss[i] hu he (List.getElem?_eq_getElem (by omega))
  refine hold_slr k1 (by omega) (fun j r x hr hx => ?_)
  have hj : j < es.length := (List.getElem?_eq_some_iff.1 hx).1
  obtain ⟨m1, m2⟩ := k4 j r x gss[i][j] hr hx (List.getElem?_eq_getElem (by omega))
  by_cases hxl : x.length ≤ 9223372036854775807
  · refine hold_slr m1 hxl (fun q u z hq hz => ?_)
    rw [List.getElem?_map, hz] at hq
    simp at hq
    exact hq.symm
  · exfalso
    rcases m1.2 with ⟨-, h0⟩ | ⟨g, cap, cur, -, -, -, hc, hm, -⟩
    · omega
    · unfold maxLen at hm; omega
theorem DgHR.same {W W' : World} {lo : Nat} {v : Value} {d : List (List (List Int))} (h : DgHR W lo v d) (hb : ∀ g, lo ≤ g → g < W.heap.size → W'.heap[g]? = W.heap[g]?) : DgHR W' lo v d := by
  obtain ⟨gss, us, h1, ⟨h2, h3, h4⟩, h5⟩ := h
  refine ⟨gss, us, h1.same fun g hg hlt => hb g (h1.geBase hg) hlt, ⟨h2, h3, fun i u es gs hu he hg => ?_⟩, h5⟩
  obtain ⟨rs, k1, k2, k3⟩ := h4 i u es gs hu he hg
  exact ⟨rs, k1.same fun g hg hlt => hb g (k1.geBase hg) hlt, k2.same fun g hg hlt => hb g (k2.lt g hg).1 hlt, k3⟩
theorem si_hold {W : World} {lo n g c : Nat} {A : Option Addr} {x : List Int} (h : HoldR W lo 3 1 (.slice A n c) x.length (x.map (.int .i64))) (hg : (Value.slice A n c).ownBlock = some g) (h6 : x.length = 6) : n = 6 ∧ SI lo W A n (seg g 6) := by
  rcases hold_heap h with ⟨-, h5⟩ | ⟨b, cur, rfl, e2, hb, hbw, hh, hc⟩
  · omega
  · injection hg with hg
    have hg' : b = g := hg
    subst hg'
    refine ⟨by omega, .inr ⟨b, cur, _, rfl, hb, hh, fun j hj => ?_, by rw [show n = 6 by omega]⟩⟩
    have hj' : j < x.length := by omega
    exact ⟨x[j], by rw [hc j (by omega), List.getElem?_map, List.getElem?_eq_getElem hj']; rfl⟩
theorem RowsH.sites {W : World} {lo n c : Nat} {A : Option Addr} {es : List (List Int)} {gs : List Nat} {rs : List Value} (h : RowsH W lo es gs rs) (h3 : HoldR W lo 22 1 (.slice A n c) es.length rs) (h6 : ∀ x ∈ es, x.length = 6) : n = es.length ∧ SRows lo W A n (gs.map (seg · 6)) := by
  obtain ⟨h1, h2, h5⟩ := h
  rcases hold_heap h3 with ⟨e1, e2⟩ | ⟨g, cur, rfl, e2, hb, hbw, hh, hc⟩
  · exact ⟨by omega, by rw [List.length_map]; omega, .inl e1⟩
  · refine ⟨e2, by rw [List.length_map]; omega, .inr ⟨g, cur, _, rfl, hh, fun j S hj => ?_⟩⟩
    rw [List.getElem?_map] at hj
    cases hgj : gs[j]? with
    | none => rw [hgj] at hj; simp at hj
    | some gg =>
      rw [hgj] at hj
      simp at hj
      subst hj
      have hjl : j < gs.length := (List.getElem?_eq_some_iff.1 hgj).1
      have k := h5 j rs[j] es[j] gg (List.getElem?_eq_getElem (by omega)) (List.getElem?_eq_getElem (by omega)) hgj
      obtain ⟨A', c', hv⟩ := k.1.form
      rw [hv] at k
      have q := si_hold k.1 k.2 (h6 _ (List.getElem_mem (by omega)))
      exact ⟨A', _, c', by rw [hc j (by omega), List.getElem?_eq_getElem (by omega), hv], q.2⟩
theorem segs_len (gs : List Nat) : (gs.map (seg · 6)).flatten.length = 6 * gs.length := by
  induction gs with
  | nil => rfl
  | cons g gs ih => rw [List.map_cons, List.flatten_cons, List.length_append, seg_len, ih, List.length_cons]; omega
theorem flat_bd {gss : List (List Nat)} {M : Nat} (h : ∀ gs ∈ gss, gs.length ≤ M) : gss.flatten.length ≤ gss.length * M := by
  induction gss with
  | nil => simp
  | cons g gs ih =>
    rw [List.flatten_cons, List.length_append, List.length_cons, Nat.succ_mul]
    have := h g (by simp)
    have := ih (fun x hx => h x (by simp [hx]))
    omega
theorem DgHR.sites {W : World} {lo n c : Nat} {A : Option Addr} {d : List (List (List Int))} (h : DgHR W lo (.slice A n c) d) (hs : DgSh d) : ∃ (Sss : List (List (List (Nat × Nat)))) (Ss : List (List (Nat × Nat))), Sss.map List.flatten = Ss ∧ SLays lo W A n Sss ∧ Ss.flatten.Nodup ∧ Ss.flatten.length ≤ 120000 ∧ n ≤ 4 := by
  obtain ⟨gss, us, h3, ⟨h1, h2, h5⟩, hn, -⟩ := h
  have h6 := hs.2
  refine ⟨gss.map fun gs => gs.map (seg · 6), _, rfl, ?_, ?_, ?_, ?_⟩
  · rcases hold_heap h3 with ⟨e1, e2⟩ | ⟨g, cur, rfl, e2, hb, hbw, hh, hc⟩
    · exact ⟨by rw [List.length_map]; omega, .inl e1⟩
    · refine ⟨by rw [List.length_map]; omega, .inr ⟨g, cur, _, rfl, hh, fun j S hj => ?_⟩⟩
      rw [List.getElem?_map] at hj
      cases hgj : gss[j]? with
      | none => rw [hgj] at hj; simp at hj
      | some gg =>
        rw [hgj] at hj
        simp at hj
        subst hj
        have hjl : j < gss.length := (List.getElem?_eq_some_iff.1 hgj).1
        obtain ⟨rs, k1, k2, k3⟩ := h5 j us[j] d[j] gg (List.getElem?_eq_getElem (by omega)) (List.getElem?_eq_getElem (by omega)) hgj
        obtain ⟨A', c', hv⟩ := k1.form
        rw [hv] at k1
        have hm := h6 _ (List.getElem_mem (show j < d.length by omega))
        have q := k2.sites k1 hm.2.2
        exact ⟨A', _, c', by rw [hc j (by omega), List.getElem?_eq_getElem (by omega), hv], by omega, q.2⟩
  · rw [sites_eq]; exact segs_nodup hn
  · rw [sites_eq, segs_len]
    have h7 := flat_bd (gss := gss) (M := 5000) (fun gs hgs => by
      obtain ⟨i, hi, e⟩ := List.getElem_of_mem hgs
      obtain ⟨rs, -, ⟨k2, -, -⟩, -⟩ := h5 i us[i] d[i] gs (List.getElem?_eq_getElem (by omega)) (List.getElem?_eq_getElem (by omega)) (by rw [List.getElem?_eq_getElem hi, e])
      have := h6 _ (List.getElem_mem (show i < d.length by omega))
      omega)
    have h8 := hs.1
    have h9 : gss.length * 5000 ≤ 4 * 5000 := Nat.mul_le_mul_right _ (by omega)
    omega
  · have h8 := hs.1
    rcases hold_heap h3 with ⟨e1, e2⟩ | ⟨g, cur, -, e2, -⟩ <;> omega
end Go.Proofs.Ytfmdgdamelkelaa
/- A built diagram is reduced: rows of a layer differ, and every node but the first is some edge's. No program in sight. -/
namespace Go.Proofs.Ytfmdgdamelkelaa
set_option linter.unusedVariables false
set_option maxRecDepth 100000

/-- lists of rests in the order of their values. -/
def Sd : Nat → List (List Int) → Prop
  | 0, _ => True
  | f + 1, L => L = flatV (fun v => sufF (v : Int) L) 6 ∧ ∀ v : Nat, v < 6 → Sd f (sufF (v : Int) L)
theorem sd_nil : ∀ f, Sd f []
  | 0 => trivial
  | f + 1 => ⟨rfl, fun v _ => by rw [sufF]; exact sd_nil f⟩
theorem cmp_sd {sat : List Int → Bool} {ws : List Int} : ∀ (r : Nat) (x : List Int), x.length + r = ws.length → Sd r (cmpF sat ws x)
  | 0, _, _ => trivial
  | r + 1, x, h => by
    have hx : x.length < ws.length := by omega
    rw [cmp_step (List.getElem?_eq_getElem hx)]
    have hs : ∀ v : Nat, v < 6 → sufF (v : Int) (flatV (fun v => if hasB ws[x.length] v = true then cmpF sat ws (x ++ [(v : Int)]) else []) 6) = if hasB ws[x.length] v = true then cmpF sat ws (x ++ [(v : Int)]) else [] := fun v hv => by
      rw [sufF_flatV, if_pos hv]
    refine ⟨flatV_congr fun v hv => (hs v hv).symm, fun v hv => ?_⟩
    rw [hs v hv]
    split
    · exact cmp_sd r _ (by simp; omega)
    · exact sd_nil r
theorem layN_sd {all : List (List Int)} {m : Nat} (h : Sd m all) : ∀ i, i ≤ m → ∀ L ∈ layN [all] i, Sd (m - i) L
  | 0, _, L, hL => by rw [List.mem_singleton.1 hL]; exact h
  | i + 1, hi, L, hL => by
    obtain ⟨L', u, h1, h2, h3, h4⟩ := next_mem.1 hL
    have h5 := layN_sd h i (by omega) L' h1
    rw [show m - i = (m - (i + 1)) + 1 by omega] at h5
    rw [← h3]
    exact h5.2 u h2
theorem row_inj {lay : List (List (List Int))} {f : Nat} {L L' : List (List Int)} (hL : L ∈ lay) (hL' : L' ∈ lay) (h : Sd (f + 1) L) (h' : Sd (f + 1) L') (he : rowG chS (nextS lay) L = rowG chS (nextS lay) L') : L = L' := by
  rw [h.1, h'.1]
  refine flatV_congr fun v hv => ?_
  rcases row_at hL hv with ⟨e1, e2⟩ | ⟨j, j1, j2, j3, j4⟩
  · rcases row_at hL' hv with ⟨k1, k2⟩ | ⟨q, q1, q2, q3, q4⟩
    · rw [e2, k2]
    · rw [he, q2] at e1
      injection e1 with e1
      omega
  · rcases row_at hL' hv with ⟨k1, k2⟩ | ⟨q, q1, q2, q3, q4⟩
    · rw [he, k1] at j2
      injection j2 with j2
      omega
    · rw [he, q2] at j2
      injection j2 with j2
      have : q = j := by omega
      subst this
      rw [j3] at q3
      injection q3
theorem bdl_red {m : Nat} {all : List (List Int)} (hl : Lay m [all]) (hs : Sd m all) {i : Nat} {es : List (List Int)} (hi : (bdL m [all])[i]? = some es) :
    es.Nodup ∧ ∀ i0, i = i0 + 1 → ∃ es0, (bdL m [all])[i0]? = some es0 ∧ ∀ k, k < es.length → ∃ r ∈ es0, (k : Int) ∈ r := by
  have him : i < m := by
    have := (List.getElem?_eq_some_iff.1 hi).1
    rw [bd_len] at this
    exact this
  rw [bd_at m [all] i him] at hi
  injection hi with hi
  subst hi
  have hlay := Lay.at_ (lay := [all]) (f := m - i) (i := i) (by rwa [Nat.sub_add_cancel (by omega)])
  refine ⟨?_, fun i0 e => ?_⟩
  · unfold List.Nodup
    rw [List.pairwise_map]
    refine List.Pairwise.imp_of_mem ?_ hlay.nd
    intro a b ha hb hab e
    have h1 := layN_sd hs i (by omega) a ha
    have h2 := layN_sd hs i (by omega) b hb
    rw [show m - i = (m - (i + 1)) + 1 by omega] at h1 h2
    exact hab (row_inj ha hb h1 h2 e)
  · subst e
    refine ⟨_, bd_at m [all] i0 (by omega), fun k hk => ?_⟩
    rw [List.length_map] at hk
    have hk2 : (layN [all] (i0 + 1))[k]? = some (layN [all] (i0 + 1))[k] := List.getElem?_eq_getElem hk
    obtain ⟨L, u, h1, h2, h3, h4⟩ := next_mem.1 (List.mem_of_getElem? hk2)
    refine ⟨_, List.mem_map.2 ⟨L, h1, rfl⟩, ?_⟩
    rcases row_at h1 h2 with ⟨e1, e2⟩ | ⟨j, j1, j2, j3, j4⟩
    · rw [h3] at e2
      exact absurd e2 h4
    · rw [h3] at j3
      have : j = k := at_inj (nxL_nodup chS (layN [all] i0) _) j3 hk2
      subst this
      exact List.mem_of_getElem? j2
theorem bdg_red (c : Con) (ds : List Int) {i : Nat} {es : List (List Int)} (hi : (bdgF c ds)[i]? = some es) :
    es.Nodup ∧ ∀ i0, i = i0 + 1 → ∃ es0, (bdgF c ds)[i0]? = some es0 ∧ ∀ k, k < es.length → ∃ r ∈ es0, (k : Int) ∈ r := by
  unfold bdgF at hi ⊢
  split at hi
  · rename_i hok
    split at hi
    · simp at hi
    · rename_i hall
      rw [if_pos hok, if_neg hall]
      simp only [Bool.and_eq_true] at hok
      obtain ⟨-, hl4, -⟩ := dok_parts hok.1
      obtain ⟨hv1, -, -⟩ := vcon_vars hok.2 hl4
      exact bdl_red (allF_lay (by omega) hall) (cmp_sd c.vars.length [] (by rw [wordF_len]; simp)) hi
  · simp at hi
end Go.Proofs.Ytfmdgdamelkelaa
