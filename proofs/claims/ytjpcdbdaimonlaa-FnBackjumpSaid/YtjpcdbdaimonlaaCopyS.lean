/- The sites of a copied model: they are where the marks go, and no two are one. -/
import Derived.Test.YtjpcdbdaimonlaaCopy
namespace Go.Proofs.Ytjpcdbdaimonlaa
open Go.ChangeShapes Go.WideShapes Go.ChangeAt Go.RowKit
open Go.Shelf
set_option linter.unusedVariables false
set_option maxRecDepth 100000

theorem sgs_append (L M : List (Nat × Nat)) : sgs (L ++ M) = sgs L ++ sgs M := List.flatMap_append
theorem mem_seg {g n : Nat} {s : Nat × Nat} (h : s ∈ seg g n) : s.1 = g := by
  unfold seg at h
  obtain ⟨j, -, rfl⟩ := List.mem_map.1 h
  rfl
theorem mem_sgs {L : List (Nat × Nat)} {s : Nat × Nat} (h : s ∈ sgs L) : s.1 ∈ L.map Prod.fst := by
  obtain ⟨p, hp, hs⟩ := List.mem_flatMap.1 h
  rw [mem_seg hs]
  exact List.mem_map_of_mem hp
theorem seg_nodup (g n : Nat) : (seg g n).Nodup := by
  unfold seg
  exact List.pairwise_map.2 (List.nodup_range.imp fun h e => h (by injection e))
theorem sgs_nodup {L : List (Nat × Nat)} (h : (L.map Prod.fst).Nodup) : (sgs L).Nodup := by
  induction L with
  | nil => simp [sgs]
  | cons p L ih =>
    rw [List.map_cons, List.nodup_cons] at h
    show (seg p.1 p.2 ++ sgs L).Nodup
    rw [List.nodup_append]
    refine ⟨seg_nodup _ _, ih h.2, fun a ha b hb e => h.1 ?_⟩
    subst e
    rw [← mem_seg ha]
    exact mem_sgs hb
def gs (g : Nat) : Nat → Nat → List (Nat × Nat)
  | _, 0 => []
  | i, n + 1 => [(g, i * 5), (g, i * 5 + 3)] ++ gs g (i + 1) n
theorem gs_mem {g : Nat} : ∀ {n i : Nat} {s : Nat × Nat}, s ∈ gs g i n → s.1 = g ∧ i * 5 ≤ s.2
  | 0, _, _, h => by simp [gs] at h
  | n + 1, i, s, h => by
    rcases List.mem_append.1 h with h | h
    · simp at h
      rcases h with rfl | rfl
      · exact ⟨rfl, Nat.le_refl _⟩
      · exact ⟨rfl, by simp⟩
    · have := gs_mem h
      exact ⟨this.1, by omega⟩
theorem gs_nodup (g : Nat) : ∀ (n i : Nat), (gs g i n).Nodup
  | 0, _ => by simp [gs]
  | n + 1, i => by
    show ([(g, i * 5), (g, i * 5 + 3)] ++ gs g (i + 1) n).Nodup
    rw [List.nodup_append]
    refine ⟨by simp, gs_nodup g n (i + 1), fun a ha b hb e => ?_⟩
    subst e
    have := (gs_mem hb).2
    simp at ha
    rcases ha with rfl | rfl <;> simp at this <;> omega
theorem csites_count (g : Nat) (a : Nat × Nat) : ∀ (xs : List CC) (i : Nat), (csites g i (xs.map CC.site)).count a = (gs g i xs.length).count a + (sgs (xs.flatMap CC.flat)).count a
  | [], i => by simp [csites, gs, sgs]
  | x :: xs, i => by
    have hf : (x.rs.map sgs).flatten = sgs x.rs.flatten := by
      generalize x.rs = R
      induction R with
      | nil => rfl
      | cons r R ih => rw [List.map_cons, List.flatten_cons, List.flatten_cons, ih, sgs_append]
    show (csite g (i * 5) x.site ++ csites g (i + 1) (xs.map CC.site)).count a = ([(g, i * 5), (g, i * 5 + 3)] ++ gs g (i + 1) xs.length).count a + (sgs (x.flat ++ xs.flatMap CC.flat)).count a
    rw [sgs_append, List.count_append, List.count_append, List.count_append, csites_count g a xs (i + 1)]
    show ([(g, i * 5)] ++ (sgs x.v ++ (sgs x.q ++ ([(g, i * 5 + 3)] ++ (x.rs.map sgs).flatten)))).count a + _ = _
    rw [hf, show [(g, i * 5), (g, i * 5 + 3)] = [(g, i * 5)] ++ [(g, i * 5 + 3)] from rfl]
    unfold CC.flat
    rw [sgs_append, sgs_append]
    simp only [List.count_append]
    omega
theorem sites_nodup {g : Nat} {D : List (Nat × Nat)} {xs : List CC} (h : ((flatM D xs).map Prod.fst).Nodup) (hg : ∀ p ∈ flatM D xs, p.1 ≠ g) : (sgs D ++ csites g 0 (xs.map CC.site)).Nodup := by
  rw [List.nodup_iff_count]
  intro a
  have h1 := List.nodup_iff_count.1 (sgs_nodup h) a
  have h2 := List.nodup_iff_count.1 (gs_nodup g xs.length 0) a
  unfold flatM at h1
  rw [sgs_append, List.count_append] at h1
  rw [List.count_append, csites_count]
  rcases Nat.eq_zero_or_pos ((gs g 0 xs.length).count a) with h0 | h0
  · omega
  · have ha := (gs_mem (List.count_pos_iff.1 h0)).1
    have hn : (sgs D ++ sgs (xs.flatMap CC.flat)).count a = 0 := by
      rw [List.count_eq_zero]
      intro hm
      rw [← sgs_append] at hm
      obtain ⟨p, hp, e⟩ := List.mem_map.1 (mem_sgs hm)
      exact hg p hp (e.trans ha)
    rw [List.count_append] at hn
    omega
theorem flatten_len_le {α : Type} {b : Nat} : ∀ {Ss : List (List α)}, (∀ S ∈ Ss, S.length ≤ b) → Ss.flatten.length ≤ Ss.length * b
  | [], _ => by simp
  | S :: Ss, h => by
    have h1 := h S (by simp)
    have h2 := flatten_len_le (Ss := Ss) (fun T hT => h T (by simp [hT]))
    rw [List.flatten_cons, List.length_append, List.length_cons, Nat.succ_mul]
    omega
theorem csites_len_le {b g : Nat} : ∀ {ps : List (List (Nat × Nat) × List (Nat × Nat) × List (List (Nat × Nat)))} {i : Nat}, (∀ p ∈ ps, ∀ o, (csite g o p).length ≤ b) → (csites g i ps).length ≤ ps.length * b
  | [], _, _ => by simp [csites]
  | p :: ps, i, h => by
    have h1 := h p (by simp) (i * 5)
    have h2 := csites_len_le (ps := ps) (i := i + 1) (fun T hT => h T (by simp [hT]))
    show (csite g (i * 5) p ++ csites g (i + 1) ps).length ≤ _
    rw [List.length_append, List.length_cons, Nat.succ_mul]
    omega
section
variable {w : World} {base : Nat}
theorem HIn.len {v : Value} {p : List Int × List (Nat × Nat)} (h : HIn w base v p) : (sgs p.2).length ≤ 1048576 := by
  obtain ⟨A, c, rfl, -⟩ := h.read
  rw [h.site.len]; exact h.2.1
theorem HRs.site {A : Option Addr} {n c : Nat} {rows : List (List Int × List (Nat × Nat))} (h : HRs w base (.slice A n c) rows) : SRows base w A n ((rows.map Prod.snd).map sgs) ∧ ∀ S ∈ (rows.map Prod.snd).map sgs, S.length ≤ 1048576 := by
  obtain ⟨us, h1, h2, -, h4⟩ := h
  have hm : ∀ S ∈ (rows.map Prod.snd).map sgs, S.length ≤ 1048576 := by
    intro S hS
    rw [List.map_map] at hS
    obtain ⟨p, hp, rfl⟩ := List.mem_map.1 hS
    obtain ⟨i, hi⟩ := List.mem_iff_getElem?.1 hp
    have hlt : i < rows.length := by
      rcases Nat.lt_or_ge i rows.length with h | h
      · exact h
      · rw [List.getElem?_eq_none h] at hi; cases hi
    exact (h4 i us[i] p (List.getElem?_eq_getElem (by omega)) hi).len
  have hn : n = rows.length := by
    rcases h2.2 with ⟨e, hn⟩ | ⟨g, cap, cur, e, -⟩
    · injection e with _ e2; omega
    · injection e with _ e2
  refine ⟨⟨by rw [List.length_map, List.length_map, hn], ?_⟩, hm⟩
  rcases own_heap h2 with ⟨e, -⟩ | ⟨g, cur, e1, e2, hg, hgw, hh, hc⟩
  · exact .inl e
  · refine .inr ⟨g, cur, _, e1, hh, fun j S hj => ?_⟩
    rw [List.map_map, List.getElem?_map] at hj
    obtain ⟨p, hp, rfl⟩ := Option.map_eq_some_iff.1 hj
    have hlt : j < rows.length := by
      rcases Nat.lt_or_ge j rows.length with h | h
      · exact h
      · rw [List.getElem?_eq_none h] at hp; cases hp
    have hu : us[j]? = some us[j] := List.getElem?_eq_getElem (by omega)
    have hI := h4 j us[j] p hu hp
    obtain ⟨A', c', e', -⟩ := hI.read
    rw [e'] at hI
    exact ⟨A', _, c', by rw [hc j (by omega), hu, e'], hI.site⟩
theorem CCons.site {A : Option Addr} {n c : Nat} {xs : List CC} (h : CCons w base (.slice A n c) xs) (hl : xs.length ≤ 1048576) : ∃ g, SCons base w A n g (xs.map CC.site) ∧ (∀ p ∈ xs.map CC.site, ∀ o, (csite g o p).length ≤ 1099513724930) ∧ (n = 0 ∨ ∃ cs, w.heap[g]? = some (.cells cs 53 (0, 0))) := by
  obtain ⟨uss, h1, h0, h2, -, h4⟩ := h
  have hn : n = xs.length := by
    rcases h2.2 with ⟨e, hn⟩ | ⟨g, cap, cur, e, -⟩
    · injection e with _ e2; omega
    · injection e with _ e2
  have hcl : ∀ g, ∀ p ∈ xs.map CC.site, ∀ o, (csite g o p).length ≤ 1099513724930 := by
    intro g p hp o
    obtain ⟨x, hx, rfl⟩ := List.mem_map.1 hp
    obtain ⟨i, hi⟩ := List.mem_iff_getElem?.1 hx
    have hlt : i < xs.length := by
      rcases Nat.lt_or_ge i xs.length with h | h
      · exact h
      · rw [List.getElem?_eq_none h] at hi; cases hi
    obtain ⟨vv, av, rv, rows, -, k1, k2, k3, k4, k5, k6⟩ := h4 i uss[i] x (List.getElem?_eq_getElem (by omega)) hi
    obtain ⟨A3, c3, rfl, -⟩ := HRs.read k3
    have hf := flatten_len_le k3.site.2
    rw [k5] at hf
    rw [List.length_map, ← k5, List.length_map] at hf
    rw [k5] at hf
    have l1 := k1.len
    have l2 := k2.len
    simp only [csite, CC.site, List.length_append, List.length_singleton]
    have : rows.length * 1048576 ≤ 1048576 * 1048576 := Nat.mul_le_mul_right _ k6
    simp only at l1 l2
    omega
  rcases own_heap h2 with ⟨e, -⟩ | ⟨g, cur, e1, e2, hg, hgw, hh, hc⟩
  · exact ⟨0, ⟨by rw [List.length_map, hn], by omega, .inl e⟩, hcl 0, .inl e⟩
  · refine ⟨g, ⟨by rw [List.length_map, hn], by omega, .inr ⟨cur, _, e1, hg, hh, fun j p hj => ?_⟩⟩, hcl g, .inr ⟨cur, hh⟩⟩
    rw [List.getElem?_map] at hj
    obtain ⟨x, hx, rfl⟩ := Option.map_eq_some_iff.1 hj
    have hlt : j < xs.length := by
      rcases Nat.lt_or_ge j xs.length with h | h
      · exact h
      · rw [List.getElem?_eq_none h] at hx; cases hx
    have hu : uss[j]? = some uss[j] := List.getElem?_eq_getElem (by omega)
    obtain ⟨vv, av, rv, rows, e, k1, k2, k3, k4, k5, k6⟩ := h4 j uss[j] x hu hx
    obtain ⟨A1, c1, rfl, -⟩ := k1.read
    obtain ⟨A2, c2, rfl, -⟩ := k2.read
    obtain ⟨A3, c3, rfl, -⟩ := HRs.read k3
    have hcell : ∀ i y, uss[j][i]? = some y → i < 5 → cur[j * 5 + i]? = some y := fun i y hy hi => by
      rw [hc (j * 5 + i) (by omega)]; exact flat_at h0 hu hy
    rw [e] at hcell
    refine ⟨_, A1, _, c1, A2, _, c2, _, A3, _, c3, hcell 0 _ rfl (by omega), hcell 1 _ rfl (by omega), hcell 2 _ rfl (by omega), hcell 3 _ rfl (by omega), hcell 4 _ rfl (by omega), k6, k1.site, k2.site, ?_⟩
    have := k3.site.1
    rw [k5] at this
    exact this
theorem HIn.int {v : Value} {p : List Int × List (Nat × Nat)} (h : HIn w base v p) : ∀ q ∈ p.2, ∃ cs, w.heap[q.1]? = some (.cells cs 3 (0, 0)) := by
  intro q hq
  rw [h.2.2] at hq
  unfold sgOf at hq
  rcases h.1.2 with ⟨e, -⟩ | ⟨g, cap, cur, e, hg, hh, -⟩
  · rw [e] at hq; simp [Value.ownBlock] at hq
  · rw [e] at hq
    simp [Value.ownBlock] at hq
    subst hq
    exact ⟨cur, hh⟩
theorem CMod.site {us : List Value} {m : Mod} {D : List (Nat × Nat)} {xs : List CC} (h : CMod w base us m D xs) (hf : Fr base w.heap.size (flatM D xs)) : ∃ S, SMod base w us S ∧ S.Nodup ∧ S.length ≤ 2305843009213693952 ∧ ∀ s ∈ S, s.1 < w.heap.size := by
  obtain ⟨dv, cv, e, h1, h2, h3, h4⟩ := h
  obtain ⟨A1, c1, rfl, -⟩ := h1.read
  obtain ⟨A2, c2, rfl, -, -⟩ := OwnK.read (R := fun w B u (x : CC) => ConR w B u x.con) (fun _ _ _ _ h => CCon.read h) h2
  obtain ⟨g, k1, k2, k3⟩ := CCons.site h2 h4
  have hs := h1.site
  have hlen : (csites g 0 (xs.map CC.site)).length ≤ 1152923703632199680 := by
    have := csites_len_le (i := 0) k2
    rw [List.length_map] at this
    have : xs.length * 1099513724930 ≤ 1048576 * 1099513724930 := Nat.mul_le_mul_right _ h4
    omega
  have hD : (sgs D).length ≤ 1048576 := h1.len
  have hint : ∀ p ∈ flatM D xs, ∃ cs, w.heap[p.1]? = some (.cells cs 3 (0, 0)) := by
    intro p hp
    rcases List.mem_append.1 hp with hp | hp
    · exact h1.int p hp
    · obtain ⟨x, hx, hp⟩ := List.mem_flatMap.1 hp
      obtain ⟨uss, u1, u0, u2, -, u4⟩ := h2
      obtain ⟨i, hi⟩ := List.mem_iff_getElem?.1 hx
      have hlt : i < xs.length := by
        rcases Nat.lt_or_ge i xs.length with h | h
        · exact h
        · rw [List.getElem?_eq_none h] at hi; cases hi
      obtain ⟨vv, av, rv, rows, -, q1, q2, q3, q4, q5, q6⟩ := u4 i uss[i] x (List.getElem?_eq_getElem (by omega)) hi
      rcases List.mem_append.1 hp with hp | hp
      · exact q1.int p hp
      rcases List.mem_append.1 hp with hp | hp
      · exact q2.int p hp
      · rw [← q5] at hp
        obtain ⟨L, hL, hp⟩ := List.mem_flatten.1 hp
        obtain ⟨r, hr, rfl⟩ := List.mem_map.1 hL
        obtain ⟨vs, v1, v2, -, v4⟩ := q3
        obtain ⟨j, hj⟩ := List.mem_iff_getElem?.1 hr
        have hlt2 : j < rows.length := by
          rcases Nat.lt_or_ge j rows.length with h | h
          · exact h
          · rw [List.getElem?_eq_none h] at hj; cases hj
        exact (v4 j vs[j] r (List.getElem?_eq_getElem (by omega)) hj).int p hp
  refine ⟨sgs D ++ csites g 0 (xs.map CC.site), ⟨A1, _, c1, A2, _, c2, _, g, _, e, hs, k1, rfl⟩, ?_, by rw [List.length_append]; omega, fun s hs => ?_⟩
  · rcases k3 with k3 | ⟨cs, k3⟩
    · have : xs = [] := List.eq_nil_of_length_eq_zero k3
      subst this
      rw [List.map_nil]
      show (sgs D ++ []).Nodup
      rw [List.append_nil]
      have := hf.1
      unfold flatM at this
      simp at this
      exact sgs_nodup this
    · refine sites_nodup hf.1 fun p hp e => ?_
      obtain ⟨cs2, h2⟩ := hint p hp
      rw [e, k3] at h2
      injection h2 with h2
      injection h2 with _ h2 _
      exact absurd h2 (by decide)
  · have hc : (sgs D ++ csites g 0 (xs.map CC.site)).count s ≠ 0 := fun h0 => List.count_eq_zero.1 h0 hs
    rw [List.count_append, csites_count] at hc
    by_cases hg : (gs g 0 xs.length).count s = 0
    · have : (sgs (flatM D xs)).count s ≠ 0 := by unfold flatM; rw [sgs_append, List.count_append]; omega
      have hm : s ∈ sgs (flatM D xs) := by
        by_cases hm : s ∈ sgs (flatM D xs)
        · exact hm
        · exact absurd (List.count_eq_zero.2 hm) this
      obtain ⟨p, hp, e⟩ := List.mem_map.1 (mem_sgs hm)
      rw [← e]
      exact (hf.2 p hp).2
    · have hm := List.count_pos_iff.1 (Nat.pos_of_ne_zero hg)
      rw [(gs_mem hm).1]
      rcases k3 with k3 | ⟨cs, k3⟩
      · rw [k3] at hm; simp [gs] at hm
      · exact lt_heap k3
end
end Go.Proofs.Ytjpcdbdaimonlaa
