/- Filtering, plain: what is left after filtering is kept by filtering once more; fewer values in, fewer out. No program in sight. -/
import Derived.Test.YtejfnkbdmlijbaaFil
namespace Go.Proofs.Ytejfnkbdmlijbaa
set_option linter.unusedVariables false
set_option maxRecDepth 100000

theorem dom_extF64 : ∀ a b : Fin 64, (∀ u : Fin 6, hasB a.val u.val = hasB b.val u.val) → a = b := by decide +kernel
theorem dom_extF {a b : Int} (a0 : 0 ≤ a) (a1 : a ≤ 63) (b0 : 0 ≤ b) (b1 : b ≤ 63) (h : ∀ u : Int, 0 ≤ u → u ≤ 5 → hasB a u = hasB b u) : a = b := by
  obtain ⟨x, rfl⟩ := dom_fin a0 a1
  obtain ⟨y, rfl⟩ := dom_fin b0 b1
  have := dom_extF64 x y (fun u => h u.val (by omega) (by omega))
  rw [this]
theorem list_gat {xs ys : List Int} (hl : xs.length = ys.length) (h : ∀ j, j < xs.length → gat xs j = gat ys j) : xs = ys := by
  refine List.ext_getElem hl fun j h1 h2 => ?_
  have := h j h1
  rw [gat_eq (List.getElem?_eq_getElem h1), gat_eq (List.getElem?_eq_getElem h2)] at this
  exact this
theorem doms_gat {xs : List Int} (h : Doms xs) {j : Nat} (hj : j < xs.length) : 0 ≤ gat xs j ∧ gat xs j ≤ 63 := h _ (gat_in hj)
theorem zip_gat {acc t : List Int} (hl : acc.length = t.length) {j : Nat} (hj : j < acc.length) : gat (List.zipWith orB acc t) j = orB (gat acc j) (gat t j) := by
  rw [gat_eq (x := orB acc[j] (t[j]'(by omega))) (by rw [List.getElem?_zipWith, List.getElem?_eq_getElem hj, List.getElem?_eq_getElem (by omega)])]
  rw [gat_eq (List.getElem?_eq_getElem hj), gat_eq (List.getElem?_eq_getElem (show j < t.length by omega))]
theorem supV_has' (c : Con) (m : Nat) {j : Nat} (hj : j < m) {u : Int} (u0 : 0 ≤ u) (u1 : u ≤ 5) : ∀ (ts : List (List Int)) (acc : List Int), OkT m ts → Doms acc → acc.length = m →
    hasB (gat (ts.foldl (stepV c) acc) j) u = (hasB (gat acc j) u || ts.any fun t => satF c t && (gat t j == u))
  | [], acc, _, _, _ => by simp
  | t :: ts, acc, ho, h, hl => by
    obtain ⟨h1, h2⟩ := ho t (by simp)
    obtain ⟨h3, h4⟩ := stepV_ok (c := c) h (by rw [hl, h1]) h2
    rw [List.foldl_cons, supV_has' c m hj u0 u1 ts _ (fun x hx => ho x (by simp [hx])) h3 (by rw [h4, hl]), List.any_cons]
    unfold stepV
    cases hs : satF c t
    · simp
    · have ha := doms_gat h (j := j) (by omega)
      have ht := h2 _ (gat_in (l := t) (i := j) (by omega))
      simp only [if_true, Bool.true_and]
      rw [zip_gat (by omega) (by omega), orB_has' ha.1 ha.2 ht.1 ht.2 u0 u1, Bool.or_assoc]
      congr 1
      congr 1
      rw [Bool.eq_iff_iff]; simp; exact eq_comm
theorem supV_has {c : Con} {m : Nat} {ts : List (List Int)} (ho : OkT m ts) {j : Nat} (hj : j < m) {u : Int} (u0 : 0 ≤ u) (u1 : u ≤ 5) : hasB (gat (supV c m ts) j) u = ts.any fun t => satF c t && (gat t j == u) := by
  unfold supV
  rw [supV_has' c m hj u0 u1 ts _ ho (fun x hx => by rw [List.eq_of_mem_replicate hx]; decide) (by simp)]
  have : gat (List.replicate m (0 : Int)) j = 0 := gat_eq (by rw [List.getElem?_replicate, if_pos hj])
  rw [this]
  have h0 : ∀ u : Fin 6, hasB 0 u.val = false := by decide +kernel
  have := h0 ⟨u.toNat, by omega⟩
  have e : ((u.toNat : Nat) : Int) = u := by omega
  simp only [e] at this
  rw [this, Bool.false_or]
/-- S's values all lie in W's. -/
def SubD (S W : List Int) : Prop := ∀ j, j < S.length → ∀ u : Int, 0 ≤ u → u ≤ 5 → hasB (gat S j) u = true → hasB (gat W j) u = true
theorem inDs_gat {ds t : List Int} : InDs ds t ↔ t.length = ds.length ∧ ∀ j, j < ds.length → 0 ≤ gat t j ∧ gat t j ≤ 5 ∧ hasB (gat ds j) (gat t j) = true := by
  constructor
  · rintro ⟨h1, h2⟩
    refine ⟨h1, fun j hj => ?_⟩
    have := h2 j _ _ (List.getElem?_eq_getElem hj) (List.getElem?_eq_getElem (show j < t.length by omega))
    rw [gat_eq (List.getElem?_eq_getElem hj), gat_eq (List.getElem?_eq_getElem (show j < t.length by omega))]
    exact this
  · rintro ⟨h1, h2⟩
    refine ⟨h1, fun j d v hd hv => ?_⟩
    have hj : j < ds.length := by
      rcases Nat.lt_or_ge j ds.length with h | h
      · exact h
      · rw [List.getElem?_eq_none h] at hd; cases hd
    have := h2 j hj
    rw [gat_eq hd, gat_eq hv] at this
    exact this
theorem allT_sub {S W : List Int} (hl : S.length = W.length) (h : SubD S W) {t : List Int} (ht : t ∈ allT S) : t ∈ allT W := by
  obtain ⟨h1, h2⟩ := inDs_gat.1 (mem_allT.1 ht)
  refine mem_allT.2 (inDs_gat.2 ⟨by omega, fun j hj => ?_⟩)
  obtain ⟨a, b, e⟩ := h2 j (by omega)
  exact ⟨a, b, h j (by omega) _ a b e⟩
/-- a value with support is a value. -/
theorem sup_sub {c : Con} {ws : List Int} : SubD (supV c ws.length (allT ws)) ws := by
  intro j hj u u0 u1 h
  have hok := allT_ok ws
  rw [(supV_ok (c := c) hok).2] at hj
  rw [supV_has hok hj u0 u1] at h
  obtain ⟨t, ht, h2⟩ := List.any_eq_true.1 h
  simp only [Bool.and_eq_true, beq_iff_eq] at h2
  obtain ⟨h3, h4⟩ := inDs_gat.1 (mem_allT.1 ht)
  have := (h4 j hj).2.2
  rw [h2.2] at this
  exact this
/-- fewer values, less support. -/
theorem sup_mono {c : Con} {S W : List Int} (hl : S.length = W.length) (h : SubD S W) : SubD (supV c S.length (allT S)) (supV c W.length (allT W)) := by
  intro j hj u u0 u1 hb
  rw [(supV_ok (c := c) (allT_ok S)).2] at hj
  rw [supV_has (allT_ok S) hj u0 u1] at hb
  rw [supV_has (allT_ok W) (by omega) u0 u1]
  obtain ⟨t, ht, h2⟩ := List.any_eq_true.1 hb
  exact List.any_eq_true.2 ⟨t, allT_sub hl h ht, h2⟩
/-- support is its own support. -/
theorem sup_idem (c : Con) (ws : List Int) : supV c ws.length (allT (supV c ws.length (allT ws))) = supV c ws.length (allT ws) := by
  obtain ⟨d1, l1⟩ := supV_ok (c := c) (allT_ok ws)
  obtain ⟨S, hS⟩ : ∃ S, supV c ws.length (allT ws) = S := ⟨_, rfl⟩
  rw [hS] at d1 l1 ⊢
  have hokS : OkT ws.length (allT S) := by rw [← l1]; exact allT_ok S
  obtain ⟨d2, l2⟩ := supV_ok (c := c) hokS
  refine list_gat (by omega) fun j hj => ?_
  rw [l2] at hj
  have a := doms_gat d1 (j := j) (by omega)
  have b := doms_gat d2 (j := j) (by omega)
  refine dom_extF b.1 b.2 a.1 a.2 fun u u0 u1 => ?_
  rw [supV_has hokS hj u0 u1, ← hS, supV_has (allT_ok ws) hj u0 u1, hS]
  rw [Bool.eq_iff_iff, List.any_eq_true, List.any_eq_true]
  constructor
  · rintro ⟨t, ht, h2⟩
    exact ⟨t, allT_sub l1 (by rw [← hS]; exact sup_sub) ht, h2⟩
  · rintro ⟨t, ht, h2⟩
    refine ⟨t, ?_, h2⟩
    obtain ⟨h3, h4⟩ := inDs_gat.1 (mem_allT.1 ht)
    refine mem_allT.2 (inDs_gat.2 ⟨by omega, fun i hi => ?_⟩)
    obtain ⟨p, q, e⟩ := h4 i (by omega)
    refine ⟨p, q, ?_⟩
    rw [← hS, supV_has (allT_ok ws) (by omega) p q]
    refine List.any_eq_true.2 ⟨t, ht, ?_⟩
    simp only [Bool.and_eq_true] at h2
    rw [h2.1]
    simp
/-- vars differ, and lie below n. -/
def DiffV (vars : List Int) (n : Nat) : Prop := (∀ (i j : Nat) a b, vars[i]? = some a → vars[j]? = some b → a = b → i = j) ∧ ∀ v ∈ vars, 0 ≤ v ∧ v < (n : Int)
theorem gat_set {xs : List Int} {k j : Nat} {a : Int} (hk : k < xs.length) : gat (xs.set k a) j = if k = j then a else gat xs j := by
  unfold gat
  by_cases e : k = j
  · subst e
    rw [if_pos rfl, List.getElem?_set_self hk]; rfl
  · rw [if_neg e, List.getElem?_set_ne e]
theorem vars_gat {vars : List Int} {n i : Nat} (h : DiffV vars n) (hi : i < vars.length) : 0 ≤ gat vars i ∧ gat vars i < (n : Int) := h.2 _ (gat_in hi)
/-- at a variable the new domain, elsewhere the old one. -/
theorem putTo_var {ds vars sup : List Int} (h : DiffV vars ds.length) {k i : Nat} (hk : k ≤ vars.length) (hi : i < k) : gat (putTo ds vars sup k) (gat vars i).toNat = gat sup i := by
  induction k with
  | zero => omega
  | succ k ih =>
    have hv := vars_gat h (i := k) (by omega)
    rw [putTo, gat_set (by rw [putTo_len]; omega)]
    rcases Nat.lt_or_ge i k with hlt | hge
    · have hvi := vars_gat h (i := i) (by omega)
      rw [if_neg ?_]
      · exact ih (by omega) hlt
      · intro e
        have := h.1 k i _ _ (List.getElem?_eq_getElem (show k < vars.length by omega)) (List.getElem?_eq_getElem (show i < vars.length by omega)) (by
          rw [gat_eq (List.getElem?_eq_getElem (show k < vars.length by omega))] at e hv
          rw [gat_eq (List.getElem?_eq_getElem (show i < vars.length by omega))] at e hvi
          omega)
        omega
    · obtain rfl : i = k := by omega
      rw [if_pos rfl]
theorem putTo_else {ds vars sup : List Int} (h : DiffV vars ds.length) {k j : Nat} (hk : k ≤ vars.length) (hj : ∀ i, i < k → (gat vars i).toNat ≠ j) : gat (putTo ds vars sup k) j = gat ds j := by
  induction k with
  | zero => rfl
  | succ k ih =>
    have hv := vars_gat h (i := k) (by omega)
    rw [putTo, gat_set (by rw [putTo_len]; omega), if_neg (hj k (by omega))]
    exact ih (by omega) fun i hi => hj i (by omega)
theorem putTo_case (vars : List Int) (k j : Nat) : (∃ i, i < k ∧ (gat vars i).toNat = j) ∨ ∀ i, i < k → (gat vars i).toNat ≠ j := by
  by_cases h : ∃ i, i < k ∧ (gat vars i).toNat = j
  · exact .inl h
  · exact .inr fun i hi e => h ⟨i, hi, e⟩
theorem word_gat {vars xs : List Int} {i : Nat} (hi : i < vars.length) : gat (wordF vars xs) i = gat xs (gat vars i).toNat := by
  have h1 := List.getElem?_eq_getElem hi
  rw [gat_eq (wordF_at h1), gat_eq h1]
theorem word_put {ds vars sup : List Int} (h : DiffV vars ds.length) (hl : sup.length = vars.length) : wordF vars (putTo ds vars sup vars.length) = sup := by
  refine list_gat (by rw [wordF_len, hl]) fun j hj => ?_
  rw [wordF_len] at hj
  rw [word_gat hj, putTo_var h (Nat.le_refl _) hj]
theorem put_put {ds vars sup : List Int} (h : DiffV vars ds.length) : putTo (putTo ds vars sup vars.length) vars sup vars.length = putTo ds vars sup vars.length := by
  have h' : DiffV vars (putTo ds vars sup vars.length).length := by rw [putTo_len]; exact h
  refine list_gat (by rw [putTo_len]) fun j hj => ?_
  rcases putTo_case vars vars.length j with ⟨i, hi, e⟩ | hn
  · rw [← e, putTo_var h' (Nat.le_refl _) hi, putTo_var h (Nat.le_refl _) hi]
  · rw [putTo_else h' (Nat.le_refl _) hn]
theorem filF_idem {c : Con} {ds : List Int} (h : DiffV c.vars ds.length) : filF c (filF c ds) = filF c ds := by
  have hl : (supV c c.vars.length (allT (wordF c.vars ds))).length = c.vars.length := by
    have := (supV_ok (c := c) (allT_ok (wordF c.vars ds))).2
    rw [wordF_len] at this
    exact this
  have hs := sup_idem c (wordF c.vars ds)
  rw [wordF_len] at hs
  have hw := word_put (ds := ds) h hl
  have hp := put_put (ds := ds) (sup := supV c c.vars.length (allT (wordF c.vars ds))) h
  unfold filF
  rw [hw, hs, hp]
theorem disF_inj {xs : List Int} (h : disF xs = true) : ∀ (i j : Nat) a b, xs[i]? = some a → xs[j]? = some b → a = b → i = j := by
  have key : ∀ (i j : Nat) a, i < j → xs[i]? = some a → xs[j]? = some a → False := by
    intro i j a hij hi hj
    unfold disF at h
    have hjl : j < xs.length := by
      rcases Nat.lt_or_ge j xs.length with h1 | h1
      · exact h1
      · rw [List.getElem?_eq_none h1] at hj; cases hj
    have := List.all_eq_true.1 h j (List.mem_range.2 hjl)
    rw [disAt_eq hj] at this
    have hm : a ∈ xs.take j := List.mem_of_getElem? (i := i) (by rw [List.getElem?_take, if_pos hij]; exact hi)
    rw [decide_eq_true hm] at this
    cases this
  intro i j a b hi hj e
  subst e
  rcases Nat.lt_trichotomy i j with h1 | h1 | h1
  · exact (key i j a h1 hi hj).elim
  · exact h1
  · exact (key j i a h1 hj hi).elim
theorem vcon_diff {c : Con} {n : Nat} (h : vconF c n = true) (h4 : n ≤ 4) : DiffV c.vars n := by
  refine ⟨?_, (vcon_vars h h4).2.1⟩
  unfold vconF at h
  simp only [Bool.and_eq_true] at h
  exact disF_inj h.2.2.1
theorem filF_doms {c : Con} {ds : List Int} (h : DiffV c.vars ds.length) (hd : Doms ds) : Doms (filF c ds) := by
  have hs := supV_ok (c := c) (allT_ok (wordF c.vars ds))
  rw [wordF_len] at hs
  intro x hx
  obtain ⟨j, hj, e⟩ := List.getElem_of_mem hx
  rw [filF_len] at hj
  have hx2 : gat (filF c ds) j = x := gat_eq (by rw [List.getElem?_eq_getElem (by rw [filF_len]; exact hj), e])
  rw [← hx2]
  unfold filF
  rcases putTo_case c.vars c.vars.length j with ⟨i, hi, e⟩ | hn
  · rw [← e, putTo_var h (Nat.le_refl _) hi]; exact doms_gat hs.1 (by rw [hs.2]; exact hi)
  · rw [putTo_else h (Nat.le_refl _) hn]; exact doms_gat hd hj
theorem dok_mk {ds : List Int} (h1 : 1 ≤ ds.length) (h4 : ds.length ≤ 4) (hd : Doms ds) : dokF ds = true := by
  unfold dokF
  rw [inB_mk ⟨by omega, by omega⟩, Bool.true_and]
  exact List.all_eq_true.2 fun x hx => inB_mk (hd x hx)
theorem filt_parts {c : Con} {ds : List Int} (h : (dokF ds && vconF c ds.length) = true) : filtF c ds = filF c ds ∧ 1 ≤ ds.length ∧ ds.length ≤ 4 ∧ Doms ds ∧ vconF c ds.length = true ∧ DiffV c.vars ds.length := by
  have h' := h
  simp only [Bool.and_eq_true] at h'
  obtain ⟨a, b, e⟩ := dok_parts h'.1
  exact ⟨by unfold filtF; rw [h]; rfl, a, b, e, h'.2, vcon_diff h'.2 b⟩
/-- FILTERING ONCE MORE CHANGES NOTHING. -/
theorem filtF_idem (c : Con) (ds : List Int) : filtF c (filtF c ds) = filtF c ds ∨ filtF c ds = [] := by
  cases h : dokF ds && vconF c ds.length
  · exact .inr (by unfold filtF; rw [h]; rfl)
  · obtain ⟨e, h1, h4, hd, hv, hD⟩ := filt_parts h
    refine .inl ?_
    rw [e]
    have h2 : (dokF (filF c ds) && vconF c (filF c ds).length) = true := by
      rw [filF_len, hv, dok_mk (by rw [filF_len]; exact h1) (by rw [filF_len]; exact h4) (filF_doms hD hd)]; rfl
    obtain ⟨e2, -⟩ := filt_parts h2
    rw [e2, filF_idem hD]
theorem sub_word {vars S D : List Int} (hv : DiffV vars S.length) (h : SubD S D) : SubD (wordF vars S) (wordF vars D) := by
  intro j hj u u0 u1 hb
  rw [wordF_len] at hj
  rw [word_gat hj] at hb ⊢
  have := vars_gat hv (i := j) hj
  exact h _ (by omega) u u0 u1 hb
theorem sub_fil {c : Con} {S D : List Int} (hl : S.length = D.length) (hv : DiffV c.vars S.length) (h : SubD S D) : SubD (filF c S) (filF c D) := by
  have hv2 : DiffV c.vars D.length := by rw [← hl]; exact hv
  intro j hj u u0 u1 hb
  rw [filF_len] at hj
  have hm := sup_mono (c := c) (S := wordF c.vars S) (W := wordF c.vars D) (by rw [wordF_len, wordF_len]) (sub_word hv h)
  rw [wordF_len, wordF_len] at hm
  have hs := supV_ok (c := c) (allT_ok (wordF c.vars S))
  rw [wordF_len] at hs
  unfold filF at hb ⊢
  rcases putTo_case c.vars c.vars.length j with ⟨i, hi, e⟩ | hn
  · rw [← e, putTo_var hv (Nat.le_refl _) hi] at hb
    rw [← e, putTo_var hv2 (Nat.le_refl _) hi]
    exact hm i (by rw [hs.2]; exact hi) u u0 u1 hb
  · rw [putTo_else hv (Nat.le_refl _) hn] at hb
    rw [putTo_else hv2 (Nat.le_refl _) hn]
    exact h j hj u u0 u1 hb
theorem and64 : ∀ a b : Fin 64, 0 ≤ bits .and .i64 (a.val : Int) b.val ∧ bits .and .i64 (a.val : Int) b.val ≤ 63 ∧ ∀ u : Fin 6, hasB (bits .and .i64 (a.val : Int) b.val) u.val = (hasB a.val u.val && hasB b.val u.val) := by decide +kernel
theorem and_dom {a b : Int} (a0 : 0 ≤ a) (a1 : a ≤ 63) (b0 : 0 ≤ b) (b1 : b ≤ 63) : 0 ≤ bits .and .i64 a b ∧ bits .and .i64 a b ≤ 63 ∧ ∀ u : Int, 0 ≤ u → u ≤ 5 → hasB (bits .and .i64 a b) u = (hasB a u && hasB b u) := by
  obtain ⟨x, rfl⟩ := dom_fin a0 a1
  obtain ⟨y, rfl⟩ := dom_fin b0 b1
  obtain ⟨h1, h2, h3⟩ := and64 x y
  refine ⟨h1, h2, fun u u0 u1 => ?_⟩
  have := h3 ⟨u.toNat, by omega⟩
  have e : ((u.toNat : Nat) : Int) = u := by omega
  simp only [e] at this
  exact this
theorem and_subF {a b : Int} (a0 : 0 ≤ a) (a1 : a ≤ 63) (b0 : 0 ≤ b) (b1 : b ≤ 63) (h : ∀ u : Int, 0 ≤ u → u ≤ 5 → hasB a u = true → hasB b u = true) : bits .and .i64 a b = a := by
  obtain ⟨h1, h2, h3⟩ := and_dom a0 a1 b0 b1
  refine dom_extF h1 h2 a0 a1 fun u u0 u1 => ?_
  rw [h3 u u0 u1]
  cases hb : hasB a u
  · rfl
  · rw [h u u0 u1 hb]; rfl
/-- FEWER VALUES IN, FEWER OUT, place by place. -/
theorem filt_mono {c : Con} {S D : List Int} (hv : (dokF D && vconF c D.length) = true) (hl : S.length = D.length) (hS : Doms S) (h : SubD S D) : (filtF c S).length = (filtF c D).length ∧ ∀ j, j < (filtF c S).length → bits .and .i64 (gat (filtF c S) j) (gat (filtF c D) j) = gat (filtF c S) j := by
  obtain ⟨e, h1, h4, hd, hc, hD⟩ := filt_parts hv
  have hv2 : (dokF S && vconF c S.length) = true := by rw [hl, hc, dok_mk (by omega) (by omega) hS]; rfl
  obtain ⟨e2, -, -, -, -, hDS⟩ := filt_parts hv2
  rw [e, e2]
  refine ⟨by rw [filF_len, filF_len, hl], fun j hj => ?_⟩
  have hj2 := hj
  rw [filF_len] at hj
  have a := doms_gat (filF_doms hDS hS) (j := j) hj2
  have b := doms_gat (filF_doms hD hd) (j := j) (by rw [filF_len]; omega)
  exact and_subF a.1 a.2 b.1 b.2 (sub_fil hl hDS h j hj2)
end Go.Proofs.Ytejfnkbdmlijbaa
