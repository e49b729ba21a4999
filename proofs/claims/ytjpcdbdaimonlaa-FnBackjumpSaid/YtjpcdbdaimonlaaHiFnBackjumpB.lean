/- Texts laid into one: FilP FixP FilS Csi Fix OwnH FilO FixO Lit1 Tail Nst StA. -/
import Derived.Test.YtjpcdbdaimonlaaHiFnBackjumpA
import Derived.Deep.LoopGhost
import Derived.Test.YtjpcdbdaimonlaaHold
import Derived.Test.YtjpcdbdaimonlaaVcon
import Derived.Test.YtjpcdbdaimonlaaOpen
import Derived.Maps.Own
import Derived.Maps.OwnOps
import Derived.StillTailTactics
import Derived.Test.YtjpcdbdaimonlaaMem
import Derived.StillTail
import Derived.Deep.Quiet
import Derived.Test.YtjpcdbdaimonlaaCur
import Derived.Deep.RegionLaw
import Derived.Deep.RegionLawGrows
/- Filtering, plain: what is left after filtering is kept by filtering once more; fewer values in, fewer out. No program in sight. -/
namespace Go.Proofs.Ytjpcdbdaimonlaa
set_option linter.unusedVariables false
set_option maxRecDepth 100000

theorem dom_extF64 : ∀ a b : Fin 64, (∀ u : Fin 6, hasB a.val u.val = hasB b.val u.val) → a = b := by decide +kernel
theorem dom_extF {a b : Int} (a0 : 0 ≤ a) (a1 : a ≤ 63) (b0 : 0 ≤ b) (b1 : b ≤ 63) (h : ∀ u : Int, 0 ≤ u → u ≤ 5 → hasB a u = hasB b u) : a = b := by
  obtain ⟨x, rfl⟩ := dom_fin a0 a1
  obtain ⟨y, rfl⟩ := dom_fin b0 b1
  have := dom_extF64 x y (fun u => h u.val (by omega) (by omega))
  rw [this]
theorem list_gat {xs ys : List Int} (hl : xs.length = ys.length) (h : ∀ j, j < xs.length → gat xs j = gat ys j) : xs = ys := by
  refine List.ext_getElem hl fun j h1 h2 => ?_
  have := h j h1
  rw [gat_eq (List.getElem?_eq_getElem h1), gat_eq (List.getElem?_eq_getElem h2)] at this
  exact this
theorem doms_gat {xs : List Int} (h : Doms xs) {j : Nat} (hj : j < xs.length) : 0 ≤ gat xs j ∧ gat xs j ≤ 63 := h _ (gat_in hj)
theorem zip_gat {acc t : List Int} (hl : acc.length = t.length) {j : Nat} (hj : j < acc.length) : gat (List.zipWith orB acc t) j = orB (gat acc j) (gat t j) := by
  rw [gat_eq (x := orB acc[j] (t[j]'(by omega))) (by rw [List.getElem?_zipWith, List.getElem?_eq_getElem hj, List.getElem?_eq_getElem (by omega)])]
  rw [gat_eq (List.getElem?_eq_getElem hj), gat_eq (List.getElem?_eq_getElem (show j < t.length by omega))]
theorem supV_has' (c : Con) (m : Nat) {j : Nat} (hj : j < m) {u : Int} (u0 : 0 ≤ u) (u1 : u ≤ 5) : ∀ (ts : List (List Int)) (acc : List Int), OkT m ts → Doms acc → acc.length = m →
    hasB (gat (ts.foldl (stepV c) acc) j) u = (hasB (gat acc j) u || ts.any fun t => satF c t && (gat t j == u))
  | [], acc, _, _, _ => by simp
  | t :: ts, acc, ho, h, hl => by
    obtain ⟨h1, h2⟩ := ho t (by simp)
    obtain ⟨h3, h4⟩ := stepV_ok (c := c) h (by rw [hl, h1]) h2
    rw [List.foldl_cons, supV_has' c m hj u0 u1 ts _ (fun x hx => ho x (by simp [hx])) h3 (by rw [h4, hl]), List.any_cons]
    unfold stepV
    cases hs : satF c t
    · simp
    · have ha := doms_gat h (j := j) (by omega)
      have ht := h2 _ (gat_in (l := t) (i := j) (by omega))
      simp only [if_true, Bool.true_and]
      rw [zip_gat (by omega) (by omega), orB_has' ha.1 ha.2 ht.1 ht.2 u0 u1, Bool.or_assoc]
      congr 1
      congr 1
      rw [Bool.eq_iff_iff]; simp; exact eq_comm
theorem supV_has {c : Con} {m : Nat} {ts : List (List Int)} (ho : OkT m ts) {j : Nat} (hj : j < m) {u : Int} (u0 : 0 ≤ u) (u1 : u ≤ 5) : hasB (gat (supV c m ts) j) u = ts.any fun t => satF c t && (gat t j == u) := by
  unfold supV
  rw [supV_has' c m hj u0 u1 ts _ ho (fun x hx => by rw [List.eq_of_mem_replicate hx]; decide) (by simp)]
  have : gat (List.replicate m (0 : Int)) j = 0 := gat_eq (by rw [List.getElem?_replicate, if_pos hj])
  rw [this]
  have h0 : ∀ u : Fin 6, hasB 0 u.val = false := by decide +kernel
  have := h0 ⟨u.toNat, by omega⟩
  have e : ((u.toNat : Nat) : Int) = u := by omega
  simp only [e] at this
  rw [this, Bool.false_or]
/-- S's values all lie in W's. -/
def SubD (S W : List Int) : Prop := ∀ j, j < S.length → ∀ u : Int, 0 ≤ u → u ≤ 5 → hasB (gat S j) u = true → hasB (gat W j) u = true
theorem inDs_gat {ds t : List Int} : InDs ds t ↔ t.length = ds.length ∧ ∀ j, j < ds.length → 0 ≤ gat t j ∧ gat t j ≤ 5 ∧ hasB (gat ds j) (gat t j) = true := by
  constructor
  · rintro ⟨h1, h2⟩
    refine ⟨h1, fun j hj => ?_⟩
    have := h2 j _ _ (List.getElem?_eq_getElem hj) (List.getElem?_eq_getElem (show j < t.length by omega))
    rw [gat_eq (List.getElem?_eq_getElem hj), gat_eq (List.getElem?_eq_getElem (show j < t.length by omega))]
    exact this
  · rintro ⟨h1, h2⟩
    refine ⟨h1, fun j d v hd hv => ?_⟩
    have hj : j < ds.length := by
      rcases Nat.lt_or_ge j ds.length with h | h
      · exact h
      · rw [List.getElem?_eq_none h] at hd; cases hd
    have := h2 j hj
    rw [gat_eq hd, gat_eq hv] at this
    exact this
theorem allT_sub {S W : List Int} (hl : S.length = W.length) (h : SubD S W) {t : List Int} (ht : t ∈ allT S) : t ∈ allT W := by
  obtain ⟨h1, h2⟩ := inDs_gat.1 (mem_allT.1 ht)
  refine mem_allT.2 (inDs_gat.2 ⟨by omega, fun j hj => ?_⟩)
  obtain ⟨a, b, e⟩ := h2 j (by omega)
  exact ⟨a, b, h j (by omega) _ a b e⟩
/-- a value with support is a value. -/
theorem sup_sub {c : Con} {ws : List Int} : SubD (supV c ws.length (allT ws)) ws := by
  intro j hj u u0 u1 h
  have hok := allT_ok ws
  rw [(supV_ok (c := c) hok).2] at hj
  rw [supV_has hok hj u0 u1] at h
  obtain ⟨t, ht, h2⟩ := List.any_eq_true.1 h
  simp only [Bool.and_eq_true, beq_iff_eq] at h2
  obtain ⟨h3, h4⟩ := inDs_gat.1 (mem_allT.1 ht)
  have := (h4 j hj).2.2
  rw [h2.2] at this
  exact this
/-- fewer values, less support. -/
theorem sup_mono {c : Con} {S W : List Int} (hl : S.length = W.length) (h : SubD S W) : SubD (supV c S.length (allT S)) (supV c W.length (allT W)) := by
  intro j hj u u0 u1 hb
  rw [(supV_ok (c := c) (allT_ok S)).2] at hj
  rw [supV_has (allT_ok S) hj u0 u1] at hb
  rw [supV_has (allT_ok W) (by omega) u0 u1]
  obtain ⟨t, ht, h2⟩ := List.any_eq_true.1 hb
  exact List.any_eq_true.2 ⟨t, allT_sub hl h ht, h2⟩
/-- support is its own support. -/
theorem sup_idem (c : Con) (ws : List Int) : supV c ws.length (allT (supV c ws.length (allT ws))) = supV c ws.length (allT ws) := by
  obtain ⟨d1, l1⟩ := supV_ok (c := c) (allT_ok ws)
  obtain ⟨S, hS⟩ : ∃ S, supV c ws.length (allT ws) = S := ⟨_, rfl⟩
  rw [hS] at d1 l1 ⊢
  have hokS : OkT ws.length (allT S) := by rw [← l1]; exact allT_ok S
  obtain ⟨d2, l2⟩ := supV_ok (c := c) hokS
  refine list_gat (by omega) fun j hj => ?_
  rw [l2] at hj
  have a := doms_gat d1 (j := j) (by omega)
  have b := doms_gat d2 (j := j) (by omega)
  refine dom_extF b.1 b.2 a.1 a.2 fun u u0 u1 => ?_
  rw [supV_has hokS hj u0 u1, ← hS, supV_has (allT_ok ws) hj u0 u1, hS]
  rw [Bool.eq_iff_iff, List.any_eq_true, List.any_eq_true]
  constructor
  · rintro ⟨t, ht, h2⟩
    exact ⟨t, allT_sub l1 (by rw [← hS]; exact sup_sub) ht, h2⟩
  · rintro ⟨t, ht, h2⟩
    refine ⟨t, ?_, h2⟩
    obtain ⟨h3, h4⟩ := inDs_gat.1 (mem_allT.1 ht)
    refine mem_allT.2 (inDs_gat.2 ⟨by omega, fun i hi => ?_⟩)
    obtain ⟨p, q, e⟩ := h4 i (by omega)
    refine ⟨p, q, ?_⟩
    rw [← hS, supV_has (allT_ok ws) (by omega) p q]
    refine List.any_eq_true.2 ⟨t, ht, ?_⟩
    simp only [Bool.and_eq_true] at h2
    rw [h2.1]
    simp
/-- vars differ, and lie below n. -/
def DiffV (vars : List Int) (n : Nat) : Prop := (∀ (i j : Nat) a b, vars[i]? = some a → vars[j]? = some b → a = b → i = j) ∧ ∀ v ∈ vars, 0 ≤ v ∧ v < (n : Int)
theorem gat_set {xs : List Int} {k j : Nat} {a : Int} (hk : k < xs.length) : gat (xs.set k a) j = if k = j then a else gat xs j := by
  unfold gat
  by_cases e : k = j
  · subst e
    rw [if_pos rfl, List.getElem?_set_self hk]; rfl
  · rw [if_neg e, List.getElem?_set_ne e]
theorem vars_gat {vars : List Int} {n i : Nat} (h : DiffV vars n) (hi : i < vars.length) : 0 ≤ gat vars i ∧ gat vars i < (n : Int) := h.2 _ (gat_in hi)
/-- at a variable the new domain, elsewhere the old one. -/
theorem putTo_var {ds vars sup : List Int} (h : DiffV vars ds.length) {k i : Nat} (hk : k ≤ vars.length) (hi : i < k) : gat (putTo ds vars sup k) (gat vars i).toNat = gat sup i := by
  induction k with
  | zero => omega
  | succ k ih =>
    have hv := vars_gat h (i := k) (by omega)
    rw [putTo, gat_set (by rw [putTo_len]; omega)]
    rcases Nat.lt_or_ge i k with hlt | hge
    · have hvi := vars_gat h (i := i) (by omega)
      rw [if_neg ?_]
      · exact ih (by omega) hlt
      · intro e
        have := h.1 k i _ _ (List.getElem?_eq_getElem (show k < vars.length by omega)) (List.getElem?_eq_getElem (show i < vars.length by omega)) (by
          rw [gat_eq (List.getElem?_eq_getElem (show k < vars.length by omega))] at e hv
          rw [gat_eq (List.getElem?_eq_getElem (show i < vars.length by omega))] at e hvi
          omega)
        omega
    · obtain rfl : i = k := by omega
      rw [if_pos rfl]
theorem putTo_else {ds vars sup : List Int} (h : DiffV vars ds.length) {k j : Nat} (hk : k ≤ vars.length) (hj : ∀ i, i < k → (gat vars i).toNat ≠ j) : gat (putTo ds vars sup k) j = gat ds j := by
  induction k with
  | zero => rfl
  | succ k ih =>
    have hv := vars_gat h (i := k) (by omega)
    rw [putTo, gat_set (by rw [putTo_len]; omega), if_neg (hj k (by omega))]
    exact ih (by omega) fun i hi => hj i (by omega)
theorem putTo_case (vars : List Int) (k j : Nat) : (∃ i, i < k ∧ (gat vars i).toNat = j) ∨ ∀ i, i < k → (gat vars i).toNat ≠ j := by
  by_cases h : ∃ i, i < k ∧ (gat vars i).toNat = j
  · exact .inl h
  · exact .inr fun i hi e => h ⟨i, hi, e⟩
theorem word_gat {vars xs : List Int} {i : Nat} (hi : i < vars.length) : gat (wordF vars xs) i = gat xs (gat vars i).toNat := by
  have h1 := List.getElem?_eq_getElem hi
  rw [gat_eq (wordF_at h1), gat_eq h1]
theorem word_put {ds vars sup : List Int} (h : DiffV vars ds.length) (hl : sup.length = vars.length) : wordF vars (putTo ds vars sup vars.length) = sup := by
  refine list_gat (by rw [wordF_len, hl]) fun j hj => ?_
  rw [wordF_len] at hj
  rw [word_gat hj, putTo_var h (Nat.le_refl _) hj]
theorem put_put {ds vars sup : List Int} (h : DiffV vars ds.length) : putTo (putTo ds vars sup vars.length) vars sup vars.length = putTo ds vars sup vars.length := by
  have h' : DiffV vars (putTo ds vars sup vars.length).length := by rw [putTo_len]; exact h
  refine list_gat (by rw [putTo_len]) fun j hj => ?_
  rcases putTo_case vars vars.length j with ⟨i, hi, e⟩ | hn
  · rw [← e, putTo_var h' (Nat.le_refl _) hi, putTo_var h (Nat.le_refl _) hi]
  · rw [putTo_else h' (Nat.le_refl _) hn]
theorem filF_idem {c : Con} {ds : List Int} (h : DiffV c.vars ds.length) : filF c (filF c ds) = filF c ds := by
  have hl : (supV c c.vars.length (allT (wordF c.vars ds))).length = c.vars.length := by
    have := (supV_ok (c := c) (allT_ok (wordF c.vars ds))).2
    rw [wordF_len] at this
    exact this
  have hs := sup_idem c (wordF c.vars ds)
  rw [wordF_len] at hs
  have hw := word_put (ds := ds) h hl
  have hp := put_put (ds := ds) (sup := supV c c.vars.length (allT (wordF c.vars ds))) h
  unfold filF
  rw [hw, hs, hp]
theorem disF_inj {xs : List Int} (h : disF xs = true) : ∀ (i j : Nat) a b, xs[i]? = some a → xs[j]? = some b → a = b → i = j := by
  have key : ∀ (i j : Nat) a, i < j → xs[i]? = some a → xs[j]? = some a → False := by
    intro i j a hij hi hj
    unfold disF at h
    have hjl : j < xs.length := by
      rcases Nat.lt_or_ge j xs.length with h1 | h1
      · exact h1
      · rw [List.getElem?_eq_none h1] at hj; cases hj
    have := List.all_eq_true.1 h j (List.mem_range.2 hjl)
    rw [disAt_eq hj] at this
    have hm : a ∈ xs.take j := List.mem_of_getElem? (i := i) (by rw [List.getElem?_take, if_pos hij]; exact hi)
    rw [decide_eq_true hm] at this
    cases this
  intro i j a b hi hj e
  subst e
  rcases Nat.lt_trichotomy i j with h1 | h1 | h1
  · exact (key i j a h1 hi hj).elim
  · exact h1
  · exact (key j i a h1 hj hi).elim
theorem vcon_diff {c : Con} {n : Nat} (h : vconF c n = true) (h4 : n ≤ 4) : DiffV c.vars n := by
  refine ⟨?_, (vcon_vars h h4).2.1⟩
  unfold vconF at h
  simp only [Bool.and_eq_true] at h
  exact disF_inj h.2.2.1
theorem filF_doms {c : Con} {ds : List Int} (h : DiffV c.vars ds.length) (hd : Doms ds) : Doms (filF c ds) := by
  have hs := supV_ok (c := c) (allT_ok (wordF c.vars ds))
  rw [wordF_len] at hs
  intro x hx
  obtain ⟨j, hj, e⟩ := List.getElem_of_mem hx
  rw [filF_len] at hj
  have hx2 : gat (filF c ds) j = x := gat_eq (by rw [List.getElem?_eq_getElem (by rw [filF_len]; exact hj), e])
  rw [← hx2]
  unfold filF
  rcases putTo_case c.vars c.vars.length j with ⟨i, hi, e⟩ | hn
  · rw [← e, putTo_var h (Nat.le_refl _) hi]; exact doms_gat hs.1 (by rw [hs.2]; exact hi)
  · rw [putTo_else h (Nat.le_refl _) hn]; exact doms_gat hd hj
theorem dok_mk {ds : List Int} (h1 : 1 ≤ ds.length) (h4 : ds.length ≤ 4) (hd : Doms ds) : dokF ds = true := by
  unfold dokF
  rw [inB_mk ⟨by omega, by omega⟩, Bool.true_and]
  exact List.all_eq_true.2 fun x hx => inB_mk (hd x hx)
theorem filt_parts {c : Con} {ds : List Int} (h : (dokF ds && vconF c ds.length) = true) : filtF c ds = filF c ds ∧ 1 ≤ ds.length ∧ ds.length ≤ 4 ∧ Doms ds ∧ vconF c ds.length = true ∧ DiffV c.vars ds.length := by
  have h' := h
  simp only [Bool.and_eq_true] at h'
  obtain ⟨a, b, e⟩ := dok_parts h'.1
  exact ⟨by unfold filtF; rw [h]; rfl, a, b, e, h'.2, vcon_diff h'.2 b⟩
/-- FILTERING ONCE MORE CHANGES NOTHING. -/
theorem filtF_idem (c : Con) (ds : List Int) : filtF c (filtF c ds) = filtF c ds ∨ filtF c ds = [] := by
  cases h : dokF ds && vconF c ds.length
  · exact .inr (by unfold filtF; rw [h]; rfl)
  · obtain ⟨e, h1, h4, hd, hv, hD⟩ := filt_parts h
    refine .inl ?_
    rw [e]
    have h2 : (dokF (filF c ds) && vconF c (filF c ds).length) = true := by
      rw [filF_len, hv, dok_mk (by rw [filF_len]; exact h1) (by rw [filF_len]; exact h4) (filF_doms hD hd)]; rfl
    obtain ⟨e2, -⟩ := filt_parts h2
    rw [e2, filF_idem hD]
theorem sub_word {vars S D : List Int} (hv : DiffV vars S.length) (h : SubD S D) : SubD (wordF vars S) (wordF vars D) := by
  intro j hj u u0 u1 hb
  rw [wordF_len] at hj
  rw [word_gat hj] at hb ⊢
  have := vars_gat hv (i := j) hj
  exact h _ (by omega) u u0 u1 hb
theorem sub_fil {c : Con} {S D : List Int} (hl : S.length = D.length) (hv : DiffV c.vars S.length) (h : SubD S D) : SubD (filF c S) (filF c D) := by
  have hv2 : DiffV c.vars D.length := by rw [← hl]; exact hv
  intro j hj u u0 u1 hb
  rw [filF_len] at hj
  have hm := sup_mono (c := c) (S := wordF c.vars S) (W := wordF c.vars D) (by rw [wordF_len, wordF_len]) (sub_word hv h)
  rw [wordF_len, wordF_len] at hm
  have hs := supV_ok (c := c) (allT_ok (wordF c.vars S))
  rw [wordF_len] at hs
  unfold filF at hb ⊢
  rcases putTo_case c.vars c.vars.length j with ⟨i, hi, e⟩ | hn
  · rw [← e, putTo_var hv (Nat.le_refl _) hi] at hb
    rw [← e, putTo_var hv2 (Nat.le_refl _) hi]
    exact hm i (by rw [hs.2]; exact hi) u u0 u1 hb
  · rw [putTo_else hv (Nat.le_refl _) hn] at hb
    rw [putTo_else hv2 (Nat.le_refl _) hn]
    exact h j hj u u0 u1 hb
theorem and64 : ∀ a b : Fin 64, 0 ≤ bits .and .i64 (a.val : Int) b.val ∧ bits .and .i64 (a.val : Int) b.val ≤ 63 ∧ ∀ u : Fin 6, hasB (bits .and .i64 (a.val : Int) b.val) u.val = (hasB a.val u.val && hasB b.val u.val) := by decide +kernel
theorem and_dom {a b : Int} (a0 : 0 ≤ a) (a1 : a ≤ 63) (b0 : 0 ≤ b) (b1 : b ≤ 63) : 0 ≤ bits .and .i64 a b ∧ bits .and .i64 a b ≤ 63 ∧ ∀ u : Int, 0 ≤ u → u ≤ 5 → hasB (bits .and .i64 a b) u = (hasB a u && hasB b u) := by
  obtain ⟨x, rfl⟩ := dom_fin a0 a1
  obtain ⟨y, rfl⟩ := dom_fin b0 b1
  obtain ⟨h1, h2, h3⟩ := and64 x y
  refine ⟨h1, h2, fun u u0 u1 => ?_⟩
  have := h3 ⟨u.toNat, by omega⟩
  have e : ((u.toNat : Nat) : Int) = u := by omega
  simp only [e] at this
  exact this
theorem and_subF {a b : Int} (a0 : 0 ≤ a) (a1 : a ≤ 63) (b0 : 0 ≤ b) (b1 : b ≤ 63) (h : ∀ u : Int, 0 ≤ u → u ≤ 5 → hasB a u = true → hasB b u = true) : bits .and .i64 a b = a := by
  obtain ⟨h1, h2, h3⟩ := and_dom a0 a1 b0 b1
  refine dom_extF h1 h2 a0 a1 fun u u0 u1 => ?_
  rw [h3 u u0 u1]
  cases hb : hasB a u
  · rfl
  · rw [h u u0 u1 hb]; rfl
/-- FEWER VALUES IN, FEWER OUT, place by place. -/
theorem filt_mono {c : Con} {S D : List Int} (hv : (dokF D && vconF c D.length) = true) (hl : S.length = D.length) (hS : Doms S) (h : SubD S D) : (filtF c S).length = (filtF c D).length ∧ ∀ j, j < (filtF c S).length → bits .and .i64 (gat (filtF c S) j) (gat (filtF c D) j) = gat (filtF c S) j := by
  obtain ⟨e, h1, h4, hd, hc, hD⟩ := filt_parts hv
  have hv2 : (dokF S && vconF c S.length) = true := by rw [hl, hc, dok_mk (by omega) (by omega) hS]; rfl
  obtain ⟨e2, -, -, -, -, hDS⟩ := filt_parts hv2
  rw [e, e2]
  refine ⟨by rw [filF_len, filF_len, hl], fun j hj => ?_⟩
  have hj2 := hj
  rw [filF_len] at hj
  have a := doms_gat (filF_doms hDS hS) (j := j) hj2
  have b := doms_gat (filF_doms hD hd) (j := j) (by rw [filF_len]; omega)
  exact and_subF a.1 a.2 b.1 b.2 (sub_fil hl hDS h j hj2)
end Go.Proofs.Ytjpcdbdaimonlaa
/- The fixpoint of filtering, plain: it does not hang on the order of the constraints. No program in sight. -/
namespace Go.Proofs.Ytjpcdbdaimonlaa
set_option linter.unusedVariables false
set_option maxRecDepth 100000

def cntD (d : Int) : Nat := (valsTo d 6).length
theorem cntD64 : ∀ a b : Fin 64, (∀ u : Fin 6, hasB a.val u.val = true → hasB b.val u.val = true) → cntD a.val ≤ cntD b.val ∧ (cntD a.val = cntD b.val → a = b) := by decide +kernel
theorem cntD_sub {a b : Int} (a0 : 0 ≤ a) (a1 : a ≤ 63) (b0 : 0 ≤ b) (b1 : b ≤ 63) (h : ∀ u : Int, 0 ≤ u → u ≤ 5 → hasB a u = true → hasB b u = true) : cntD a ≤ cntD b ∧ (cntD a = cntD b → a = b) := by
  obtain ⟨x, rfl⟩ := dom_fin a0 a1
  obtain ⟨y, rfl⟩ := dom_fin b0 b1
  have := cntD64 x y (fun u => h u.val (by omega) (by omega))
  exact ⟨this.1, fun e => by rw [this.2 e]⟩
def card (ds : List Int) : Nat := (ds.map cntD).sum
theorem SubD.refl (S : List Int) : SubD S S := fun _ _ _ _ _ h => h
theorem SubD.trans {S T U : List Int} (hl : S.length = T.length) (h : SubD S T) (k : SubD T U) : SubD S U := fun j hj u u0 u1 hb => k j (by omega) u u0 u1 (h j hj u u0 u1 hb)
theorem card_sub : ∀ (S W : List Int), S.length = W.length → Doms S → Doms W → SubD S W → card S ≤ card W ∧ (card S = card W → S = W)
  | [], [], _, _, _, _ => ⟨Nat.le_refl _, fun _ => rfl⟩
  | [], w :: W, h, _, _, _ => by simp at h
  | s :: S, [], h, _, _, _ => by simp at h
  | s :: S, w :: W, h, hs, hw, hd => by
    have a := hs s (by simp)
    have b := hw w (by simp)
    obtain ⟨c1, c2⟩ := cntD_sub a.1 a.2 b.1 b.2 (fun u u0 u1 hb => hd 0 (by simp) u u0 u1 hb)
    obtain ⟨d1, d2⟩ := card_sub S W (by simpa using h) (fun x hx => hs x (by simp [hx])) (fun x hx => hw x (by simp [hx])) (fun j hj u u0 u1 hb => hd (j + 1) (by simp; omega) u u0 u1 hb)
    have e1 : card (s :: S) = cntD s + card S := by simp [card]
    have e2 : card (w :: W) = cntD w + card W := by simp [card]
    rw [e1, e2]
    exact ⟨by omega, fun e => by rw [c2 (by omega), d2 (by omega)]⟩
theorem sub_anti {S W : List Int} (hl : S.length = W.length) (hs : Doms S) (hw : Doms W) (h : SubD S W) (k : SubD W S) : S = W :=
  (card_sub S W hl hs hw h).2 (Nat.le_antisymm (card_sub S W hl hs hw h).1 (card_sub W S hl.symm hw hs k).1)
/-- filtering leaves a part. -/
theorem fil_sub {c : Con} {ds : List Int} (hv : DiffV c.vars ds.length) : SubD (filF c ds) ds := by
  intro j hj u u0 u1 hb
  rw [filF_len] at hj
  have hs := supV_ok (c := c) (allT_ok (wordF c.vars ds))
  rw [wordF_len] at hs
  have hm := sup_sub (c := c) (ws := wordF c.vars ds)
  rw [wordF_len] at hm
  unfold filF at hb
  rcases putTo_case c.vars c.vars.length j with ⟨i, hi, e⟩ | hn
  · rw [← e, putTo_var hv (Nat.le_refl _) hi] at hb
    have := hm i (by rw [hs.2]; exact hi) u u0 u1 hb
    rw [word_gat hi, e] at this
    exact this
  · rw [putTo_else hv (Nat.le_refl _) hn] at hb
    exact hb
/-- the constraints' variables differ. -/
def DiffC (cs : List Con) (n : Nat) : Prop := ∀ c ∈ cs, DiffV c.vars n
def foldF (cs : List Con) (ds : List Int) : List Int := cs.foldl (fun d c => filF c d) ds
theorem foldF_len : ∀ (cs : List Con) (ds : List Int), (foldF cs ds).length = ds.length
  | [], _ => rfl
  | c :: cs, ds => by
    show (foldF cs (filF c ds)).length = _
    rw [foldF_len cs, filF_len]
theorem foldF_ok : ∀ (cs : List Con) (ds : List Int), DiffC cs ds.length → Doms ds → Doms (foldF cs ds) ∧ SubD (foldF cs ds) ds
  | [], ds, _, hd => ⟨hd, SubD.refl _⟩
  | c :: cs, ds, hv, hd => by
    have h1 := hv c (by simp)
    have h2 := filF_doms h1 hd
    obtain ⟨a, b⟩ := foldF_ok cs (filF c ds) (fun c' hc => by rw [filF_len]; exact hv c' (by simp [hc])) h2
    exact ⟨a, SubD.trans (by rw [foldF_len, filF_len]) b (fil_sub h1)⟩
theorem foldF_fix {cs : List Con} {ds : List Int} (h : ∀ c ∈ cs, filF c ds = ds) : foldF cs ds = ds := by
  induction cs with
  | nil => rfl
  | cons c cs ih =>
    show foldF cs (filF c ds) = ds
    rw [h c (by simp)]
    exact ih fun c' hc => h c' (by simp [hc])
theorem foldF_all : ∀ (cs : List Con) (ds : List Int), DiffC cs ds.length → Doms ds → foldF cs ds = ds → ∀ c ∈ cs, filF c ds = ds
  | [], _, _, _, _ => by simp
  | c :: cs, ds, hv, hd, h => by
    have h1 := hv c (by simp)
    have h2 := filF_doms h1 hd
    have hv2 : DiffC cs (filF c ds).length := fun c' hc => by rw [filF_len]; exact hv c' (by simp [hc])
    obtain ⟨a, b⟩ := foldF_ok cs (filF c ds) hv2 h2
    have h3 : foldF cs (filF c ds) = ds := h
    rw [h3] at b
    have h4 : filF c ds = ds := sub_anti (filF_len c ds) h2 hd (fil_sub h1) b
    rw [h4] at h3
    intro c' hc
    rcases List.mem_cons.1 hc with rfl | hc
    · exact h4
    · exact foldF_all cs ds (fun c' hc => hv c' (by simp [hc])) hd h3 c' hc
theorem foldF_mono : ∀ (cs : List Con) (G D : List Int), G.length = D.length → DiffC cs D.length → SubD G D → (∀ c ∈ cs, filF c G = G) → SubD G (foldF cs D)
  | [], _, _, _, _, h, _ => h
  | c :: cs, G, D, hl, hv, h, hG => by
    have h1 := hv c (by simp)
    have h2 := sub_fil (c := c) hl (by rw [hl]; exact h1) h
    rw [hG c (by simp)] at h2
    exact foldF_mono cs G (filF c D) (by rw [filF_len, hl]) (fun c' hc => by rw [filF_len]; exact hv c' (by simp [hc])) h2 fun c' hc => hG c' (by simp [hc])
def hasZ (ds : List Int) : Bool := ds.any (· == 0)
/-- the last domains that filtering comes to. -/
def limF (cs : List Con) (ds : List Int) : List Int := if hasZ ds then ds else if card (foldF cs ds) < card ds then limF cs (foldF cs ds) else ds
termination_by card ds
def zerosF (n : Nat) : List Int := List.replicate n 0
def fixF (cs : List Con) (ds : List Int) : List Int := if hasZ (limF cs ds) then zerosF ds.length else limF cs ds
theorem lim_z {cs : List Con} {ds : List Int} (h : hasZ ds = true) : limF cs ds = ds := by rw [limF, if_pos h]
theorem lim_end {cs : List Con} {ds : List Int} (h : foldF cs ds = ds) : limF cs ds = ds := by
  rw [limF, h, if_neg (Nat.lt_irrefl _)]; simp
theorem card_step {cs : List Con} {ds : List Int} (hv : DiffC cs ds.length) (hd : Doms ds) (hn : foldF cs ds ≠ ds) : card (foldF cs ds) < card ds := by
  obtain ⟨a, b⟩ := foldF_ok cs ds hv hd
  obtain ⟨c1, c2⟩ := card_sub _ _ (foldF_len cs ds) a hd b
  rcases Nat.lt_or_ge (card (foldF cs ds)) (card ds) with h | h
  · exact h
  · exact (hn (c2 (by omega))).elim
theorem lim_step {cs : List Con} {ds : List Int} (hv : DiffC cs ds.length) (hd : Doms ds) (hz : hasZ ds = false) (hn : foldF cs ds ≠ ds) : limF cs ds = limF cs (foldF cs ds) := by
  rw [limF, if_neg (by rw [hz]; decide), if_pos (card_step hv hd hn)]
theorem lim_ok (cs : List Con) : ∀ (k : Nat) (ds : List Int), card ds ≤ k → DiffC cs ds.length → Doms ds → (limF cs ds).length = ds.length ∧ Doms (limF cs ds) ∧ SubD (limF cs ds) ds ∧ (hasZ (limF cs ds) = false → foldF cs (limF cs ds) = limF cs ds) ∧
    ∀ G : List Int, G.length = ds.length → SubD G ds → (∀ c ∈ cs, filF c G = G) → SubD G (limF cs ds) := by
  intro k
  induction k with
  | zero =>
    intro ds hk hv hd
    cases hz : hasZ ds
    · by_cases hn : foldF cs ds = ds
      · rw [lim_end hn]
        exact ⟨rfl, hd, SubD.refl _, fun _ => hn, fun G _ h _ => h⟩
      · exact absurd (card_step hv hd hn) (by omega)
    · rw [lim_z hz]
      exact ⟨rfl, hd, SubD.refl _, fun h => (by rw [hz] at h; cases h), fun G _ h _ => h⟩
  | succ k ih =>
    intro ds hk hv hd
    cases hz : hasZ ds
    · by_cases hn : foldF cs ds = ds
      · rw [lim_end hn]
        exact ⟨rfl, hd, SubD.refl _, fun _ => hn, fun G _ h _ => h⟩
      · have hlt := card_step hv hd hn
        obtain ⟨a, b⟩ := foldF_ok cs ds hv hd
        have hfl := foldF_len cs ds
        obtain ⟨h1, h2, h3, h4, h5⟩ := ih (foldF cs ds) (by omega) (by rw [hfl]; exact hv) a
        rw [lim_step hv hd hz hn]
        exact ⟨by rw [h1, hfl], h2, SubD.trans (by rw [h1]) h3 b, h4, fun G hG hs hf => h5 G (by rw [hG, hfl]) (foldF_mono cs G ds hG hv hs hf) hf⟩
    · rw [lim_z hz]
      exact ⟨rfl, hd, SubD.refl _, fun h => (by rw [hz] at h; cases h), fun G _ h _ => h⟩
theorem zero64 : ∀ a : Fin 64, (∀ u : Fin 6, hasB a.val u.val = true → hasB 0 u.val = true) → a = 0 := by decide +kernel
theorem hasZ_sub {S W : List Int} (hl : S.length = W.length) (hs : Doms S) (h : SubD S W) (hz : hasZ W = true) : hasZ S = true := by
  obtain ⟨x, hx, e⟩ := List.any_eq_true.1 hz
  obtain ⟨j, hj, ej⟩ := List.getElem_of_mem hx
  have e0 : x = 0 := by simpa using e
  have hg : gat W j = 0 := by rw [gat_eq (List.getElem?_eq_getElem hj), ej, e0]
  have a := doms_gat hs (j := j) (by omega)
  have hh := h j (by omega)
  rw [hg] at hh
  obtain ⟨y, hy⟩ := dom_fin a.1 a.2
  have hy2 := zero64 y (fun u hb => hh u.val (by omega) (by omega) (by rw [hy]; exact hb))
  have h0 : gat S j = 0 := by rw [hy, hy2]; rfl
  refine List.any_eq_true.2 ⟨0, ?_, by rfl⟩
  rw [← h0]
  exact gat_in (by omega)
/-- THE ORDER DOES NOT MATTER. -/
theorem fix_order {cs cs' : List Con} {ds : List Int} (hm : ∀ c, c ∈ cs ↔ c ∈ cs') (hv : DiffC cs ds.length) (hd : Doms ds) : fixF cs ds = fixF cs' ds := by
  have hv' : DiffC cs' ds.length := fun c hc => hv c ((hm c).2 hc)
  obtain ⟨a1, a2, a3, a4, a5⟩ := lim_ok cs _ ds (Nat.le_refl _) hv hd
  obtain ⟨b1, b2, b3, b4, b5⟩ := lim_ok cs' _ ds (Nat.le_refl _) hv' hd
  unfold fixF
  cases hz : hasZ (limF cs ds)
  · have f1 := foldF_all cs _ (by rw [a1]; exact hv) a2 (a4 hz)
    have s1 := b5 _ a1 a3 (fun c hc => f1 c ((hm c).2 hc))
    cases hz' : hasZ (limF cs' ds)
    · have f2 := foldF_all cs' _ (by rw [b1]; exact hv') b2 (b4 hz')
      have s2 := a5 _ b1 b3 (fun c hc => f2 c ((hm c).1 hc))
      have e := sub_anti (by rw [a1, b1]) a2 b2 s1 s2
      rw [e]
    · have := hasZ_sub (by rw [a1, b1]) a2 s1 hz'
      rw [hz] at this; cases this
  · cases hz' : hasZ (limF cs' ds)
    · have f2 := foldF_all cs' _ (by rw [b1]; exact hv') b2 (b4 hz')
      have s2 := a5 _ b1 b3 (fun c hc => f2 c ((hm c).1 hc))
      have := hasZ_sub (by rw [a1, b1]) b2 s2 hz
      rw [hz'] at this; cases this
    · rfl
theorem fix_z {cs : List Con} {ds : List Int} (h : hasZ ds = true) : fixF cs ds = zerosF ds.length := by unfold fixF; rw [lim_z h, h]; rfl
theorem fix_end {cs : List Con} {ds : List Int} (hz : hasZ ds = false) (h : foldF cs ds = ds) : fixF cs ds = ds := by unfold fixF; rw [lim_end h, hz]; rfl
theorem fix_step {cs : List Con} {ds : List Int} (hv : DiffC cs ds.length) (hd : Doms ds) (hz : hasZ ds = false) (hn : foldF cs ds ≠ ds) : fixF cs ds = fixF cs (foldF cs ds) := by
  unfold fixF
  rw [lim_step hv hd hz hn, foldF_len]
theorem fix_len {cs : List Con} {ds : List Int} (hv : DiffC cs ds.length) (hd : Doms ds) : (fixF cs ds).length = ds.length := by
  obtain ⟨a1, -⟩ := lim_ok cs _ ds (Nat.le_refl _) hv hd
  unfold fixF
  split
  · simp [zerosF]
  · exact a1
theorem fix_doms {cs : List Con} {ds : List Int} (hv : DiffC cs ds.length) (hd : Doms ds) : Doms (fixF cs ds) := by
  obtain ⟨a1, a2, -⟩ := lim_ok cs _ ds (Nat.le_refl _) hv hd
  unfold fixF
  split
  · intro x hx
    rw [List.eq_of_mem_replicate hx]; decide
  · exact a2
/-- all constraints leave the domains as they are. -/
def conF (cs : List Con) (ds : List Int) : Bool := cs.all fun c => filF c ds == ds
theorem conF_iff {cs : List Con} {ds : List Int} (hv : DiffC cs ds.length) (hd : Doms ds) : conF cs ds = true ↔ foldF cs ds = ds := by
  constructor
  · intro h
    exact foldF_fix fun c hc => by simpa using List.all_eq_true.1 h c hc
  · intro h
    exact List.all_eq_true.2 fun c hc => by simpa using foldF_all cs ds hv hd h c hc
end Go.Proofs.Ytjpcdbdaimonlaa
/- spec's Filter. -/
namespace Go.Proofs.Ytjpcdbdaimonlaa
open Go.ChangeShapes Go.WideShapes Go.ChangeAt Go.RowKit
open Go.Shelf
set_option linter.unusedVariables false
set_option maxRecDepth 100000
attribute [local go_sem] Oper.semAt_some

theorem set_same {xs : List Int} {k : Nat} {a : Int} (h : xs[k]? = some a) : xs.set k a = xs := by
  refine List.ext_getElem? fun j => ?_
  rw [List.getElem?_set]
  split
  · rename_i e
    subst e
    split
    · exact h.symm
    · rename_i hn
      rw [List.getElem?_eq_none (by omega)]
  · rfl
set_option maxHeartbeats 16000000 in
theorem swalk (bE gx gs m n cd : Nat) (c : Con) (va aa ra : Option Addr) (cv ca cr : Nat) (ds : List Int) (A : Option Addr) (w0 : World) (hc : ConR w0 w0.heap.size [.int .i64 c.kind, .slice va c.vars.length cv, .slice aa c.args.length ca, .int .i64 c.bound, .slice ra c.rows.length cr] c)
    (hd : IntR w0 w0.heap.size A n ds) (hdm : Doms ds) (hvc : vconF c n = true) (h4 : n ≤ 4) (hm : c.vars.length = m) (hg : w0.heap.size ≤ bE ∧ w0.heap.size ≤ gx ∧ w0.heap.size ≤ gs) (hxs : gx ≠ gs) :
    ∀ (r : Nat) (t : List Int) (vis : List (List Int)) (W : World), t.length + r = m → PreDs (wordF c.vars ds) t → Below w0.heap.size w0 W →
      TBlk 94 W bE #[.int .i64 c.kind, .slice va m cv, .slice aa c.args.length ca, .int .i64 c.bound, .slice ra c.rows.length cr, .slice A n cd, .slice (some ⟨gx, 0, none⟩) m m, .slice (some ⟨gs, 0, none⟩) m m] → Front m W gx t → TBlk 3 W gs (ints (supV c m vis)) → OkT m vis →
      Calls Try.prog 73 #[.pointer (some ⟨bE, 0, none⟩), .int .i64 t.length] W fun e W' => (∃ v, e = .returned v) ∧ Below w0.heap.size w0 W' ∧
        TBlk 94 W' bE #[.int .i64 c.kind, .slice va m cv, .slice aa c.args.length ca, .int .i64 c.bound, .slice ra c.rows.length cr, .slice A n cd, .slice (some ⟨gx, 0, none⟩) m m, .slice (some ⟨gs, 0, none⟩) m m] ∧ Front m W' gx t ∧ TBlk 3 W' gs (ints (supV c m (vis ++ extT (wordF c.vars ds) t))) ∧ OkT m (vis ++ extT (wordF c.vars ds) t) := by
  obtain ⟨hv1, hv2, hv3⟩ := vcon_vars hvc h4
  have hvr : IntR w0 w0.heap.size va m c.vars := by
    obtain ⟨va', aa', ra', cv', ca', cr', e, g1, g2, g3, -⟩ := hc
    injection e with e1 e2
    injection e2 with e2 e3
    injection e2 with e2 e4 e5
    subst e2
    rw [hm] at g1
    exact g1
  intro r
  induction r with
  | zero =>
    intro t vis W htr hpre hb hE hX hS hok
    obtain rfl : t.length = m := by omega
    have hmem := hpre.mem (by rw [wordF_len]; omega)
    have hsat := (sat_tup hvc h4 hmem).1
    have hok2 : OkT t.length (vis ++ [t]) := hok.snoc rfl (fun v hv => by
      obtain ⟨h1, h2⟩ := mem_allT.1 hmem
      obtain ⟨j, hj, e⟩ := List.getElem_of_mem hv
      have := h2 j ((wordF c.vars ds)[j]'(by omega)) v (List.getElem?_eq_getElem _) (by rw [List.getElem?_eq_getElem hj, e])
      exact ⟨this.1, this.2.1⟩)
    rw [extT_full (by rw [wordF_len]; omega)]
    have hcon := ConR.on hc hb
    have hint := hX.intR rfl (by omega)
    have c0 := hE.at_ 0 rfl
    have c1 := hE.at_ 1 rfl
    have c2 := hE.at_ 2 rfl
    have c3 := hE.at_ 3 rfl
    have c4 := hE.at_ 4 rfl
    have c6 := hE.at_ 6 rfl
    have hl4 : t.length ≤ 4 := by omega
    have hsupd := (supV_ok (c := c) hok).1
    have hsupl := (supV_ok (c := c) hok).2
    obtain ⟨m, hk⟩ : ∃ k, t.length = k := ⟨_, rfl⟩
    rw [hm, hk] at hcon
    have HSL := Lib.hid hsupl
    rw [hk] at c1 c6 hint hE hX hl4 hS hok2 hsupd ⊢
    have HSD := Lib.hid hsupd
    simp only [List.getElem_toArray, List.getElem_cons_zero, List.getElem_cons_succ] at c0 c1 c2 c3 c4 c6
    have HQ := Lib.hid (And.intro hsat (And.intro hcon (And.intro hint (And.intro hE (And.intro hX (And.intro hS hb))))))
    have HOK := Lib.hid hok2
    have HTL := Lib.hid hk
    clear hsat hcon hint hE hX hb hmem hpre htr hvr hc hd hdm hvc hk hm hok hok2 hsupd hsupl hS
    go_enter Try.func73, Try.ntmps73
    go_wp2_with fail
    go_still_tail 8, (by kernel_rfl)
    go_wp2_with fail
    obtain ⟨g1, g2, g3, g4, g5, g7, g6⟩ := HQ.out
    have hbd : Below W.heap.size W W.drew := below_drewN (Below.refl _ _) 1
    refine (ssatisfies _ c _ _ _ t W.drew (ConR.on g2 hbd) (IntR.on g3 hbd) g1).mono ?_
    rintro e W3 ⟨rfl, hb3⟩
    have HQ3 := Lib.hid (And.intro (bgo g6 (bgo hbd hb3)) (And.intro (g4.below_ (bgo hbd hb3) g4.lt) (And.intro (g5.on (bgo hbd hb3)) (g7.below_ (bgo hbd hb3) g7.lt))))
    clear g1 g2 g3 g4 g5 g6 g7 hbd hb3 HQ c0 c1 c2 c3 c4 c6
    cases hst : satF c t
    · have HST := Lib.hid (show supV c m (vis ++ [t]) = supV c m vis by rw [supV_snoc]; unfold stepV; rw [hst]; rfl)
      clear hst
      go_wp2_with fail
      refine bodyPost_ret (results_none rfl _ _ _) rfl ?_
      obtain ⟨g1, g2, g3, g4⟩ := HQ3.out
      exact ⟨⟨_, rfl⟩, g1, g2, g3, by rw [HST.out]; exact g4, HOK.out⟩
    · have HST := Lib.hid (show supV c m (vis ++ [t]) = List.zipWith orB (supV c m vis) t by rw [supV_snoc]; unfold stepV; rw [hst]; rfl)
      clear hst
      go_wp2_with fail
      let QI : Nat → World → Prop := fun q W' => Below w0.heap.size w0 W' ∧ TBlk 94 W' bE #[.int .i64 c.kind, .slice va m cv, .slice aa c.args.length ca, .int .i64 c.bound, .slice ra c.rows.length cr, .slice A n cd, .slice (some ⟨gx, 0, none⟩) m m, .slice (some ⟨gs, 0, none⟩) m m] ∧ Front m W' gx t ∧ TBlk 3 W' gs (ints (updTo (supV c m vis) t q))
      have hQ0 : QI 0 W3 := by
        obtain ⟨g1, g2, g3, g4⟩ := HQ3.out
        exact ⟨g1, g2, g3, by rw [updTo_zero]; exact g4⟩
      clear HQ3
      go_loopw [4] (fun t4 wr => ∃ q : Nat, q ≤ m ∧ t4 = .int .i64 q ∧ Hid (QI q wr)) (fun t4 _ => m - (intOf t4).toNat)
      case atStart => exact ⟨0, by omega, rfl, hQ0⟩
      case round =>
        obtain ⟨q, hq, rfl, hQ⟩ := hrel
        clear hQ0
        obtain ⟨g1, g2, g3, g4⟩ := hQ.out
        have e6 := g2.at_ 6 rfl
        have e7 := g2.at_ 7 rfl
        simp only [List.getElem_toArray, List.getElem_cons_zero, List.getElem_cons_succ] at e6 e7
        by_cases hlt : q < m
        · obtain ⟨v, hv⟩ : ∃ v, t[q]? = some v := ⟨_, List.getElem?_eq_getElem (by have := HTL.out; omega)⟩
          have hsl2 : (supV c m vis).length = t.length := by rw [← HTL.out]; exact HSL.out
          obtain ⟨a, ha, hau⟩ := updTo_at2 hsl2 hv
          have hv5 : 0 ≤ v ∧ v ≤ 5 := (HOK.out t (by simp)).2 v (List.mem_of_getElem? hv)
          have ha63 := HSD.out a (List.mem_of_getElem? ha)
          obtain ⟨o1, o2, -, o4, o5⟩ := orB_in ha63.1 ha63.2 hv5.1 hv5.2
          have ex : wr.cell? ⟨gx, q, none⟩ = some (.int .i64 v) := by
            obtain ⟨cs, f1, f2, f3⟩ := g3
            exact f2.at_ q (f3 q v hv)
          have es := g4.at_ q (ints_at hau)
          have hdh : dhB a v = hasB a v := by unfold dhB; rw [inB_mk ⟨by omega, by omega⟩]; rfl
          have HVQ := Lib.hid (And.intro hv (And.intro ha (And.intro hau (And.intro hv5 ha63))))
          clear hv ha hau
          cases hh : hasB a v
          · have ho4 := o4 hh
            have hsum : IntKind.i64.wrap (a + IntKind.i64.wrap (2 ^ v.toNat)) = orB a v := by rw [wrap_pow hv5.1 hv5.2, ← ho4, IntWalk.i64_in _ (by omega)]
            rw [hh] at hdh
            clear o1 o2 o4 o5 hh ho4
            go_wp2_with fail
            go_still_tail 14, (by kernel_rfl)
            go_wp2_with fail
            refine (sdomainHas _ _ ha63.1 wr.drew).mono ?_
            rw [hdh]
            rintro e W4 ⟨rfl, hW4⟩
            have hbd : Below wr.heap.size wr W4 := by rw [← hW4]; exact below_drewN (Below.refl _ _) 1
            have k1 := g1.trans (hbd.mono g1.size)
            have k2 := g2.below_ hbd g2.lt
            have k3 := g3.on hbd
            have k4 := g4.below_ hbd g4.lt
            have hgE : gs ≠ bE := k4.ne k2 (by decide)
            have HN : Hid (QI (q + 1) ((W4.drew).setCell ⟨gs, q, none⟩ (.int .i64 (orB a v)))) := by
              refine Lib.hid ⟨(below_drewN k1 1).setCell (p := ⟨gs, q, none⟩) hg.2.2 _, (k2.drewN_ 1).far hgE.symm, ?_, ?_⟩
              · obtain ⟨cs, f1, f2, f3⟩ := k3
                exact ⟨cs, f1, (f2.drewN_ 1).far hxs, f3⟩
              · rw [← updTo_succ hsl2 HVQ.out.2.1 HVQ.out.1, ← ints_set]
                exact (k4.drewN_ 1).store q _
            have d6 := k2.at_ 6 rfl
            have d7 := k2.at_ 7 rfl
            simp only [List.getElem_toArray, List.getElem_cons_zero, List.getElem_cons_succ] at d6 d7
            have ds' := k4.at_ q (ints_at HVQ.out.2.2.1)
            have df := k4.frozen q
            have dx : W4.cell? ⟨gx, q, none⟩ = some (.int .i64 v) := by
              obtain ⟨cs, f1, f2, f3⟩ := k3
              exact f2.at_ q (f3 q v HVQ.out.1)
            clear hbd g1 g2 g3 g4 hQ hW4 k1 k2 k3 k4 e6 e7 ex es
            go_wp2_with fail
            go_still_tail 21, (by kernel_rfl)
            go_wp2_with fail
            try simp only [hsum]
            go_wp2_with fail
            go_roundw
            case rel => exact ⟨q + 1, by omega, by go_num, HN.out⟩
            case measure => simp [intOf]; omega
          · have ho5 := Lib.hid (o5 hh)
            rw [hh] at hdh
            clear o1 o2 o4 o5 hh
            go_wp2_with fail
            go_still_tail 14, (by kernel_rfl)
            go_wp2_with fail
            refine (sdomainHas _ _ ha63.1 _).mono ?_
            rw [hdh]
            rintro e W4 ⟨rfl, rfl⟩
            have hbd : Below wr.heap.size wr wr.drew := below_drewN (Below.refl _ _) 1
            have HN : Hid (QI (q + 1) wr.drew) := by
              refine Lib.hid ⟨bgo g1 hbd |> fun _ => g1.trans (hbd.mono g1.size), g2.below_ hbd g2.lt, g3.on hbd, ?_⟩
              rw [← updTo_succ hsl2 HVQ.out.2.1 HVQ.out.1, ho5.out, set_same HVQ.out.2.2.1]
              exact g4.below_ hbd g4.lt
            clear hbd g1 g2 g3 g4 hQ
            go_wp2_with fail
            go_roundw
            case rel => exact ⟨q + 1, by omega, by go_num, HN.out⟩
            case measure => simp [intOf]; omega
        · obtain rfl : q = m := by omega
          have HG := Lib.hid (And.intro g1 (And.intro g2 (And.intro g3 g4)))
          clear g1 g2 g3 g4
          go_wp2_with fail
          refine bodyPost_ret (results_none rfl _ _ _) rfl ?_
          obtain ⟨g1, g2, g3, g4⟩ := HG.out
          have hsl2 : (supV c q vis).length = t.length := by rw [← HTL.out]; exact HSL.out
          rw [updTo_done hsl2 (by rw [hsl2, HTL.out]), ← HST.out] at g4
          exact ⟨⟨_, rfl⟩, g1, g2, g3, g4, HOK.out⟩
  | succ r ih =>
    intro t vis W htr hpre hb hE hX hS hok
    obtain ⟨k, hk⟩ : ∃ k, t.length = k := ⟨_, rfl⟩
    have hkm : k < m := by omega
    have hkm' : ((k : Int) == (m : Int)) = false := by simp; omega
    obtain ⟨vb, vo, v, hva, hvb, hvk, hvc2⟩ := hvr.at_ hkm
    obtain ⟨hv0, hvn⟩ := hv2 v (List.mem_of_getElem? hvk)
    obtain ⟨vn, rfl⟩ : ∃ vn : Nat, v = (vn : Int) := ⟨v.toNat, by omega⟩
    obtain ⟨ab, ao, d, hA, hab, hdk, hdc⟩ := hd.at_ (k := vn) (by omega)
    subst hva hA
    have hws : (wordF c.vars ds)[t.length]? = some d := word_mem (by rw [hk]; exact hvk) (by rw [Int.toNat_natCast]; exact hdk)
    have hd63 := hdm d (List.mem_of_getElem? hdk)
    have HWS := Lib.hid hws
    have HPRE := Lib.hid hpre
    have HK := Lib.hid hk
    have HTR := Lib.hid htr
    have HHV := Lib.hid (show vn < n from by omega)
    have hE1 := hE.at_ 1 rfl
    have hE6 := hE.at_ 6 rfl
    simp only [List.getElem_toArray, List.getElem_cons_zero, List.getElem_cons_succ] at hE1 hE6
    have HB := Lib.hid hb
    have HE := Lib.hid hE
    have HX := Lib.hid hX
    have HS := Lib.hid (And.intro hS hok)
    have hvn2 : vn < n := by omega
    have hm4 : m ≤ 4 := by omega
    have hw0s := hb.size
    rw [hk]
    clear hws hpre hk htr hvk hdk hvr hc hd hdm hvc hv1 hv2 hv3 hb hE hX hv0 hvn hS hok
    go_enter Try.func73, Try.ntmps73
    go_wp2_with fail
    clear hE1 hE6
    go_loopw [5] (fun t5 wr => ∃ q : Nat, q ≤ 6 ∧ t5 = .int .i64 q ∧ Hid (TBlk 3 wr gs (ints (supV c m (vis ++ belK (wordF c.vars ds) t d q))) ∧ OkT m (vis ++ belK (wordF c.vars ds) t d q)) ∧ Hid (Below w0.heap.size w0 wr) ∧ Hid (TBlk 94 wr bE #[.int .i64 c.kind, .slice (some ⟨vb, vo, none⟩) m cv, .slice aa c.args.length ca, .int .i64 c.bound, .slice ra c.rows.length cr, .slice (some ⟨ab, ao, none⟩) n cd, .slice (some ⟨gx, 0, none⟩) m m, .slice (some ⟨gs, 0, none⟩) m m]) ∧ Hid (Front m wr gx t)) (fun t5 _ => 6 - (intOf t5).toNat)
    case atStart => exact ⟨0, by omega, rfl, by rw [belK_zero, List.append_nil]; exact HS.out, HB.out, HE.out, HX.out⟩
    case round =>
      obtain ⟨q, hq, rfl, hall, hbq, hEq, hXq⟩ := hrel
      clear HB HE HX HS
      by_cases hlt : q < 6
      · have e1 := hEq.out.at_ 1 rfl
        have e5 := hEq.out.at_ 5 rfl
        have e6 := hEq.out.at_ 6 rfl
        simp only [List.getElem_toArray, List.getElem_cons_zero, List.getElem_cons_succ] at e1 e5 e6
        have ev : wr.cell? ⟨vb, vo + k, none⟩ = some (.int .i64 vn) := (hbq.out.cell (p := ⟨vb, _, none⟩) hvb).trans hvc2
        have ed : wr.cell? ⟨ab, ao + vn, none⟩ = some (.int .i64 d) := (hbq.out.cell (p := ⟨ab, _, none⟩) hab).trans hdc
        have hdh : dhB d q = hasB d q := by unfold dhB; rw [inB_mk ⟨by omega, by omega⟩]; rfl
        cases hh : hasB d q
        · have HH := Lib.hid hh
          rw [hh] at hdh
          clear hh
          go_wp2_with fail
          go_still_tail 15, (by kernel_rfl)
          go_wp2_with fail
          refine (sdomainHas _ _ hd63.1 _).mono ?_
          rw [hdh]
          rintro e W3 ⟨rfl, rfl⟩
          have hbd : Below wr.heap.size wr wr.drew := below_drewN (Below.refl _ _) 1
          have HN := Lib.hid (And.intro (hbq.out.trans (hbd.mono hbq.out.size)) (And.intro (hEq.out.below_ hbd hEq.out.lt) (And.intro (hXq.out.on hbd) (hall.out.1.below_ hbd hall.out.1.lt))))
          clear hbd
          go_wp2_with fail
          go_roundw
          case rel => exact ⟨q + 1, by omega, by go_num, by rw [belK_no HH.out]; exact ⟨HN.out.2.2.2, hall.out.2⟩, HN.out.1, HN.out.2.1, HN.out.2.2.1⟩
          case measure => simp [intOf]; omega
        · have HH := Lib.hid hh
          rw [hh] at hdh
          clear hh
          go_wp2_with fail
          go_still_tail 15, (by kernel_rfl)
          go_wp2_with fail
          refine (sdomainHas _ _ hd63.1 _).mono ?_
          rw [hdh]
          rintro e W3 ⟨rfl, rfl⟩
          have hbd : Below wr.heap.size wr wr.drew := below_drewN (Below.refl _ _) 1
          have hb3 := hbq.out.trans (hbd.mono hbq.out.size)
          have hE3 := hEq.out.below_ hbd hEq.out.lt
          have hX3 := hXq.out.on hbd
          have hS3 := (hall.out.1.below_ hbd hall.out.1.lt).far (j := k) (u := .int .i64 q) hxs.symm
          have hgE : gx ≠ bE := by
            obtain ⟨cs, _, h2, _⟩ := hX3
            exact h2.ne hE3 (by decide)
          obtain ⟨u0, hu0⟩ := hX3.cell hkm
          have hf0 := hX3.frozen k
          have hX4 := hX3.push (by have := HK.out; omega) q
          rw [HK.out] at hX4
          have hE4 := hE3.far (j := k) (u := .int .i64 q) hgE.symm
          have hb4 := hb3.setCell (p := ⟨gx, k, none⟩) hg.2.1 (.int .i64 q)
          have hI := ih (t ++ [(q : Int)]) (vis ++ belK (wordF c.vars ds) t d q) _ (by rw [List.length_append, List.length_singleton]; have := HTR.out; omega) (HPRE.out.push HWS.out (valsTo_has (by omega) (by omega) HH.out)) hb4 hE4 hX4 hS3 hall.out.2
          have hlen : (((t ++ [(q : Int)]).length : Nat) : Int) = (k : Int) + 1 := by rw [List.length_append, List.length_singleton, HK.out]; omega
          rw [hlen] at hI
          have HI := Lib.hid hI
          have E6 := hE3.at_ 6 rfl
          simp only [List.getElem_toArray, List.getElem_cons_zero, List.getElem_cons_succ] at E6
          clear hbd hb3 hE3 hX3 hS3 hX4 hE4 hb4 hI hlen ih e1 e5 e6 ev ed
          go_wp2_with fail
          refine HI.out.mono ?_
          rintro e W5 ⟨⟨v5, rfl⟩, hb5, hE5, hX5, hS5, hok5⟩
          have HN := Lib.hid (And.intro hb5 (And.intro hE5 (And.intro hX5.pop (And.intro hS5 hok5))))
          clear hb5 hE5 hX5 HI E6 hu0 hf0 hS5 hok5
          go_wp2_with fail
          go_roundw
          case rel => exact ⟨q + 1, by omega, by go_num, by rw [belK_yes HH.out, ← List.append_assoc]; exact HN.out.2.2.2, HN.out.1, HN.out.2.1, HN.out.2.2.1⟩
          case measure => simp [intOf]; omega
      · obtain rfl : q = 6 := by omega
        go_wp2_with fail
        refine bodyPost_end (results_none rfl _ _ _) rfl ?_
        have := hall.out
        rw [belK_six HWS.out] at this
        exact ⟨⟨_, rfl⟩, hbq.out, hEq.out, hXq.out, this⟩
set_option maxHeartbeats 16000000 in
theorem ssupported (us : List Value) (c : Con) (A : Option Addr) (n d : Nat) (ds : List Int) (w : World) (h : ConR w w.heap.size us c) (hx : IntR w w.heap.size A n ds) (hvc : vconF c n = true) (hn1 : 1 ≤ n) (hl4 : n ≤ 4) (hdoms : Doms ds) :
    Calls Try.prog 59 #[.agg us.toArray, .slice A n d] w fun e w' => ∃ v', e = .returned v' ∧ HoldR w' w.heap.size 3 1 v' n ((filF c ds).map (.int .i64)) ∧ Below w.heap.size w w' := by
  obtain ⟨i0, hi0, hz0, hz1, hz2⟩ := info_parts info_int
  have hl := Lib.hid hx.len
  obtain ⟨va, aa, ra, cv, ca, cr, rfl, hvr, -⟩ := id h
  have hvp := Lib.hid (vcon_vars hvc hl4)
  obtain ⟨m, hm⟩ : ∃ m, c.vars.length = m := ⟨_, rfl⟩
  have hm1 : 1 ≤ m ∧ m ≤ 4 := by have := hvp.out.1; omega
  rw [hm] at hvr
  obtain ⟨Z, hZ, hmk⟩ := make_blk1 (P := Try.prog) 23 3 i0 _ Try.underlying23 hi0 hz0 hz1 rfl m (by rw [hz2]; omega) (by unfold maxLen; omega)
  obtain rfl : Z = ints (List.replicate m 0) := ints_zero hZ
  obtain ⟨wa, hwa⟩ : ∃ wa, wa = w.alloc (.cells #[.int .i64 c.kind, .slice va m cv, .slice aa c.args.length ca, .int .i64 c.bound, .slice ra c.rows.length cr] 53) := ⟨_, rfl⟩
  have hb0 : Below w.heap.size w wa := by rw [hwa]; exact b_alloc _ _
  have ha : CBlk wa w.heap.size (.int .i64 c.kind) (.slice va m cv) (.slice aa c.args.length ca) (.int .i64 c.bound) (.slice ra c.rows.length cr) := by rw [hwa]; exact CBlk.new w _ _ _ _ _
  have hsw : w.heap.size < wa.heap.size := ha.lt
  have HC0 := Lib.hid h
  have HX0 := Lib.hid hx
  have HV0 := Lib.hid hvr
  have HA := Lib.hid ha
  have HM := Lib.hid hm
  have HV := Lib.hid hvc
  have HDM := Lib.hid hdoms
  obtain ⟨a0, a1, a2, a3, a4⟩ := ha.cells
  rw [hm]
  clear ha h hx hvr hZ hm hvc hdoms
  go_enter Try.func59, Try.ntmps59
  go_wp2_with fail
  rw [← hwa]
  clear hwa
  have hSk : ∀ w', Below wa.heap.size wa w' → w'.cell? ⟨w.heap.size, 0, none⟩ = some (.int .i64 c.kind) ∧ w'.cell? ⟨w.heap.size, 1, none⟩ = some (.slice va m cv) ∧ w'.cell? ⟨w.heap.size, 2, none⟩ = some (.slice aa c.args.length ca) ∧ w'.cell? ⟨w.heap.size, 3, none⟩ = some (.int .i64 c.bound) ∧ w'.cell? ⟨w.heap.size, 4, none⟩ = some (.slice ra c.rows.length cr) :=
    fun w' hb => ⟨(hb.cell (p := ⟨_, _, none⟩) hsw).trans a0, (hb.cell (p := ⟨_, _, none⟩) hsw).trans a1, (hb.cell (p := ⟨_, _, none⟩) hsw).trans a2, (hb.cell (p := ⟨_, _, none⟩) hsw).trans a3, (hb.cell (p := ⟨_, _, none⟩) hsw).trans a4⟩
  clear a0 a1 a2 a3 a4
  have hbd : Below wa.heap.size wa wa.drew := below_drewN (Below.refl _ _) 1
  go_region_held3 (fun w' => w'.cell? ⟨w.heap.size, 0, none⟩ = some (.int .i64 c.kind) ∧ w'.cell? ⟨w.heap.size, 1, none⟩ = some (.slice va m cv) ∧ w'.cell? ⟨w.heap.size, 2, none⟩ = some (.slice aa c.args.length ca) ∧ w'.cell? ⟨w.heap.size, 3, none⟩ = some (.int .i64 c.bound) ∧ w'.cell? ⟨w.heap.size, 4, none⟩ = some (.slice ra c.rows.length cr))
    (first | exact hSk _ hbd | exact hSk _ (hbd.alloc (Nat.le_refl _) _) | exact hSk _ ((hbd.alloc (Nat.le_refl _) _).alloc (by simp) _) | exact hSk _ (((hbd.alloc (Nat.le_refl _) _).alloc (by simp) _).alloc (by simp; omega) _))
    (fail)
  · obtain ⟨L, hL⟩ : ∃ L, wa.heap.size = L := ⟨_, rfl⟩
    obtain ⟨W4, hW4⟩ : ∃ W4 : World, (((wa.alloc (.cells (ints (List.replicate m 0)) 3)).alloc (.cells (ints (List.replicate m 0)) 3)).alloc (.cells #[.int .i64 c.kind, .slice va m cv, .slice aa c.args.length ca, .int .i64 c.bound, .slice ra c.rows.length cr, .slice A n d, .slice (some ⟨wa.heap.size, 0, none⟩) m m, .slice (some ⟨wa.heap.size + 1, 0, none⟩) m m] 94)).drew = W4 := ⟨_, rfl⟩
    have hb4 : Below wa.heap.size wa W4 := by rw [← hW4]; exact below_drewN (((b_alloc _ _).alloc (by simp) _).alloc (by simp; omega) _) 1
    have hX4 : TBlk 3 W4 L (ints (List.replicate m 0)) := by rw [← hW4]; exact (((TBlk.newAt hL.symm).alloc_ _).alloc_ _).drewN_ 1
    have hS4 : TBlk 3 W4 (L + 1) (ints (supV c m [])) := by rw [← hW4]; exact ((TBlk.newAt (by simp [hL])).alloc_ _).drewN_ 1
    have hE4 : TBlk 94 W4 (L + 1 + 1) #[.int .i64 c.kind, .slice va m cv, .slice aa c.args.length ca, .int .i64 c.bound, .slice ra c.rows.length cr, .slice A n d, .slice (some ⟨L, 0, none⟩) m m, .slice (some ⟨(L + 1), 0, none⟩) m m] := by rw [← hW4, ← hL]; exact (TBlk.newAt (by simp)).drewN_ 1
    have HB0 := Lib.hid hb0
    have HQ := Lib.hid (And.intro hX4 (And.intro hS4 (And.intro hE4 hb4)))
    rw [hW4, hL]
    have HLL := Lib.hid (And.intro hL hsw)
    clear hX4 hS4 hE4 hW4 hL hb4 hbd hSk hsw hb0 hmk
    go_wp2_with fail
    obtain ⟨hX4, hS4, hE4, hb4⟩ := HQ.out
    have hI := swalk (L + 1 + 1) L (L + 1) m n d c va aa ra cv ca cr ds A wa (ConR.on HC0.out HB0.out) (IntR.on HX0.out HB0.out) HDM.out HV.out hl4 HM.out (by have := HLL.out; exact ⟨by omega, by omega, by omega⟩) (by omega) m [] [] W4 (by simp) (fun j d v _ hv => by simp at hv) hb4 hE4 ⟨_, by simp [ints], hX4, fun j x hj => by simp at hj⟩ hS4 (fun t ht => by simp at ht)
    have HI := Lib.hid hI
    clear hX4 hS4 hE4 hb4 hI HQ
    refine HI.out.mono ?_
    rintro e W5 ⟨⟨v5, rfl⟩, hb5, hE5, -, hS5, hok5⟩
    rw [List.nil_append, extT_nil] at hS5 hok5
    obtain ⟨sup, hsup⟩ : ∃ sup, supV c m (allT (wordF c.vars ds)) = sup := ⟨_, rfl⟩
    rw [hsup] at hS5
    have hsupl : sup.length = m := by rw [← hsup]; exact (supV_ok (c := c) hok5).2
    have HFIL := Lib.hid (show filF c ds = putTo ds c.vars sup m by unfold filF; rw [HM.out, hsup])
    have HSL := Lib.hid hsupl
    have hbw5 : Below w.heap.size w W5 := bgo HB0.out hb5
    have HQ5 := Lib.hid (And.intro hbw5 (And.intro hE5 (And.intro hS5 (HA.out.below hb5 HA.out.lt))))
    have GX5 := Lib.hid (IntR.on HX0.out hbw5)
    clear hb5 hbw5 hE5 hS5 hok5 hsup hsupl HI
    go_wp2_with fail
    refine (scopyRF _ _ _ ds _ GX5.out (by omega) (by omega)).mono ?_
    rintro e w6 ⟨v6, rfl, ho6, hb6⟩
    obtain ⟨A6, c6, rfl⟩ := (HoldR.of_own ho6.1).form
    have h60 : HoldR w6 W5.heap.size 3 1 (.slice A6 n c6) n ((putTo ds c.vars sup 0).map (.int .i64)) := by have := HoldR.of_own ho6.1; rw [hl.out] at this; exact this
    rw [hl.out]
    obtain ⟨g6, rfl, hg6, -⟩ := h60.pos (by omega)
    clear ho6
    have f1 := (HQ5.out.2.2.2.below hb6 HQ5.out.2.2.2.lt).cells.2.1
    have HW6 := Lib.hid (show w.heap.size < W5.heap.size from HQ5.out.2.2.2.lt)
    go_wp2_with fail
    clear f1
    go_loopw [7] (fun t7 wr => ∃ k : Nat, k ≤ m ∧ t7 = .int .i64 k ∧ Hid (HoldR wr W5.heap.size 3 1 (.slice (some ⟨g6, 0, none⟩) n c6) n ((putTo ds c.vars sup k).map (.int .i64))) ∧ Hid (Below W5.heap.size W5 wr)) (fun t7 _ => m - (intOf t7).toNat)
    case atStart => exact ⟨0, by omega, rfl, h60, hb6⟩
    case round =>
      obtain ⟨k, hk, rfl, hhk, hbk⟩ := hrel
      clear h60 hb6
      obtain ⟨q2, q3, q4, q5⟩ := HQ5.out
      have f1 := (q5.below hbk.out q5.lt).cells.2.1
      by_cases hlt : k < m
      · have hsl := HSL.out
        obtain ⟨a, ha⟩ : ∃ a, sup[k]? = some a := ⟨_, List.getElem?_eq_getElem (by omega)⟩
        obtain ⟨vb, vo, v, hva, hvb, hvk, hvc2⟩ := HV0.out.at_ hlt
        obtain ⟨hv0, hvn⟩ := hvp.out.2.1 v (List.mem_of_getElem? hvk)
        obtain ⟨vn, rfl⟩ : ∃ vn : Nat, v = (vn : Int) := ⟨v.toNat, by omega⟩
        have hvn2 : vn < n := by omega
        subst hva
        have e1 : wr.cell? ⟨vb, vo + k, none⟩ = some (.int .i64 vn) := ((hbk.out.cell (p := ⟨vb, _, none⟩) (show vb < W5.heap.size by have := HW6.out; omega)).trans (q2.cell (p := ⟨vb, _, none⟩) hvb)).trans hvc2
        have e2 := (q3.below_ hbk.out q3.lt).at_ 7 rfl
        simp only [List.getElem_toArray, List.getElem_cons_zero, List.getElem_cons_succ] at e2
        have e3 := (q4.below_ hbk.out q4.lt).at_ k (ints_at ha)
        obtain ⟨u, hu⟩ : ∃ u, ((putTo ds c.vars sup k).map (Value.int .i64))[vn]? = some u := ⟨_, List.getElem?_eq_getElem (by rw [List.length_map, putTo_len, hl.out]; exact hvn2)⟩
        have e4 : wr.cell? ⟨g6, vn, none⟩ = some u := by rw [hhk.out.cellAt vn (by omega), hu]
        have e5 : wr.frozen? ⟨g6, vn, none⟩ = false := hhk.out.frozenAt vn
        have hdw : Below wr.heap.size wr wr.drew := below_drewN (Below.refl _ _) 1
        have hst := (hhk.out.below hdw).stored vn (.int .i64 a)
        rw [← List.map_set, ← putTo_succ hvk ha] at hst
        have HST := Lib.hid hst
        have HBS := Lib.hid ((below_drewN hbk.out 1).setCell (p := ⟨g6, vn, none⟩) hg6 (.int .i64 a))
        clear q2 q3 q4 q5 ha hvk hu hst hv0 hvn hsl hdw
        go_wp2_with fail
        go_still_tail 14, (by kernel_rfl)
        go_wp2_with fail
        go_roundw
        case rel => exact ⟨k + 1, by omega, by go_num, HST.out, HBS.out⟩
        case measure => simp [intOf]; omega
      · obtain rfl : k = m := by omega
        clear q3 q4 q5
        go_wp2_with fail
        go_ret
        refine ⟨_, rfl, ?_, q2.trans (hbk.out.mono (by have := HW6.out; omega))⟩
        rw [HFIL.out]
        exact hhk.out.base_ (by have := HW6.out; omega)
  · obtain ⟨L, hL⟩ : ∃ L, wa.heap.size = L := ⟨_, rfl⟩
    obtain ⟨W4, hW4⟩ : ∃ W4 : World, (((wa.alloc (.cells (ints (List.replicate m 0)) 3)).alloc (.cells (ints (List.replicate m 0)) 3)).alloc (.cells #[.int .i64 c.kind, .slice va m cv, .slice aa c.args.length ca, .int .i64 c.bound, .slice ra c.rows.length cr, .slice A n d, .slice (some ⟨wa.heap.size + 1, 0, none⟩) m m, .slice (some ⟨wa.heap.size, 0, none⟩) m m] 94)).drew = W4 := ⟨_, rfl⟩
    have hb4 : Below wa.heap.size wa W4 := by rw [← hW4]; exact below_drewN (((b_alloc _ _).alloc (by simp) _).alloc (by simp; omega) _) 1
    have hX4 : TBlk 3 W4 (L + 1) (ints (List.replicate m 0)) := by rw [← hW4]; exact ((TBlk.newAt (by simp [hL])).alloc_ _).drewN_ 1
    have hS4 : TBlk 3 W4 L (ints (supV c m [])) := by rw [← hW4]; exact (((TBlk.newAt hL.symm).alloc_ _).alloc_ _).drewN_ 1
    have hE4 : TBlk 94 W4 (L + 1 + 1) #[.int .i64 c.kind, .slice va m cv, .slice aa c.args.length ca, .int .i64 c.bound, .slice ra c.rows.length cr, .slice A n d, .slice (some ⟨(L + 1), 0, none⟩) m m, .slice (some ⟨L, 0, none⟩) m m] := by rw [← hW4, ← hL]; exact (TBlk.newAt (by simp)).drewN_ 1
    have HB0 := Lib.hid hb0
    have HQ := Lib.hid (And.intro hX4 (And.intro hS4 (And.intro hE4 hb4)))
    rw [hW4, hL]
    have HLL := Lib.hid (And.intro hL hsw)
    clear hX4 hS4 hE4 hW4 hL hb4 hbd hSk hsw hb0 hmk
    go_wp2_with fail
    obtain ⟨hX4, hS4, hE4, hb4⟩ := HQ.out
    have hI := swalk (L + 1 + 1) (L + 1) L m n d c va aa ra cv ca cr ds A wa (ConR.on HC0.out HB0.out) (IntR.on HX0.out HB0.out) HDM.out HV.out hl4 HM.out (by have := HLL.out; exact ⟨by omega, by omega, by omega⟩) (by omega) m [] [] W4 (by simp) (fun j d v _ hv => by simp at hv) hb4 hE4 ⟨_, by simp [ints], hX4, fun j x hj => by simp at hj⟩ hS4 (fun t ht => by simp at ht)
    have HI := Lib.hid hI
    clear hX4 hS4 hE4 hb4 hI HQ
    refine HI.out.mono ?_
    rintro e W5 ⟨⟨v5, rfl⟩, hb5, hE5, -, hS5, hok5⟩
    rw [List.nil_append, extT_nil] at hS5 hok5
    obtain ⟨sup, hsup⟩ : ∃ sup, supV c m (allT (wordF c.vars ds)) = sup := ⟨_, rfl⟩
    rw [hsup] at hS5
    have hsupl : sup.length = m := by rw [← hsup]; exact (supV_ok (c := c) hok5).2
    have HFIL := Lib.hid (show filF c ds = putTo ds c.vars sup m by unfold filF; rw [HM.out, hsup])
    have HSL := Lib.hid hsupl
    have hbw5 : Below w.heap.size w W5 := bgo HB0.out hb5
    have HQ5 := Lib.hid (And.intro hbw5 (And.intro hE5 (And.intro hS5 (HA.out.below hb5 HA.out.lt))))
    have GX5 := Lib.hid (IntR.on HX0.out hbw5)
    clear hb5 hbw5 hE5 hS5 hok5 hsup hsupl HI
    go_wp2_with fail
    refine (scopyRF _ _ _ ds _ GX5.out (by omega) (by omega)).mono ?_
    rintro e w6 ⟨v6, rfl, ho6, hb6⟩
    obtain ⟨A6, c6, rfl⟩ := (HoldR.of_own ho6.1).form
    have h60 : HoldR w6 W5.heap.size 3 1 (.slice A6 n c6) n ((putTo ds c.vars sup 0).map (.int .i64)) := by have := HoldR.of_own ho6.1; rw [hl.out] at this; exact this
    rw [hl.out]
    obtain ⟨g6, rfl, hg6, -⟩ := h60.pos (by omega)
    clear ho6
    have f1 := (HQ5.out.2.2.2.below hb6 HQ5.out.2.2.2.lt).cells.2.1
    have HW6 := Lib.hid (show w.heap.size < W5.heap.size from HQ5.out.2.2.2.lt)
    go_wp2_with fail
    clear f1
    go_loopw [7] (fun t7 wr => ∃ k : Nat, k ≤ m ∧ t7 = .int .i64 k ∧ Hid (HoldR wr W5.heap.size 3 1 (.slice (some ⟨g6, 0, none⟩) n c6) n ((putTo ds c.vars sup k).map (.int .i64))) ∧ Hid (Below W5.heap.size W5 wr)) (fun t7 _ => m - (intOf t7).toNat)
    case atStart => exact ⟨0, by omega, rfl, h60, hb6⟩
    case round =>
      obtain ⟨k, hk, rfl, hhk, hbk⟩ := hrel
      clear h60 hb6
      obtain ⟨q2, q3, q4, q5⟩ := HQ5.out
      have f1 := (q5.below hbk.out q5.lt).cells.2.1
      by_cases hlt : k < m
      · have hsl := HSL.out
        obtain ⟨a, ha⟩ : ∃ a, sup[k]? = some a := ⟨_, List.getElem?_eq_getElem (by omega)⟩
        obtain ⟨vb, vo, v, hva, hvb, hvk, hvc2⟩ := HV0.out.at_ hlt
        obtain ⟨hv0, hvn⟩ := hvp.out.2.1 v (List.mem_of_getElem? hvk)
        obtain ⟨vn, rfl⟩ : ∃ vn : Nat, v = (vn : Int) := ⟨v.toNat, by omega⟩
        have hvn2 : vn < n := by omega
        subst hva
        have e1 : wr.cell? ⟨vb, vo + k, none⟩ = some (.int .i64 vn) := ((hbk.out.cell (p := ⟨vb, _, none⟩) (show vb < W5.heap.size by have := HW6.out; omega)).trans (q2.cell (p := ⟨vb, _, none⟩) hvb)).trans hvc2
        have e2 := (q3.below_ hbk.out q3.lt).at_ 7 rfl
        simp only [List.getElem_toArray, List.getElem_cons_zero, List.getElem_cons_succ] at e2
        have e3 := (q4.below_ hbk.out q4.lt).at_ k (ints_at ha)
        obtain ⟨u, hu⟩ : ∃ u, ((putTo ds c.vars sup k).map (Value.int .i64))[vn]? = some u := ⟨_, List.getElem?_eq_getElem (by rw [List.length_map, putTo_len, hl.out]; exact hvn2)⟩
        have e4 : wr.cell? ⟨g6, vn, none⟩ = some u := by rw [hhk.out.cellAt vn (by omega), hu]
        have e5 : wr.frozen? ⟨g6, vn, none⟩ = false := hhk.out.frozenAt vn
        have hdw : Below wr.heap.size wr wr.drew := below_drewN (Below.refl _ _) 1
        have hst := (hhk.out.below hdw).stored vn (.int .i64 a)
        rw [← List.map_set, ← putTo_succ hvk ha] at hst
        have HST := Lib.hid hst
        have HBS := Lib.hid ((below_drewN hbk.out 1).setCell (p := ⟨g6, vn, none⟩) hg6 (.int .i64 a))
        clear q2 q3 q4 q5 ha hvk hu hst hv0 hvn hsl hdw
        go_wp2_with fail
        go_still_tail 14, (by kernel_rfl)
        go_wp2_with fail
        go_roundw
        case rel => exact ⟨k + 1, by omega, by go_num, HST.out, HBS.out⟩
        case measure => simp [intOf]; omega
      · obtain rfl : k = m := by omega
        clear q3 q4 q5
        go_wp2_with fail
        go_ret
        refine ⟨_, rfl, ?_, q2.trans (hbk.out.mono (by have := HW6.out; omega))⟩
        rw [HFIL.out]
        exact hhk.out.base_ (by have := HW6.out; omega)
end Go.Proofs.Ytjpcdbdaimonlaa
/- IsConsistent. -/
namespace Go.Proofs.Ytjpcdbdaimonlaa
open Go.ChangeShapes Go.WideShapes Go.ChangeAt Go.RowKit
open Go.Shelf
set_option linter.unusedVariables false
set_option maxRecDepth 100000

/-- filtering with any constraint changes nothing. -/
def stillF (m : Mod) : Bool := m.cons.all fun c => decide (filF c m.doms = m.doms)
def icsF (m : Mod) : Bool := vmodF m && (!decide ((0 : Int) ∈ m.doms) && stillF m)
set_option maxHeartbeats 4000000 in
theorem shasEmpty (A : Option Addr) (n c : Nat) (xs : List Int) (w : World) (h : IntR w w.heap.size A n xs) :
    Calls Try.prog 58 #[.slice A n c] w fun e w' => e = .returned (.bool (decide ((0 : Int) ∈ xs))) ∧ w = w' := by
  have hn := h.le
  have hl := Lib.hid h.len
  go_enter Try.func58, Try.ntmps58
  go_wp2_with fail
  go_loop [3] (fun i => ∃ k : Nat, k ≤ n ∧ i = .int .i64 k ∧ Hid (AllB (fun x => !(x == 0)) xs k)) (fun i => n - (intOf i).toNat)
  case atStart => exact ⟨0, by omega, rfl, AllB.zero _ _⟩
  case round =>
    obtain ⟨k, hk, rfl, hq⟩ := hrel
    by_cases hlt : k < n
    · obtain ⟨ab, ao, x, rfl, hab, hxk, hcx⟩ := IntR.at_ h hlt
      have HXK := Lib.hid hxk
      clear hxk
      by_cases hx0 : x = 0
      · subst hx0
        have HE := Lib.hid (decide_eq_true (List.mem_of_getElem? HXK.out))
        go_wp2_with fail
        go_ret
        exact ⟨ret_bool HE.out.symm, rfl⟩
      · have hne : (x == 0) = false := by simpa using hx0
        have HV := Lib.hid (show (!(x == 0)) = true by rw [hne]; rfl)
        clear hx0
        go_wp2_with fail
        go_round
        case rel => exact ⟨k + 1, by omega, by go_num, AllB.succ hq.out HXK.out HV.out⟩
        case measure => simp [intOf]; omega
    · obtain rfl : k = n := by omega
      have HE := Lib.hid (decide_eq_false (fun h0 : (0 : Int) ∈ xs => by
        have := AllB.done hq.out (Nat.le_of_eq hl.out)
        have := List.all_eq_true.1 this 0 h0
        simp at this))
      go_wp2_with fail
      go_ret
      exact ⟨ret_bool HE.out.symm, rfl⟩
set_option maxHeartbeats 8000000 in
theorem sisConsistent (us : List Value) (m : Mod) (A : Option Addr) (n d : Nat) (w : World) (h : ModR w w.heap.size us m) (hx : IntR w w.heap.size A n m.doms) (hm : ModOk m) :
    Calls Try.prog 57 #[.agg us.toArray, .slice A n d] w fun e w' => e = .returned (.bool (stillF m)) ∧ Below w.heap.size w w' := by
  have hl := Lib.hid hx.len
  have HM := Lib.hid hm
  have hn1 : 1 ≤ n := by have := hm.one; have := hx.len; omega
  have hn4 : n ≤ 4 := by have := hm.four; have := hx.len; omega
  obtain ⟨da, ca, cd, cc, rfl, g1, g2, -⟩ := h
  obtain ⟨wa, hwa⟩ : ∃ wa, wa = w.alloc (.cells #[.slice da m.doms.length cd, .slice ca m.cons.length cc] 26) := ⟨_, rfl⟩
  have hb0 : Below w.heap.size w wa := by rw [hwa]; exact b_alloc _ _
  have ha : TBlk 26 wa w.heap.size #[.slice da m.doms.length cd, .slice ca m.cons.length cc] := by rw [hwa]; exact TBlk.new _ _ _
  have hsw : w.heap.size < wa.heap.size := ha.lt
  have HA := Lib.hid ha
  have HX0 := Lib.hid hx
  have HG2 := Lib.hid g2
  have H2 := Lib.hid (ConsR.on g2 hb0)
  obtain ⟨nc, hnc⟩ : ∃ nc, m.cons.length = nc := ⟨_, rfl⟩
  have hnc6 : nc ≤ 6 := by have := hm.six; omega
  have HNC := Lib.hid hnc
  rw [hnc] at ha H2 HA ⊢
  rw [hnc] at HG2
  clear hx g1 g2 hm ha hnc
  go_enter Try.func57, Try.ntmps57
  rw [HNC.out] at hwa
  go_wp2_with fail
  rw [← hwa]
  clear hwa
  go_loopw [5] (fun t5 wr => ∃ k : Nat, k ≤ nc ∧ t5 = .int .i64 k ∧ Hid (AllB (fun c => decide (filF c m.doms = m.doms)) m.cons k) ∧ Hid (Below wa.heap.size wa wr)) (fun t5 _ => nc - (intOf t5).toNat)
  case atStart => exact ⟨0, by omega, rfl, AllB.zero _ _, Below.refl _ _⟩
  case round =>
    obtain ⟨k, hk, rfl, hq, hbk⟩ := hrel
    have e1 := (HA.out.below_ hbk.out HA.out.lt).at_ 1 rfl
    by_cases hlt : k < nc
    · obtain ⟨ab, ao, c, va, aa, ra, cv, ca', cr, rfl, hab, hxk, c0, c1, c2, c3, c4, hc⟩ := ConR.at_ (SlK.below ConR.keeps H2.out hbk.out) hlt
      have HC := Lib.hid (ConR.widens _ _ _ _ _ hbk.out.size hc)
      have HVC := Lib.hid (show vconF c (n : Int) = true by rw [← hl.out]; exact HM.out.cons c (List.mem_of_getElem? hxk))
      have HXK := Lib.hid hxk
      have HBW := Lib.hid (bgo hb0 hbk.out)
      clear hc hxk
      go_wp2_with fail
      refine (ssupported _ c _ _ _ m.doms _ HC.out (IntR.on HX0.out HBW.out) HVC.out hn1 hn4 HM.out.doms).mono ?_
      rintro e w3 ⟨v3, rfl, hh3, hb3⟩
      obtain ⟨A3, c3', rfl, r3⟩ := IntR.of_hold hh3 (by omega)
      have HBW3 := Lib.hid (bgo HBW.out hb3)
      have HBK3 := Lib.hid (hbk.out.trans (hb3.mono hbk.out.size))
      clear hh3 hb3 c0 c1 c2 c3 c4 e1
      go_wp2_with fail
      refine (sequalInts _ _ _ _ _ _ _ _ _ r3 (IntR.on HX0.out HBW3.out)).mono ?_
      rintro e w4 ⟨rfl, hb4⟩
      have HBK4 := Lib.hid (HBK3.out.trans (hb4.mono HBK3.out.size))
      clear hb4 r3
      by_cases hs : filF c m.doms = m.doms
      · have HT := Lib.hid (decide_eq_true hs)
        rw [HT.out]
        clear hs
        go_wp2_with fail
        go_roundw
        case rel => exact ⟨k + 1, by omega, by go_num, AllB.succ hq.out HXK.out HT.out, HBK4.out⟩
        case measure => simp [intOf]; omega
      · have HT := Lib.hid (decide_eq_false hs)
        have HE := Lib.hid (show stillF m = false from all_no (f := fun c => decide (filF c m.doms = m.doms)) HXK.out HT.out)
        rw [HT.out]
        clear hs
        go_wp2_with fail
        go_ret
        exact ⟨ret_bool HE.out.symm, bgo hb0 HBK4.out⟩
    · obtain rfl : k = nc := by omega
      have HE := Lib.hid (show stillF m = true from AllB.done hq.out (Nat.le_of_eq HNC.out))
      go_wp2_with fail
      go_ret
      exact ⟨ret_bool HE.out.symm, bgo hb0 hbk.out⟩
end Go.Proofs.Ytjpcdbdaimonlaa
/- The fixpoint of filtering: both sides. -/
namespace Go.Proofs.Ytjpcdbdaimonlaa
open Go.ChangeShapes Go.WideShapes Go.ChangeAt Go.RowKit
open Go.Shelf
set_option linter.unusedVariables false
set_option linter.unusedSimpArgs false
set_option maxRecDepth 100000

theorem still_iff {cs : List Con} {ds : List Int} (hv : DiffC cs ds.length) (hd : Doms ds) : stillF ⟨ds, cs⟩ = decide (foldF cs ds = ds) := by
  rw [Bool.eq_iff_iff, decide_eq_true_eq, ← conF_iff hv hd]
  unfold stillF conF
  simp
theorem zmem_iff (ds : List Int) : decide ((0 : Int) ∈ ds) = hasZ ds := by
  rw [Bool.eq_iff_iff]; unfold hasZ; simp
theorem foldF_snoc {cs : List Con} {k : Nat} {c : Con} (h : cs[k]? = some c) (ds : List Int) : foldF (cs.take (k + 1)) ds = filF c (foldF (cs.take k) ds) := by
  rw [List.take_add_one, h]
  unfold foldF
  rw [List.foldl_append]
  rfl
set_option maxHeartbeats 8000000 in
theorem sisConsistentD (us : List Value) (m : Mod) (ds : List Int) (A : Option Addr) (n d : Nat) (w : World) (h : ModR w w.heap.size us m) (hx : IntR w w.heap.size A n ds) (hn1 : 1 ≤ n) (hn4 : n ≤ 4) (h6 : m.cons.length ≤ 6) (hcs : ∀ c ∈ m.cons, vconF c (n : Int) = true) (hdd : Doms ds) :
    Calls Try.prog 57 #[.agg us.toArray, .slice A n d] w fun e w' => e = .returned (.bool (stillF ⟨ds, m.cons⟩)) ∧ Below w.heap.size w w' := by
  have hl := Lib.hid hx.len
  have HCS := Lib.hid hcs
  have HDD := Lib.hid hdd
  obtain ⟨da, ca, cd, cc, rfl, g1, g2, -⟩ := h
  obtain ⟨wa, hwa⟩ : ∃ wa, wa = w.alloc (.cells #[.slice da m.doms.length cd, .slice ca m.cons.length cc] 26) := ⟨_, rfl⟩
  have hb0 : Below w.heap.size w wa := by rw [hwa]; exact b_alloc _ _
  have ha : TBlk 26 wa w.heap.size #[.slice da m.doms.length cd, .slice ca m.cons.length cc] := by rw [hwa]; exact TBlk.new _ _ _
  have hsw : w.heap.size < wa.heap.size := ha.lt
  have HA := Lib.hid ha
  have HX0 := Lib.hid hx
  have HG2 := Lib.hid g2
  have H2 := Lib.hid (ConsR.on g2 hb0)
  obtain ⟨nc, hnc⟩ : ∃ nc, m.cons.length = nc := ⟨_, rfl⟩
  have hnc6 : nc ≤ 6 := by omega
  have HNC := Lib.hid hnc
  rw [hnc] at ha H2 HA ⊢
  rw [hnc] at HG2
  clear hx g1 g2 hcs hdd ha hnc h6
  go_enter Try.func57, Try.ntmps57
  rw [HNC.out] at hwa
  go_wp2_with fail
  rw [← hwa]
  clear hwa
  go_loopw [5] (fun t5 wr => ∃ k : Nat, k ≤ nc ∧ t5 = .int .i64 k ∧ Hid (AllB (fun c => decide (filF c ds = ds)) m.cons k) ∧ Hid (Below wa.heap.size wa wr)) (fun t5 _ => nc - (intOf t5).toNat)
  case atStart => exact ⟨0, by omega, rfl, AllB.zero _ _, Below.refl _ _⟩
  case round =>
    obtain ⟨k, hk, rfl, hq, hbk⟩ := hrel
    have e1 := (HA.out.below_ hbk.out HA.out.lt).at_ 1 rfl
    by_cases hlt : k < nc
    · obtain ⟨ab, ao, c, va, aa, ra, cv, ca', cr, rfl, hab, hxk, c0, c1, c2, c3, c4, hc⟩ := ConR.at_ (SlK.below ConR.keeps H2.out hbk.out) hlt
      have HC := Lib.hid (ConR.widens _ _ _ _ _ hbk.out.size hc)
      have HVC := Lib.hid (HCS.out c (List.mem_of_getElem? hxk))
      have HXK := Lib.hid hxk
      have HBW := Lib.hid (bgo hb0 hbk.out)
      clear hc hxk
      go_wp2_with fail
      refine (ssupported _ c _ _ _ ds _ HC.out (IntR.on HX0.out HBW.out) HVC.out hn1 hn4 HDD.out).mono ?_
      rintro e w3 ⟨v3, rfl, hh3, hb3⟩
      obtain ⟨A3, c3', rfl, r3⟩ := IntR.of_hold hh3 (by omega)
      have HBW3 := Lib.hid (bgo HBW.out hb3)
      have HBK3 := Lib.hid (hbk.out.trans (hb3.mono hbk.out.size))
      clear hh3 hb3 c0 c1 c2 c3 c4 e1
      go_wp2_with fail
      refine (sequalInts _ _ _ _ _ _ _ _ _ r3 (IntR.on HX0.out HBW3.out)).mono ?_
      rintro e w4 ⟨rfl, hb4⟩
      have HBK4 := Lib.hid (HBK3.out.trans (hb4.mono HBK3.out.size))
      clear hb4 r3
      by_cases hs : filF c ds = ds
      · have HT := Lib.hid (decide_eq_true hs)
        rw [HT.out]
        clear hs
        go_wp2_with fail
        go_roundw
        case rel => exact ⟨k + 1, by omega, by go_num, AllB.succ hq.out HXK.out HT.out, HBK4.out⟩
        case measure => simp [intOf]; omega
      · have HT := Lib.hid (decide_eq_false hs)
        have HE := Lib.hid (show stillF ⟨ds, m.cons⟩ = false from all_no (f := fun c => decide (filF c ds = ds)) HXK.out HT.out)
        rw [HT.out]
        clear hs
        go_wp2_with fail
        go_ret
        exact ⟨ret_bool HE.out.symm, bgo hb0 HBK4.out⟩
    · obtain rfl : k = nc := by omega
      have HE := Lib.hid (show stillF ⟨ds, m.cons⟩ = true from AllB.done hq.out (Nat.le_of_eq HNC.out))
      go_wp2_with fail
      go_ret
      exact ⟨ret_bool HE.out.symm, bgo hb0 hbk.out⟩
set_option maxHeartbeats 1500000 in
theorem sfixpoint (us : List Value) (m : Mod) (ds : List Int) (A : Option Addr) (n d : Nat) (w : World) (h : ModR w w.heap.size us m) (hx : IntR w w.heap.size A n ds) (hn1 : 1 ≤ n) (hn4 : n ≤ 4) (h6 : m.cons.length ≤ 6) (hcs : ∀ c ∈ m.cons, vconF c (n : Int) = true) (hdd : Doms ds) :
    Calls Try.prog 41 #[.agg us.toArray, .slice A n d] w fun e w' => ∃ v', e = .returned v' ∧ HoldR w' w.heap.size 3 1 v' n ((fixF m.cons ds).map (.int .i64)) ∧ Below w.heap.size w w' := by
  obtain ⟨i0, hi0, hz0, hz1, hz2⟩ := info_parts info_int
  have hl := Lib.hid hx.len
  have HDC := Lib.hid (show DiffC m.cons n from fun c hc => vcon_diff (hcs c hc) hn4)
  have HCS := Lib.hid hcs
  have HMR := Lib.hid h
  obtain ⟨da, ca, cd, cc, rfl, g1, g2, -⟩ := id h
  obtain ⟨wa, hwa⟩ : ∃ wa, wa = w.alloc (.cells #[.slice da m.doms.length cd, .slice ca m.cons.length cc] 26) := ⟨_, rfl⟩
  have hb0 : Below w.heap.size w wa := by rw [hwa]; exact b_alloc _ _
  have ha : TBlk 26 wa w.heap.size #[.slice da m.doms.length cd, .slice ca m.cons.length cc] := by rw [hwa]; exact TBlk.new _ _ _
  have HA := Lib.hid ha
  have HX0 := Lib.hid hx
  have HG2 := Lib.hid g2
  have HDD := Lib.hid hdd
  have hsw : w.heap.size < wa.heap.size := ha.lt
  obtain ⟨nc, hnc⟩ : ∃ nc, m.cons.length = nc := ⟨_, rfl⟩
  have HNC := Lib.hid hnc
  have hnc6 : nc ≤ 6 := by omega
  rw [hnc] at HA HG2 hwa HMR ⊢
  clear hx g1 g2 hcs hdd ha h hnc
  go_enter Try.func41, Try.ntmps41
  go_wp2_with fail
  rw [← hwa]
  clear hwa
  refine (scopyRF _ _ _ ds _ (IntR.on HX0.out hb0) (by omega) (by omega)).mono ?_
  rintro e w1 ⟨v1, rfl, o1, hb1⟩
  have h1 := HoldR.of_own o1.1
  rw [hl.out] at h1
  obtain ⟨B1, c1, rfl⟩ := h1.form
  have HH1 := Lib.hid h1
  have HB1 := Lib.hid (show Below wa.heap.size wa w1 from hb1)
  clear o1 h1 hb1
  go_wp2_with fail
  go_loopg [5] (card ds) (fun gk v wr => ∃ (xs : List Int) (B : Option Addr) (c : Nat), v = .slice B n c ∧ Hid (HoldR wr wa.heap.size 3 1 (.slice B n c) n (xs.map (.int .i64))) ∧ Hid (fixF m.cons xs = fixF m.cons ds) ∧ Hid (Doms xs) ∧ Hid (xs.length = n) ∧ card xs ≤ gk ∧ Hid (Below wa.heap.size wa wr))
  case atStart => exact ⟨ds, B1, c1, rfl, HH1, Lib.hid rfl, HDD, hl, Nat.le_refl _, HB1⟩
  case round =>
    obtain ⟨xs, B, c, rfl, hh, hfx, hdx, hlx, hcard, hbk⟩ := hrel
    clear HH1 HB1
    have a0 := (HA.out.below_ hbk.out HA.out.lt).at_ 0 rfl
    have a1 := (HA.out.below_ hbk.out HA.out.lt).at_ 1 rfl
    obtain ⟨B', c', e', rX⟩ := IntR.of_hold hh.out (by omega)
    injection e' with e1 _ e3
    subst e1 e3
    have RX := Lib.hid rX
    have HBW := Lib.hid (bgo hb0 hbk.out)
    clear rX
    go_wp2_with fail
    refine (sisConsistentD _ m xs _ n _ _ (ModR.on HMR.out HBW.out) RX.out hn1 hn4 h6 HCS.out hdx.out).mono ?_
    rintro e w2 ⟨rfl, hb2⟩
    have HBK2 := Lib.hid (hbk.out.trans (hb2.mono hbk.out.size))
    have RX2 := Lib.hid (IntR.on RX.out hb2)
    have HH2 := Lib.hid (hh.out.below hb2)
    have HB2 := Lib.hid (bgo HBW.out hb2)
    have HDX := Lib.hid (show DiffC m.cons xs.length by rw [hlx.out]; exact HDC.out)
    clear hh hbk RX HBW a0 a1 hb2
    have hst := Lib.hid (still_iff HDX.out hdx.out)
    cases ts : stillF ⟨xs, m.cons⟩
    · have hne := Lib.hid (show foldF m.cons xs ≠ xs from of_decide_eq_false (hst.out.symm.trans ts))
      clear ts
      go_wp2_with fail
      refine (shasEmpty _ _ _ xs _ RX2.out).mono ?_
      rintro e w3 ⟨rfl, rfl⟩
      cases te : decide ((0 : Int) ∈ xs)
      · have hz := Lib.hid (show hasZ xs = false by rw [← zmem_iff]; exact te)
        clear te
        go_wp2_with fail
        go_loopw [5, 6] (fun v i wy => ∃ (j : Nat) (ys : List Int) (B2 : Option Addr) (c2 : Nat), j ≤ nc ∧ i = .int .i64 j ∧ v = .slice B2 n c2 ∧ Hid (HoldR wy wa.heap.size 3 1 (.slice B2 n c2) n (ys.map (.int .i64))) ∧ Hid (ys = foldF (m.cons.take j) xs) ∧ Hid (Below wa.heap.size wa wy)) (fun _ i _ => nc - (intOf i).toNat)
        case atStart => exact ⟨0, xs, _, _, by omega, rfl, rfl, HH2, Lib.hid (by simp [foldF]), HBK2⟩
        case round =>
          obtain ⟨j, ys, B2, c2, hj, rfl, rfl, hh3, hys, hbk3⟩ := hrel
          clear HH2 HBK2 RX2 HB2
          rename World => wy
          have a1 := (HA.out.below_ hbk3.out HA.out.lt).at_ 1 rfl
          have HBW := Lib.hid (bgo hb0 hbk3.out)
          have hfd := foldF_ok (m.cons.take j) xs (fun c hc => HDX.out c (List.mem_of_mem_take hc)) hdx.out
          have hfl := foldF_len (m.cons.take j) xs
          have HYD := Lib.hid (show Doms ys by rw [hys.out]; exact hfd.1)
          have HYL := Lib.hid (show ys.length = n by rw [hys.out, hfl, hlx.out])
          obtain ⟨B', c', e', rY⟩ := IntR.of_hold hh3.out (by omega)
          injection e' with e1 _ e3
          subst e1 e3
          have RY := Lib.hid rY
          clear rY hfd hfl
          by_cases hlt : j < nc
          · obtain ⟨ab, ao, k, va, aa, ra, cv, ca', cr, rfl, hab, hxk, q0, q1, q2, q3, q4, hc⟩ := ConR.at_ (SlK.below ConR.keeps HG2.out HBW.out) hlt
            have HC := Lib.hid (ConR.widens _ _ _ _ _ HBW.out.size hc)
            have HVC := Lib.hid (HCS.out k (List.mem_of_getElem? hxk))
            have HXK := Lib.hid hxk
            clear hc hxk
            go_wp2_with fail
            refine (ssupported _ k _ _ _ ys _ HC.out RY.out HVC.out hn1 hn4 HYD.out).mono ?_
            rintro e w5 ⟨v5, rfl, hh5, hb5⟩
            obtain ⟨B5, c5, rfl⟩ := hh5.form
            have HH5 := Lib.hid (hh5.base_ (base' := wa.heap.size) hbk3.out.size)
            have HBK5 := Lib.hid (hbk3.out.trans (hb5.mono hbk3.out.size))
            clear hh5 hb5 q0 q1 q2 q3 q4 a1
            go_wp2_with fail
            go_roundw
            case rel => exact ⟨j + 1, filF k ys, B5, c5, by omega, by go_num, rfl, HH5, Lib.hid (by rw [foldF_snoc HXK.out, hys.out]), HBK5⟩
            case measure => simp [intOf]; omega
          · obtain rfl : j = nc := by omega
            have hya : ys = foldF m.cons xs := by rw [hys.out, List.take_of_length_le (by rw [HNC.out]; exact Nat.le_refl _)]
            have HYA := Lib.hid hya
            have HMS := Lib.hid (card_step HDX.out hdx.out hne.out)
            have HFS := Lib.hid (fix_step HDX.out hdx.out hz.out hne.out)
            clear hya
            go_wp2_with fail
            go_roundg (card ys)
            case measure => have := HMS.out; rw [← HYA.out] at this; omega
            case rel => exact ⟨ys, _, _, rfl, hh3, Lib.hid (by rw [HYA.out, ← HFS.out]; exact hfx.out), HYD, HYL, Nat.le_refl _, hbk3⟩
      · have HFX := Lib.hid (show fixF m.cons ds = zerosF n by rw [← hfx.out, fix_z (by rw [← zmem_iff]; exact te), hlx.out])
        have TE := Lib.hid te
        clear te
        go_wp2_with fail
        refine (shasEmpty _ _ _ xs _ RX2.out).mono ?_
        rintro e w3 ⟨rfl, rfl⟩
        rw [TE.out]
        go_wp2_with (refine wpList_make_full _ rfl (.tmp 35) (.tmp 35) _ rfl w2.heap.size 3 i0 _ 1 Try.underlying23 hi0 hz0 hz1 .i64 .i64 n n n rfl rfl rfl rfl (by rw [hz2]; omega) (by unfold maxLen; omega) (Nat.le_refl _) ?_; intro w7 hown hgr)
        have hb7 : Below w2.heap.size w2 w7 := (Below.refl _ _).grown hgr (Nat.le_refl _) (by simp)
        have he : (zerosF n).map (Value.int .i64) = (madeCells (Value.int .i64 0).cells (n * 1)).toList := by
          rw [Nat.mul_one]
          show _ = (madeCells #[Value.int .i64 0] n).toList
          rw [toList_madeCells_one]
          simp [zerosF]
        go_ret
        refine ⟨_, rfl, ?_, bgo HB2.out hb7⟩
        rw [HFX.out, he]
        exact (HoldR.of_own (own_base hown (HB2.out).size))
    · have hne := Lib.hid (show foldF m.cons xs = xs from of_decide_eq_true (hst.out.symm.trans ts))
      clear ts
      go_wp2_with fail
      refine (shasEmpty _ _ _ xs _ RX2.out).mono ?_
      rintro e w3 ⟨rfl, rfl⟩
      cases te : decide ((0 : Int) ∈ xs)
      · have HFX := Lib.hid (show fixF m.cons ds = xs by rw [← hfx.out, fix_end (by rw [← zmem_iff]; exact te) hne.out])
        clear te
        go_wp2_with fail
        go_ret
        refine ⟨_, rfl, ?_, HB2.out⟩
        rw [HFX.out]
        exact HH2.out.base_ (by omega)
      · have HFX := Lib.hid (show fixF m.cons ds = zerosF n by rw [← hfx.out, fix_z (by rw [← zmem_iff]; exact te), hlx.out])
        clear te
        go_wp2_with (refine wpList_make_full _ rfl (.tmp 35) (.tmp 35) _ rfl w2.heap.size 3 i0 _ 1 Try.underlying23 hi0 hz0 hz1 .i64 .i64 n n n rfl rfl rfl rfl (by rw [hz2]; omega) (by unfold maxLen; omega) (Nat.le_refl _) ?_; intro w7 hown hgr)
        have hb7 : Below w2.heap.size w2 w7 := (Below.refl _ _).grown hgr (Nat.le_refl _) (by simp)
        have he : (zerosF n).map (Value.int .i64) = (madeCells (Value.int .i64 0).cells (n * 1)).toList := by
          rw [Nat.mul_one]
          show _ = (madeCells #[Value.int .i64 0] n).toList
          rw [toList_madeCells_one]
          simp [zerosF]
        go_ret
        refine ⟨_, rfl, ?_, bgo HB2.out hb7⟩
        rw [HFX.out, he]
        exact (HoldR.of_own (own_base hown (HB2.out).size))
/-- what propagation leaves. -/
def propF (m : Mod) : List Int := if vmodF m then fixF m.cons m.doms else []
theorem prop_yes {m : Mod} (h : vmodF m = true) : propF m = fixF m.cons m.doms := by unfold propF; rw [h]; rfl
theorem prop_no {m : Mod} (h : vmodF m = false) : propF m = [] := by unfold propF; rw [h]; rfl
end Go.Proofs.Ytjpcdbdaimonlaa
/- A row that owns its whole block, with the laws' names of HoldR. -/
namespace Go.Proofs.Ytjpcdbdaimonlaa
open Go.ChangeShapes Go.WideShapes Go.ChangeAt Go.RowKit
open Go.Shelf
set_option linter.unusedVariables false
set_option maxRecDepth 100000

def OwnH (w : World) (base : Nat) (e : TypeId) (size : Nat) (v : Value) (n : Nat) (xs : List Value) : Prop := w.ownsRow base e size v n xs
section
variable {w w' : World} {base base' n size : Nat} {e : TypeId} {v : Value} {xs : List Value}
theorem OwnH.of_own (h : w.ownsRow base e size v n xs) : OwnH w base e size v n xs := h
theorem OwnH.own (h : OwnH w base e size v n xs) : w.ownsRow base e size v n xs := h
theorem OwnH.toH (h : OwnH w base e size v n xs) : HoldR w base e size v n xs := HoldR.of_own h
theorem OwnH.below (h : OwnH w base e size v n xs) (hb : Below w.heap.size w w') : OwnH w' base e size v n xs := own_below h hb
theorem OwnH.base_ (h : OwnH w base e size v n xs) (hb : base' ≤ base) : OwnH w base' e size v n xs := own_base h hb
theorem OwnH.form (h : OwnH w base e size v n xs) : ∃ A c, v = .slice A n c := h.toH.form
theorem OwnH.pos {A : Option Addr} {c : Nat} (h : OwnH w base e size (.slice A n c) n xs) (hn : 0 < n) : ∃ g, A = some ⟨g, 0, none⟩ ∧ base ≤ g ∧ g < w.heap.size := h.toH.pos hn
theorem OwnH.cellAt {g c : Nat} (h : OwnH w base e size (.slice (some ⟨g, 0, none⟩) n c) n xs) (j : Nat) (hj : j < n * size) : w.cell? ⟨g, j, none⟩ = xs[j]? := h.toH.cellAt j hj
theorem OwnH.frozenAt {g c : Nat} (h : OwnH w base e size (.slice (some ⟨g, 0, none⟩) n c) n xs) (j : Nat) : w.frozen? ⟨g, j, none⟩ = false := h.toH.frozenAt j
theorem OwnH.stored {g c : Nat} (h : OwnH w base e size (.slice (some ⟨g, 0, none⟩) n c) n xs) (j : Nat) (u : Value) : OwnH (w.setCell ⟨g, j, none⟩ u) base e size (.slice (some ⟨g, 0, none⟩) n c) n (xs.set j u) := (World.ownsRow.stored (show w.ownsRow base e size (.slice (some ⟨g, 0, none⟩) n c) n xs from h) j u).1
end
theorem IntR.of_ownH {w : World} {n base : Nat} {e : TypeId} {v : Value} {xs : List Int} (h : OwnH w base e 1 v n (xs.map (.int .i64))) (hn : n ≤ 9223372036854775807) : ∃ A c, v = .slice A n c ∧ IntR w w.heap.size A n xs := IntR.of_hold h.toH hn
end Go.Proofs.Ytjpcdbdaimonlaa
/- The reference's filter of one constraint: its result owns its block. -/
namespace Go.Proofs.Ytjpcdbdaimonlaa
open Go.ChangeShapes Go.WideShapes Go.ChangeAt Go.RowKit
open Go.Shelf
set_option linter.unusedVariables false
set_option linter.unusedSimpArgs false
set_option maxRecDepth 100000

set_option maxHeartbeats 16000000 in
theorem ssupportedO (us : List Value) (c : Con) (A : Option Addr) (n d : Nat) (ds : List Int) (w : World) (h : ConR w w.heap.size us c) (hx : IntR w w.heap.size A n ds) (hvc : vconF c n = true) (hn1 : 1 ≤ n) (hl4 : n ≤ 4) (hdoms : Doms ds) :
    Calls Try.prog 59 #[.agg us.toArray, .slice A n d] w fun e w' => ∃ v', e = .returned v' ∧ OwnH w' w.heap.size 3 1 v' n ((filF c ds).map (.int .i64)) ∧ Below w.heap.size w w' := by
  obtain ⟨i0, hi0, hz0, hz1, hz2⟩ := info_parts info_int
  have hl := Lib.hid hx.len
  obtain ⟨va, aa, ra, cv, ca, cr, rfl, hvr, -⟩ := id h
  have hvp := Lib.hid (vcon_vars hvc hl4)
  obtain ⟨m, hm⟩ : ∃ m, c.vars.length = m := ⟨_, rfl⟩
  have hm1 : 1 ≤ m ∧ m ≤ 4 := by have := hvp.out.1; omega
  rw [hm] at hvr
  obtain ⟨Z, hZ, hmk⟩ := make_blk1 (P := Try.prog) 23 3 i0 _ Try.underlying23 hi0 hz0 hz1 rfl m (by rw [hz2]; omega) (by unfold maxLen; omega)
  obtain rfl : Z = ints (List.replicate m 0) := ints_zero hZ
  obtain ⟨wa, hwa⟩ : ∃ wa, wa = w.alloc (.cells #[.int .i64 c.kind, .slice va m cv, .slice aa c.args.length ca, .int .i64 c.bound, .slice ra c.rows.length cr] 53) := ⟨_, rfl⟩
  have hb0 : Below w.heap.size w wa := by rw [hwa]; exact b_alloc _ _
  have ha : CBlk wa w.heap.size (.int .i64 c.kind) (.slice va m cv) (.slice aa c.args.length ca) (.int .i64 c.bound) (.slice ra c.rows.length cr) := by rw [hwa]; exact CBlk.new w _ _ _ _ _
  have hsw : w.heap.size < wa.heap.size := ha.lt
  have HC0 := Lib.hid h
  have HX0 := Lib.hid hx
  have HV0 := Lib.hid hvr
  have HA := Lib.hid ha
  have HM := Lib.hid hm
  have HV := Lib.hid hvc
  have HDM := Lib.hid hdoms
  obtain ⟨a0, a1, a2, a3, a4⟩ := ha.cells
  rw [hm]
  clear ha h hx hvr hZ hm hvc hdoms
  go_enter Try.func59, Try.ntmps59
  go_wp2_with fail
  rw [← hwa]
  clear hwa
  have hSk : ∀ w', Below wa.heap.size wa w' → w'.cell? ⟨w.heap.size, 0, none⟩ = some (.int .i64 c.kind) ∧ w'.cell? ⟨w.heap.size, 1, none⟩ = some (.slice va m cv) ∧ w'.cell? ⟨w.heap.size, 2, none⟩ = some (.slice aa c.args.length ca) ∧ w'.cell? ⟨w.heap.size, 3, none⟩ = some (.int .i64 c.bound) ∧ w'.cell? ⟨w.heap.size, 4, none⟩ = some (.slice ra c.rows.length cr) :=
    fun w' hb => ⟨(hb.cell (p := ⟨_, _, none⟩) hsw).trans a0, (hb.cell (p := ⟨_, _, none⟩) hsw).trans a1, (hb.cell (p := ⟨_, _, none⟩) hsw).trans a2, (hb.cell (p := ⟨_, _, none⟩) hsw).trans a3, (hb.cell (p := ⟨_, _, none⟩) hsw).trans a4⟩
  clear a0 a1 a2 a3 a4
  have hbd : Below wa.heap.size wa wa.drew := below_drewN (Below.refl _ _) 1
  go_region_held3 (fun w' => w'.cell? ⟨w.heap.size, 0, none⟩ = some (.int .i64 c.kind) ∧ w'.cell? ⟨w.heap.size, 1, none⟩ = some (.slice va m cv) ∧ w'.cell? ⟨w.heap.size, 2, none⟩ = some (.slice aa c.args.length ca) ∧ w'.cell? ⟨w.heap.size, 3, none⟩ = some (.int .i64 c.bound) ∧ w'.cell? ⟨w.heap.size, 4, none⟩ = some (.slice ra c.rows.length cr))
    (first | exact hSk _ hbd | exact hSk _ (hbd.alloc (Nat.le_refl _) _) | exact hSk _ ((hbd.alloc (Nat.le_refl _) _).alloc (by simp) _) | exact hSk _ (((hbd.alloc (Nat.le_refl _) _).alloc (by simp) _).alloc (by simp; omega) _))
    (fail)
  · obtain ⟨L, hL⟩ : ∃ L, wa.heap.size = L := ⟨_, rfl⟩
    obtain ⟨W4, hW4⟩ : ∃ W4 : World, (((wa.alloc (.cells (ints (List.replicate m 0)) 3)).alloc (.cells (ints (List.replicate m 0)) 3)).alloc (.cells #[.int .i64 c.kind, .slice va m cv, .slice aa c.args.length ca, .int .i64 c.bound, .slice ra c.rows.length cr, .slice A n d, .slice (some ⟨wa.heap.size, 0, none⟩) m m, .slice (some ⟨wa.heap.size + 1, 0, none⟩) m m] 94)).drew = W4 := ⟨_, rfl⟩
    have hb4 : Below wa.heap.size wa W4 := by rw [← hW4]; exact below_drewN (((b_alloc _ _).alloc (by simp) _).alloc (by simp; omega) _) 1
    have hX4 : TBlk 3 W4 L (ints (List.replicate m 0)) := by rw [← hW4]; exact (((TBlk.newAt hL.symm).alloc_ _).alloc_ _).drewN_ 1
    have hS4 : TBlk 3 W4 (L + 1) (ints (supV c m [])) := by rw [← hW4]; exact ((TBlk.newAt (by simp [hL])).alloc_ _).drewN_ 1
    have hE4 : TBlk 94 W4 (L + 1 + 1) #[.int .i64 c.kind, .slice va m cv, .slice aa c.args.length ca, .int .i64 c.bound, .slice ra c.rows.length cr, .slice A n d, .slice (some ⟨L, 0, none⟩) m m, .slice (some ⟨(L + 1), 0, none⟩) m m] := by rw [← hW4, ← hL]; exact (TBlk.newAt (by simp)).drewN_ 1
    have HB0 := Lib.hid hb0
    have HQ := Lib.hid (And.intro hX4 (And.intro hS4 (And.intro hE4 hb4)))
    rw [hW4, hL]
    have HLL := Lib.hid (And.intro hL hsw)
    clear hX4 hS4 hE4 hW4 hL hb4 hbd hSk hsw hb0 hmk
    go_wp2_with fail
    obtain ⟨hX4, hS4, hE4, hb4⟩ := HQ.out
    have hI := swalk (L + 1 + 1) L (L + 1) m n d c va aa ra cv ca cr ds A wa (ConR.on HC0.out HB0.out) (IntR.on HX0.out HB0.out) HDM.out HV.out hl4 HM.out (by have := HLL.out; exact ⟨by omega, by omega, by omega⟩) (by omega) m [] [] W4 (by simp) (fun j d v _ hv => by simp at hv) hb4 hE4 ⟨_, by simp [ints], hX4, fun j x hj => by simp at hj⟩ hS4 (fun t ht => by simp at ht)
    have HI := Lib.hid hI
    clear hX4 hS4 hE4 hb4 hI HQ
    refine HI.out.mono ?_
    rintro e W5 ⟨⟨v5, rfl⟩, hb5, hE5, -, hS5, hok5⟩
    rw [List.nil_append, extT_nil] at hS5 hok5
    obtain ⟨sup, hsup⟩ : ∃ sup, supV c m (allT (wordF c.vars ds)) = sup := ⟨_, rfl⟩
    rw [hsup] at hS5
    have hsupl : sup.length = m := by rw [← hsup]; exact (supV_ok (c := c) hok5).2
    have HFIL := Lib.hid (show filF c ds = putTo ds c.vars sup m by unfold filF; rw [HM.out, hsup])
    have HSL := Lib.hid hsupl
    have hbw5 : Below w.heap.size w W5 := bgo HB0.out hb5
    have HQ5 := Lib.hid (And.intro hbw5 (And.intro hE5 (And.intro hS5 (HA.out.below hb5 HA.out.lt))))
    have GX5 := Lib.hid (IntR.on HX0.out hbw5)
    clear hb5 hbw5 hE5 hS5 hok5 hsup hsupl HI
    go_wp2_with fail
    refine (scopyRF _ _ _ ds _ GX5.out (by omega) (by omega)).mono ?_
    rintro e w6 ⟨v6, rfl, ho6, hb6⟩
    obtain ⟨A6, c6, rfl⟩ := (OwnH.of_own ho6.1).form
    have h60 : OwnH w6 W5.heap.size 3 1 (.slice A6 n c6) n ((putTo ds c.vars sup 0).map (.int .i64)) := by have := OwnH.of_own ho6.1; rw [hl.out] at this; exact this
    rw [hl.out]
    obtain ⟨g6, rfl, hg6, -⟩ := h60.pos (by omega)
    clear ho6
    have f1 := (HQ5.out.2.2.2.below hb6 HQ5.out.2.2.2.lt).cells.2.1
    have HW6 := Lib.hid (show w.heap.size < W5.heap.size from HQ5.out.2.2.2.lt)
    go_wp2_with fail
    clear f1
    go_loopw [7] (fun t7 wr => ∃ k : Nat, k ≤ m ∧ t7 = .int .i64 k ∧ Hid (OwnH wr W5.heap.size 3 1 (.slice (some ⟨g6, 0, none⟩) n c6) n ((putTo ds c.vars sup k).map (.int .i64))) ∧ Hid (Below W5.heap.size W5 wr)) (fun t7 _ => m - (intOf t7).toNat)
    case atStart => exact ⟨0, by omega, rfl, h60, hb6⟩
    case round =>
      obtain ⟨k, hk, rfl, hhk, hbk⟩ := hrel
      clear h60 hb6
      obtain ⟨q2, q3, q4, q5⟩ := HQ5.out
      have f1 := (q5.below hbk.out q5.lt).cells.2.1
      by_cases hlt : k < m
      · have hsl := HSL.out
        obtain ⟨a, ha⟩ : ∃ a, sup[k]? = some a := ⟨_, List.getElem?_eq_getElem (by omega)⟩
        obtain ⟨vb, vo, v, hva, hvb, hvk, hvc2⟩ := HV0.out.at_ hlt
        obtain ⟨hv0, hvn⟩ := hvp.out.2.1 v (List.mem_of_getElem? hvk)
        obtain ⟨vn, rfl⟩ : ∃ vn : Nat, v = (vn : Int) := ⟨v.toNat, by omega⟩
        have hvn2 : vn < n := by omega
        subst hva
        have e1 : wr.cell? ⟨vb, vo + k, none⟩ = some (.int .i64 vn) := ((hbk.out.cell (p := ⟨vb, _, none⟩) (show vb < W5.heap.size by have := HW6.out; omega)).trans (q2.cell (p := ⟨vb, _, none⟩) hvb)).trans hvc2
        have e2 := (q3.below_ hbk.out q3.lt).at_ 7 rfl
        simp only [List.getElem_toArray, List.getElem_cons_zero, List.getElem_cons_succ] at e2
        have e3 := (q4.below_ hbk.out q4.lt).at_ k (ints_at ha)
        obtain ⟨u, hu⟩ : ∃ u, ((putTo ds c.vars sup k).map (Value.int .i64))[vn]? = some u := ⟨_, List.getElem?_eq_getElem (by rw [List.length_map, putTo_len, hl.out]; exact hvn2)⟩
        have e4 : wr.cell? ⟨g6, vn, none⟩ = some u := by rw [hhk.out.cellAt vn (by omega), hu]
        have e5 : wr.frozen? ⟨g6, vn, none⟩ = false := hhk.out.frozenAt vn
        have hdw : Below wr.heap.size wr wr.drew := below_drewN (Below.refl _ _) 1
        have hst := (hhk.out.below hdw).stored vn (.int .i64 a)
        rw [← List.map_set, ← putTo_succ hvk ha] at hst
        have HST := Lib.hid hst
        have HBS := Lib.hid ((below_drewN hbk.out 1).setCell (p := ⟨g6, vn, none⟩) hg6 (.int .i64 a))
        clear q2 q3 q4 q5 ha hvk hu hst hv0 hvn hsl hdw
        go_wp2_with fail
        go_still_tail 14, (by kernel_rfl)
        go_wp2_with fail
        go_roundw
        case rel => exact ⟨k + 1, by omega, by go_num, HST.out, HBS.out⟩
        case measure => simp [intOf]; omega
      · obtain rfl : k = m := by omega
        clear q3 q4 q5
        go_wp2_with fail
        go_ret
        refine ⟨_, rfl, ?_, q2.trans (hbk.out.mono (by have := HW6.out; omega))⟩
        rw [HFIL.out]
        exact hhk.out.base_ (by have := HW6.out; omega)
  · obtain ⟨L, hL⟩ : ∃ L, wa.heap.size = L := ⟨_, rfl⟩
    obtain ⟨W4, hW4⟩ : ∃ W4 : World, (((wa.alloc (.cells (ints (List.replicate m 0)) 3)).alloc (.cells (ints (List.replicate m 0)) 3)).alloc (.cells #[.int .i64 c.kind, .slice va m cv, .slice aa c.args.length ca, .int .i64 c.bound, .slice ra c.rows.length cr, .slice A n d, .slice (some ⟨wa.heap.size + 1, 0, none⟩) m m, .slice (some ⟨wa.heap.size, 0, none⟩) m m] 94)).drew = W4 := ⟨_, rfl⟩
    have hb4 : Below wa.heap.size wa W4 := by rw [← hW4]; exact below_drewN (((b_alloc _ _).alloc (by simp) _).alloc (by simp; omega) _) 1
    have hX4 : TBlk 3 W4 (L + 1) (ints (List.replicate m 0)) := by rw [← hW4]; exact ((TBlk.newAt (by simp [hL])).alloc_ _).drewN_ 1
    have hS4 : TBlk 3 W4 L (ints (supV c m [])) := by rw [← hW4]; exact (((TBlk.newAt hL.symm).alloc_ _).alloc_ _).drewN_ 1
    have hE4 : TBlk 94 W4 (L + 1 + 1) #[.int .i64 c.kind, .slice va m cv, .slice aa c.args.length ca, .int .i64 c.bound, .slice ra c.rows.length cr, .slice A n d, .slice (some ⟨(L + 1), 0, none⟩) m m, .slice (some ⟨L, 0, none⟩) m m] := by rw [← hW4, ← hL]; exact (TBlk.newAt (by simp)).drewN_ 1
    have HB0 := Lib.hid hb0
    have HQ := Lib.hid (And.intro hX4 (And.intro hS4 (And.intro hE4 hb4)))
    rw [hW4, hL]
    have HLL := Lib.hid (And.intro hL hsw)
    clear hX4 hS4 hE4 hW4 hL hb4 hbd hSk hsw hb0 hmk
    go_wp2_with fail
    obtain ⟨hX4, hS4, hE4, hb4⟩ := HQ.out
    have hI := swalk (L + 1 + 1) (L + 1) L m n d c va aa ra cv ca cr ds A wa (ConR.on HC0.out HB0.out) (IntR.on HX0.out HB0.out) HDM.out HV.out hl4 HM.out (by have := HLL.out; exact ⟨by omega, by omega, by omega⟩) (by omega) m [] [] W4 (by simp) (fun j d v _ hv => by simp at hv) hb4 hE4 ⟨_, by simp [ints], hX4, fun j x hj => by simp at hj⟩ hS4 (fun t ht => by simp at ht)
    have HI := Lib.hid hI
    clear hX4 hS4 hE4 hb4 hI HQ
    refine HI.out.mono ?_
    rintro e W5 ⟨⟨v5, rfl⟩, hb5, hE5, -, hS5, hok5⟩
    rw [List.nil_append, extT_nil] at hS5 hok5
    obtain ⟨sup, hsup⟩ : ∃ sup, supV c m (allT (wordF c.vars ds)) = sup := ⟨_, rfl⟩
    rw [hsup] at hS5
    have hsupl : sup.length = m := by rw [← hsup]; exact (supV_ok (c := c) hok5).2
    have HFIL := Lib.hid (show filF c ds = putTo ds c.vars sup m by unfold filF; rw [HM.out, hsup])
    have HSL := Lib.hid hsupl
    have hbw5 : Below w.heap.size w W5 := bgo HB0.out hb5
    have HQ5 := Lib.hid (And.intro hbw5 (And.intro hE5 (And.intro hS5 (HA.out.below hb5 HA.out.lt))))
    have GX5 := Lib.hid (IntR.on HX0.out hbw5)
    clear hb5 hbw5 hE5 hS5 hok5 hsup hsupl HI
    go_wp2_with fail
    refine (scopyRF _ _ _ ds _ GX5.out (by omega) (by omega)).mono ?_
    rintro e w6 ⟨v6, rfl, ho6, hb6⟩
    obtain ⟨A6, c6, rfl⟩ := (OwnH.of_own ho6.1).form
    have h60 : OwnH w6 W5.heap.size 3 1 (.slice A6 n c6) n ((putTo ds c.vars sup 0).map (.int .i64)) := by have := OwnH.of_own ho6.1; rw [hl.out] at this; exact this
    rw [hl.out]
    obtain ⟨g6, rfl, hg6, -⟩ := h60.pos (by omega)
    clear ho6
    have f1 := (HQ5.out.2.2.2.below hb6 HQ5.out.2.2.2.lt).cells.2.1
    have HW6 := Lib.hid (show w.heap.size < W5.heap.size from HQ5.out.2.2.2.lt)
    go_wp2_with fail
    clear f1
    go_loopw [7] (fun t7 wr => ∃ k : Nat, k ≤ m ∧ t7 = .int .i64 k ∧ Hid (OwnH wr W5.heap.size 3 1 (.slice (some ⟨g6, 0, none⟩) n c6) n ((putTo ds c.vars sup k).map (.int .i64))) ∧ Hid (Below W5.heap.size W5 wr)) (fun t7 _ => m - (intOf t7).toNat)
    case atStart => exact ⟨0, by omega, rfl, h60, hb6⟩
    case round =>
      obtain ⟨k, hk, rfl, hhk, hbk⟩ := hrel
      clear h60 hb6
      obtain ⟨q2, q3, q4, q5⟩ := HQ5.out
      have f1 := (q5.below hbk.out q5.lt).cells.2.1
      by_cases hlt : k < m
      · have hsl := HSL.out
        obtain ⟨a, ha⟩ : ∃ a, sup[k]? = some a := ⟨_, List.getElem?_eq_getElem (by omega)⟩
        obtain ⟨vb, vo, v, hva, hvb, hvk, hvc2⟩ := HV0.out.at_ hlt
        obtain ⟨hv0, hvn⟩ := hvp.out.2.1 v (List.mem_of_getElem? hvk)
        obtain ⟨vn, rfl⟩ : ∃ vn : Nat, v = (vn : Int) := ⟨v.toNat, by omega⟩
        have hvn2 : vn < n := by omega
        subst hva
        have e1 : wr.cell? ⟨vb, vo + k, none⟩ = some (.int .i64 vn) := ((hbk.out.cell (p := ⟨vb, _, none⟩) (show vb < W5.heap.size by have := HW6.out; omega)).trans (q2.cell (p := ⟨vb, _, none⟩) hvb)).trans hvc2
        have e2 := (q3.below_ hbk.out q3.lt).at_ 7 rfl
        simp only [List.getElem_toArray, List.getElem_cons_zero, List.getElem_cons_succ] at e2
        have e3 := (q4.below_ hbk.out q4.lt).at_ k (ints_at ha)
        obtain ⟨u, hu⟩ : ∃ u, ((putTo ds c.vars sup k).map (Value.int .i64))[vn]? = some u := ⟨_, List.getElem?_eq_getElem (by rw [List.length_map, putTo_len, hl.out]; exact hvn2)⟩
        have e4 : wr.cell? ⟨g6, vn, none⟩ = some u := by rw [hhk.out.cellAt vn (by omega), hu]
        have e5 : wr.frozen? ⟨g6, vn, none⟩ = false := hhk.out.frozenAt vn
        have hdw : Below wr.heap.size wr wr.drew := below_drewN (Below.refl _ _) 1
        have hst := (hhk.out.below hdw).stored vn (.int .i64 a)
        rw [← List.map_set, ← putTo_succ hvk ha] at hst
        have HST := Lib.hid hst
        have HBS := Lib.hid ((below_drewN hbk.out 1).setCell (p := ⟨g6, vn, none⟩) hg6 (.int .i64 a))
        clear q2 q3 q4 q5 ha hvk hu hst hv0 hvn hsl hdw
        go_wp2_with fail
        go_still_tail 14, (by kernel_rfl)
        go_wp2_with fail
        go_roundw
        case rel => exact ⟨k + 1, by omega, by go_num, HST.out, HBS.out⟩
        case measure => simp [intOf]; omega
      · obtain rfl : k = m := by omega
        clear q3 q4 q5
        go_wp2_with fail
        go_ret
        refine ⟨_, rfl, ?_, q2.trans (hbk.out.mono (by have := HW6.out; omega))⟩
        rw [HFIL.out]
        exact hhk.out.base_ (by have := HW6.out; omega)
end Go.Proofs.Ytjpcdbdaimonlaa
/- The reference's fixpoint: its result owns its block. -/
namespace Go.Proofs.Ytjpcdbdaimonlaa
open Go.ChangeShapes Go.WideShapes Go.ChangeAt Go.RowKit
open Go.Shelf
set_option linter.unusedVariables false
set_option linter.unusedSimpArgs false
set_option maxRecDepth 100000

set_option maxHeartbeats 1500000 in
theorem sfixpointO (us : List Value) (m : Mod) (ds : List Int) (A : Option Addr) (n d : Nat) (w : World) (h : ModR w w.heap.size us m) (hx : IntR w w.heap.size A n ds) (hn1 : 1 ≤ n) (hn4 : n ≤ 4) (h6 : m.cons.length ≤ 6) (hcs : ∀ c ∈ m.cons, vconF c (n : Int) = true) (hdd : Doms ds) :
    Calls Try.prog 41 #[.agg us.toArray, .slice A n d] w fun e w' => ∃ v', e = .returned v' ∧ OwnH w' w.heap.size 3 1 v' n ((fixF m.cons ds).map (.int .i64)) ∧ Below w.heap.size w w' := by
  obtain ⟨i0, hi0, hz0, hz1, hz2⟩ := info_parts info_int
  have hl := Lib.hid hx.len
  have HDC := Lib.hid (show DiffC m.cons n from fun c hc => vcon_diff (hcs c hc) hn4)
  have HCS := Lib.hid hcs
  have HMR := Lib.hid h
  obtain ⟨da, ca, cd, cc, rfl, g1, g2, -⟩ := id h
  obtain ⟨wa, hwa⟩ : ∃ wa, wa = w.alloc (.cells #[.slice da m.doms.length cd, .slice ca m.cons.length cc] 26) := ⟨_, rfl⟩
  have hb0 : Below w.heap.size w wa := by rw [hwa]; exact b_alloc _ _
  have ha : TBlk 26 wa w.heap.size #[.slice da m.doms.length cd, .slice ca m.cons.length cc] := by rw [hwa]; exact TBlk.new _ _ _
  have HA := Lib.hid ha
  have HX0 := Lib.hid hx
  have HG2 := Lib.hid g2
  have HDD := Lib.hid hdd
  have hsw : w.heap.size < wa.heap.size := ha.lt
  obtain ⟨nc, hnc⟩ : ∃ nc, m.cons.length = nc := ⟨_, rfl⟩
  have HNC := Lib.hid hnc
  have hnc6 : nc ≤ 6 := by omega
  rw [hnc] at HA HG2 hwa HMR ⊢
  clear hx g1 g2 hcs hdd ha h hnc
  go_enter Try.func41, Try.ntmps41
  go_wp2_with fail
  rw [← hwa]
  clear hwa
  refine (scopyRF _ _ _ ds _ (IntR.on HX0.out hb0) (by omega) (by omega)).mono ?_
  rintro e w1 ⟨v1, rfl, o1, hb1⟩
  have h1 := OwnH.of_own o1.1
  rw [hl.out] at h1
  obtain ⟨B1, c1, rfl⟩ := h1.form
  have HH1 := Lib.hid h1
  have HB1 := Lib.hid (show Below wa.heap.size wa w1 from hb1)
  clear o1 h1 hb1
  go_wp2_with fail
  go_loopg [5] (card ds) (fun gk v wr => ∃ (xs : List Int) (B : Option Addr) (c : Nat), v = .slice B n c ∧ Hid (OwnH wr wa.heap.size 3 1 (.slice B n c) n (xs.map (.int .i64))) ∧ Hid (fixF m.cons xs = fixF m.cons ds) ∧ Hid (Doms xs) ∧ Hid (xs.length = n) ∧ card xs ≤ gk ∧ Hid (Below wa.heap.size wa wr))
  case atStart => exact ⟨ds, B1, c1, rfl, HH1, Lib.hid rfl, HDD, hl, Nat.le_refl _, HB1⟩
  case round =>
    obtain ⟨xs, B, c, rfl, hh, hfx, hdx, hlx, hcard, hbk⟩ := hrel
    clear HH1 HB1
    have a0 := (HA.out.below_ hbk.out HA.out.lt).at_ 0 rfl
    have a1 := (HA.out.below_ hbk.out HA.out.lt).at_ 1 rfl
    obtain ⟨B', c', e', rX⟩ := IntR.of_ownH hh.out (by omega)
    injection e' with e1 _ e3
    subst e1 e3
    have RX := Lib.hid rX
    have HBW := Lib.hid (bgo hb0 hbk.out)
    clear rX
    go_wp2_with fail
    refine (sisConsistentD _ m xs _ n _ _ (ModR.on HMR.out HBW.out) RX.out hn1 hn4 h6 HCS.out hdx.out).mono ?_
    rintro e w2 ⟨rfl, hb2⟩
    have HBK2 := Lib.hid (hbk.out.trans (hb2.mono hbk.out.size))
    have RX2 := Lib.hid (IntR.on RX.out hb2)
    have HH2 := Lib.hid (hh.out.below hb2)
    have HB2 := Lib.hid (bgo HBW.out hb2)
    have HDX := Lib.hid (show DiffC m.cons xs.length by rw [hlx.out]; exact HDC.out)
    clear hh hbk RX HBW a0 a1 hb2
    have hst := Lib.hid (still_iff HDX.out hdx.out)
    cases ts : stillF ⟨xs, m.cons⟩
    · have hne := Lib.hid (show foldF m.cons xs ≠ xs from of_decide_eq_false (hst.out.symm.trans ts))
      clear ts
      go_wp2_with fail
      refine (shasEmpty _ _ _ xs _ RX2.out).mono ?_
      rintro e w3 ⟨rfl, rfl⟩
      cases te : decide ((0 : Int) ∈ xs)
      · have hz := Lib.hid (show hasZ xs = false by rw [← zmem_iff]; exact te)
        clear te
        go_wp2_with fail
        go_loopw [5, 6] (fun v i wy => ∃ (j : Nat) (ys : List Int) (B2 : Option Addr) (c2 : Nat), j ≤ nc ∧ i = .int .i64 j ∧ v = .slice B2 n c2 ∧ Hid (OwnH wy wa.heap.size 3 1 (.slice B2 n c2) n (ys.map (.int .i64))) ∧ Hid (ys = foldF (m.cons.take j) xs) ∧ Hid (Below wa.heap.size wa wy)) (fun _ i _ => nc - (intOf i).toNat)
        case atStart => exact ⟨0, xs, _, _, by omega, rfl, rfl, HH2, Lib.hid (by simp [foldF]), HBK2⟩
        case round =>
          obtain ⟨j, ys, B2, c2, hj, rfl, rfl, hh3, hys, hbk3⟩ := hrel
          clear HH2 HBK2 RX2 HB2
          rename World => wy
          have a1 := (HA.out.below_ hbk3.out HA.out.lt).at_ 1 rfl
          have HBW := Lib.hid (bgo hb0 hbk3.out)
          have hfd := foldF_ok (m.cons.take j) xs (fun c hc => HDX.out c (List.mem_of_mem_take hc)) hdx.out
          have hfl := foldF_len (m.cons.take j) xs
          have HYD := Lib.hid (show Doms ys by rw [hys.out]; exact hfd.1)
          have HYL := Lib.hid (show ys.length = n by rw [hys.out, hfl, hlx.out])
          obtain ⟨B', c', e', rY⟩ := IntR.of_ownH hh3.out (by omega)
          injection e' with e1 _ e3
          subst e1 e3
          have RY := Lib.hid rY
          clear rY hfd hfl
          by_cases hlt : j < nc
          · obtain ⟨ab, ao, k, va, aa, ra, cv, ca', cr, rfl, hab, hxk, q0, q1, q2, q3, q4, hc⟩ := ConR.at_ (SlK.below ConR.keeps HG2.out HBW.out) hlt
            have HC := Lib.hid (ConR.widens _ _ _ _ _ HBW.out.size hc)
            have HVC := Lib.hid (HCS.out k (List.mem_of_getElem? hxk))
            have HXK := Lib.hid hxk
            clear hc hxk
            go_wp2_with fail
            refine (ssupportedO _ k _ _ _ ys _ HC.out RY.out HVC.out hn1 hn4 HYD.out).mono ?_
            rintro e w5 ⟨v5, rfl, hh5, hb5⟩
            obtain ⟨B5, c5, rfl⟩ := hh5.form
            have HH5 := Lib.hid (hh5.base_ (base' := wa.heap.size) hbk3.out.size)
            have HBK5 := Lib.hid (hbk3.out.trans (hb5.mono hbk3.out.size))
            clear hh5 hb5 q0 q1 q2 q3 q4 a1
            go_wp2_with fail
            go_roundw
            case rel => exact ⟨j + 1, filF k ys, B5, c5, by omega, by go_num, rfl, HH5, Lib.hid (by rw [foldF_snoc HXK.out, hys.out]), HBK5⟩
            case measure => simp [intOf]; omega
          · obtain rfl : j = nc := by omega
            have hya : ys = foldF m.cons xs := by rw [hys.out, List.take_of_length_le (by rw [HNC.out]; exact Nat.le_refl _)]
            have HYA := Lib.hid hya
            have HMS := Lib.hid (card_step HDX.out hdx.out hne.out)
            have HFS := Lib.hid (fix_step HDX.out hdx.out hz.out hne.out)
            clear hya
            go_wp2_with fail
            go_roundg (card ys)
            case measure => have := HMS.out; rw [← HYA.out] at this; omega
            case rel => exact ⟨ys, _, _, rfl, hh3, Lib.hid (by rw [HYA.out, ← HFS.out]; exact hfx.out), HYD, HYL, Nat.le_refl _, hbk3⟩
      · have HFX := Lib.hid (show fixF m.cons ds = zerosF n by rw [← hfx.out, fix_z (by rw [← zmem_iff]; exact te), hlx.out])
        have TE := Lib.hid te
        clear te
        go_wp2_with fail
        refine (shasEmpty _ _ _ xs _ RX2.out).mono ?_
        rintro e w3 ⟨rfl, rfl⟩
        rw [TE.out]
        go_wp2_with (refine wpList_make_full _ rfl (.tmp 35) (.tmp 35) _ rfl w2.heap.size 3 i0 _ 1 Try.underlying23 hi0 hz0 hz1 .i64 .i64 n n n rfl rfl rfl rfl (by rw [hz2]; omega) (by unfold maxLen; omega) (Nat.le_refl _) ?_; intro w7 hown hgr)
        have hb7 : Below w2.heap.size w2 w7 := (Below.refl _ _).grown hgr (Nat.le_refl _) (by simp)
        have he : (zerosF n).map (Value.int .i64) = (madeCells (Value.int .i64 0).cells (n * 1)).toList := by
          rw [Nat.mul_one]
          show _ = (madeCells #[Value.int .i64 0] n).toList
          rw [toList_madeCells_one]
          simp [zerosF]
        go_ret
        refine ⟨_, rfl, ?_, bgo HB2.out hb7⟩
        rw [HFX.out, he]
        exact (OwnH.of_own (own_base hown (HB2.out).size))
    · have hne := Lib.hid (show foldF m.cons xs = xs from of_decide_eq_true (hst.out.symm.trans ts))
      clear ts
      go_wp2_with fail
      refine (shasEmpty _ _ _ xs _ RX2.out).mono ?_
      rintro e w3 ⟨rfl, rfl⟩
      cases te : decide ((0 : Int) ∈ xs)
      · have HFX := Lib.hid (show fixF m.cons ds = xs by rw [← hfx.out, fix_end (by rw [← zmem_iff]; exact te) hne.out])
        clear te
        go_wp2_with fail
        go_ret
        refine ⟨_, rfl, ?_, HB2.out⟩
        rw [HFX.out]
        exact HH2.out.base_ (by omega)
      · have HFX := Lib.hid (show fixF m.cons ds = zerosF n by rw [← hfx.out, fix_z (by rw [← zmem_iff]; exact te), hlx.out])
        clear te
        go_wp2_with (refine wpList_make_full _ rfl (.tmp 35) (.tmp 35) _ rfl w2.heap.size 3 i0 _ 1 Try.underlying23 hi0 hz0 hz1 .i64 .i64 n n n rfl rfl rfl rfl (by rw [hz2]; omega) (by unfold maxLen; omega) (Nat.le_refl _) ?_; intro w7 hown hgr)
        have hb7 : Below w2.heap.size w2 w7 := (Below.refl _ _).grown hgr (Nat.le_refl _) (by simp)
        have he : (zerosF n).map (Value.int .i64) = (madeCells (Value.int .i64 0).cells (n * 1)).toList := by
          rw [Nat.mul_one]
          show _ = (madeCells #[Value.int .i64 0] n).toList
          rw [toList_madeCells_one]
          simp [zerosF]
        go_ret
        refine ⟨_, rfl, ?_, bgo HB2.out hb7⟩
        rw [HFX.out, he]
        exact (OwnH.of_own (own_base hown (HB2.out).size))
end Go.Proofs.Ytjpcdbdaimonlaa
/- Clauses and the domain of a literal: the reference's functions. -/
namespace Go.Proofs.Ytjpcdbdaimonlaa
open Go.ChangeShapes Go.WideShapes Go.ChangeAt Go.RowKit
open Go.Shelf
set_option linter.unusedVariables false
set_option maxRecDepth 100000

theorem litDom_tab : ∀ v : Fin 6, truesF ⟨0, (v.val : Int), true⟩ = 63 - 2 ^ v.val := by decide +kernel
theorem litDom (l : Ltl) (k : Nat) (hk : k < 6) (h : l.val = (k : Int)) (hn : l.neg = true) : truesF l = 63 - 2 ^ k := by
  have := litDom_tab ⟨k, hk⟩
  unfold truesF at this ⊢
  simp only [h, hn, if_true] at this ⊢
  exact this
theorem literalLess (a b : Ltl) (w : World) : Calls Try.prog 64 #[.agg #[.int .i64 a.var, .int .i64 a.val, .bool a.neg], .agg #[.int .i64 b.var, .int .i64 b.val, .bool b.neg]] w fun e w' => e = .returned (.bool (ltlLess a b)) ∧ Below w.heap.size w w' := by
  have h1 : (a.var != b.var) = !decide (a.var = b.var) := rfl
  have h2 : (a.val != b.val) = !decide (a.val = b.val) := rfl
  by_cases e1 : a.var = b.var
  · by_cases e2 : a.val = b.val
    · have e : ltlLess a b = (!a.neg && b.neg) := by simp [ltlLess, e1, e2]
      rw [e]
      have n1 : (a.var != b.var) = false := by simp [e1]
      have n2 : (a.val != b.val) = false := by simp [e2]
      clear e e1 e2 h1 h2
      cases h : a.neg
      · go_enter Try.func64, Try.ntmps64
        go_wp2
        go_ret
        exact ⟨ret_bool (by simp), b_alloc2 _ _ _⟩
      · go_enter Try.func64, Try.ntmps64
        go_wp2
        go_ret
        exact ⟨ret_bool (by simp), b_alloc2 _ _ _⟩
    · have e : ltlLess a b = decide (a.val < b.val) := by simp [ltlLess, e1, e2]
      rw [e]
      have n1 : (a.var != b.var) = false := by simp [e1]
      have n2 : (a.val != b.val) = true := by simp [e2]
      clear e e1 e2 h1 h2
      go_enter Try.func64, Try.ntmps64
      go_wp2
      go_ret
      exact ⟨rfl, b_alloc2 _ _ _⟩
  · have e : ltlLess a b = decide (a.var < b.var) := by simp [ltlLess, e1]
    rw [e]
    have n1 : (a.var != b.var) = true := by simp [e1]
    clear e e1 h1 h2
    go_enter Try.func64, Try.ntmps64
    go_wp2
    go_ret
    exact ⟨rfl, b_alloc2 _ _ _⟩
theorem literalLess_b (x y : Ltl) (w : World) (b : Bool) (h : ltlLess x y = b) : Calls Try.prog 64 #[.agg #[.int .i64 x.var, .int .i64 x.val, .bool x.neg], .agg #[.int .i64 y.var, .int .i64 y.val, .bool y.neg]] w fun e w' => e = .returned (.bool b) ∧ Below w.heap.size w w' := by
  subst h; exact literalLess x y w
theorem svalidClause (A : Option Addr) (n c : Nat) (m : Int) (xs : List Ltl) (w : World) (h : LitR w w.heap.size A n xs) :
    Calls Try.prog 44 #[.slice A n c, .int .i64 m] w fun e w' => e = .returned (.bool (vclF xs m)) ∧ Below w.heap.size w w' := by
  have hn := h.le
  have hl := Lib.hid h.len
  go_enter Try.func44, Try.ntmps44
  go_wp2_with fail
  go_loopw [5] (fun i wr => ∃ k : Nat, k ≤ n ∧ i = .int .i64 k ∧ Hid (OkTo xs (wrap64 (m - 1)) k) ∧ Below w.heap.size w wr) (fun i _ => n - (intOf i).toNat)
  case atStart => exact ⟨0, by omega, rfl, OkTo.zero _ _, Below.refl _ _⟩
  case round =>
    obtain ⟨k, hk, rfl, hq, hb⟩ := hrel
    by_cases hlt : k < n
    · obtain ⟨ab, ao, x, rfl, hab, hxk, hc0, hc1, hc2⟩ := LitR.at_ (h.below LitC.keeps hb) hlt
      have HX := Lib.hid hxk
      clear hxk
      have hw := hb.size
      have q0 : ∀ p : Later wr, p.val.cell? ⟨ab, ao + k * 3, none⟩ = some (.int .i64 x.var) := fun p => p.cell (by omega) hc0
      have q1 : ∀ p : Later wr, p.val.cell? ⟨ab, ao + k * 3 + 1, none⟩ = some (.int .i64 x.val) := fun p => p.cell (by omega) hc1
      have q2 : ∀ p : Later wr, p.val.cell? ⟨ab, ao + k * 3 + 2, none⟩ = some (.bool x.neg) := fun p => p.cell (by omega) hc2
      cases h1 : inB x.var 0 (wrap64 (m - 1))
      · have H1 := Lib.hid h1
        clear h1
        go_wp2_with fail
        refine wp_region_later (by kernel_rfl) (by kernel_rfl) ?_
        repeat (go_big_quiet_step (first | (go_at_call 19; exact calls_later_same (inRange_b _ _ _ _ _ H1.out))))
        refine wpQuiet_nil ?_
        intro w5 hw'
        obtain ⟨⟨w6, hb5⟩, hw''⟩ := hw'
        subst hw''
        go_wp2_with fail
        go_ret
        exact ⟨ret_bool (vclF_no hl.out hlt (okAt_f HX.out (by rw [H1.out]; rfl))).symm, bgo hb hb5⟩
      · have H1 := Lib.hid h1
        clear h1
        cases h2 : inB x.val 0 5
        · have H2 := Lib.hid h2
          clear h2
          go_wp2_with fail
          refine wp_region_later (by kernel_rfl) (by kernel_rfl) ?_
          repeat (go_big_quiet_step (first | (go_at_call 19; exact calls_later_same (inRange_b _ _ _ _ _ H1.out)) | (go_at_call 19; exact calls_later_same (inRange_b _ _ _ _ _ H2.out))))
          refine wpQuiet_nil ?_
          intro w5 hw'
          obtain ⟨⟨w6, hb5⟩, hw''⟩ := hw'
          subst hw''
          go_wp2_with fail
          go_ret
          exact ⟨ret_bool (vclF_no hl.out hlt (okAt_f HX.out (by rw [H1.out, H2.out]; rfl))).symm, bgo hb hb5⟩
        · have H2 := Lib.hid h2
          clear h2
          by_cases hk0 : k = 0
          · have hd : decide ((0 : Int) < (k : Int)) = false := by simp; omega
            have hd2 : decide (0 < k) = false := by simp; omega
            have H0 := Lib.hid hk0
            clear hk0
            go_wp2_with fail
            refine wp_region_later (by kernel_rfl) (by kernel_rfl) ?_
            repeat (go_big_quiet_step (first | (go_at_call 19; exact calls_later_same (inRange_b _ _ _ _ _ H1.out)) | (go_at_call 19; exact calls_later_same (inRange_b _ _ _ _ _ H2.out))))
            refine wpQuiet_nil ?_
            intro w5 hw'
            obtain ⟨⟨w6, hb5⟩, hw''⟩ := hw'
            subst hw''
            go_wp2_with fail
            go_roundw
            case rel => exact ⟨k + 1, by omega, by go_num, OkTo.succ hq.out ((okAt_z H0.out HX.out).trans (by rw [H1.out, H2.out]; rfl)), bgo hb hb5⟩
            case measure => simp [intOf]; omega
          · have hd : decide ((0 : Int) < (k : Int)) = true := by simp; omega
            have hd2 : decide (0 < k) = true := by simp; omega
            obtain ⟨ab', ao', y, he, -, hyk, hy0, hy1, hy2⟩ := LitR.at_ (i := k - 1) (h.below LitC.keeps hb) (by omega)
            injection he with he
            injection he with e1 e2
            subst e1 e2
            have HY := Lib.hid hyk
            clear hyk
            have r0 : ∀ p : Later wr, p.val.cell? ⟨ab, ao + (k - 1) * 3, none⟩ = some (.int .i64 y.var) := fun p => p.cell (by omega) hy0
            have r1 : ∀ p : Later wr, p.val.cell? ⟨ab, ao + (k - 1) * 3 + 1, none⟩ = some (.int .i64 y.val) := fun p => p.cell (by omega) hy1
            have r2 : ∀ p : Later wr, p.val.cell? ⟨ab, ao + (k - 1) * 3 + 2, none⟩ = some (.bool y.neg) := fun p => p.cell (by omega) hy2
            cases h4 : ltlLess y x
            · have H4 := Lib.hid h4
              clear h4
              go_wp2_with fail
              refine wp_region_later (by kernel_rfl) (by kernel_rfl) ?_
              repeat (go_big_quiet_step (first | (go_at_call 19; exact calls_later_same (inRange_b _ _ _ _ _ H1.out)) | (go_at_call 19; exact calls_later_same (inRange_b _ _ _ _ _ H2.out)) | (go_at_call 64; exact calls_later (literalLess_b _ _ _ _ H4.out))))
              refine wpQuiet_nil ?_
              intro w5 hw'
              obtain ⟨⟨w6, hb5⟩, hw''⟩ := hw'
              subst hw''
              go_wp2_with fail
              go_ret
              exact ⟨ret_bool (vclF_no hl.out hlt ((okAt_p (by omega) HX.out HY.out).trans (by rw [H1.out, H2.out, H4.out]; rfl))).symm, bgo hb hb5⟩
            · have H4 := Lib.hid h4
              clear h4
              go_wp2_with fail
              refine wp_region_later (by kernel_rfl) (by kernel_rfl) ?_
              repeat (go_big_quiet_step (first | (go_at_call 19; exact calls_later_same (inRange_b _ _ _ _ _ H1.out)) | (go_at_call 19; exact calls_later_same (inRange_b _ _ _ _ _ H2.out)) | (go_at_call 64; exact calls_later (literalLess_b _ _ _ _ H4.out))))
              refine wpQuiet_nil ?_
              intro w5 hw'
              obtain ⟨⟨w6, hb5⟩, hw''⟩ := hw'
              subst hw''
              go_wp2_with fail
              go_roundw
              case rel => exact ⟨k + 1, by omega, by go_num, OkTo.succ hq.out ((okAt_p (by omega) HX.out HY.out).trans (by rw [H1.out, H2.out, H4.out]; rfl)), bgo hb hb5⟩
              case measure => simp [intOf]; omega
    · obtain rfl : k = n := by omega
      go_wp2_with fail
      go_ret
      refine ⟨ret_bool ?_, hb⟩
      unfold vclF
      rw [OkTo.done hq.out hl.out, hl.out]
      simp
      omega
theorem literalDomain (x : Ltl) (w : World) (h0 : 0 ≤ x.val) (h1 : x.val ≤ 5) : Calls Try.prog 45 #[.agg #[.int .i64 x.var, .int .i64 x.val, .bool x.neg]] w fun e w' => e = .returned (.int .i64 (truesF x)) ∧ Below w.heap.size w w' := by
  obtain ⟨k, hk, hkv⟩ : ∃ k : Nat, k < 6 ∧ x.val = (k : Int) := ⟨x.val.toNat, by omega, by omega⟩
  have hp := pow_le5 k hk
  cases hn : x.neg
  · have e : truesF x = 2 ^ k := by simp [truesF, hn, hkv]
    rw [e, hkv]
    clear e hkv h0 h1
    go_enter Try.func45, Try.ntmps45
    go_wp2
    go_ret
    exact ⟨rfl, b_alloc _ _⟩
  · have e : truesF x = 63 - 2 ^ k := litDom x k hk hkv hn
    rw [e, hkv]
    clear e hkv h0 h1
    go_enter Try.func45, Try.ntmps45
    go_wp2
    go_ret
    exact ⟨rfl, b_alloc _ _⟩
end Go.Proofs.Ytjpcdbdaimonlaa
/- A region that draws its order: all operations but the last few only read (their callees may lay blocks), the last few come in the order of the text. For whatever class of worlds. -/
namespace Go.Proofs.Ytjpcdbdaimonlaa
open Go.RowKit
set_option linter.unusedVariables false

section
variable {P : Program} {ops : Array Oper} {C : World → Prop}
/-- The head of the region is still under way: what may come up lies below n, and is quiet; at the end L. -/
def HeadQ (P : Program) (ops : Array Oper) (C : World → Prop) (n : Nat) (L : Array Bool → Act → Prop) : Nat → Array Bool → Act → Prop
  | 0, s, a => L s a
  | f + 1, s, a => Region.ready .any ops s ≠ [] ∧ ∀ i ∈ Region.ready .any ops s, i < n ∧ qOp P ops C i (HeadQ P ops C n L f (s.setIfInBounds i true)) a
theorem headQ_any {n g : Nat} {L : Array Bool → Act → Prop} {Q : Exit → Act → World → Prop} (hL : ∀ s a w, C w → L s a → wpAny P .any ops Q g s a w) : ∀ (f : Nat) (s : Array Bool) (a : Act) (w : World), C w → HeadQ P ops C n L f s a → wpAny P .any ops Q (f + g) s a w := by
  intro f
  induction f with
  | zero => intro s a w hw h; rw [Nat.zero_add]; exact hL s a w hw h
  | succ f ih =>
    intro s a w hw h
    rw [Nat.add_right_comm]
    refine ⟨fun e => absurd e h.1, fun i hi => ?_⟩
    exact wpOp_of_qOp hw (fun a' w' hw' h' => ih _ a' w' hw' h') (h.2 i hi).2
/-- What may come up and is quiet may be taken first. -/
theorem headQ_take {n i : Nat} {oi : Oper} {v : Value} {L : Array Bool → Act → Prop} (hi : ops[i]? = some oi) (hsel : ∀ (j : Nat) (o : Oper) cs b, ops[j]? = some o → o.op ≠ .select cs b)
    (hs : Region.sinkB .any ops n = true) (hc : Region.chainB .any ops n = true) (hn : n < ops.size) (hin : i < n) (hL : ∀ s a, L s a → ∀ j ∈ Region.ready .any ops s, n ≤ j) :
    ∀ (f : Nat) (s : Array Bool) (a : Act), HeadInv .any ops n s →
      (∀ j oj, ops[j]? = some oj → j ≠ i → s.getD j true = false → (∀ e ∈ oj.after, Region.binds .any e = true → e.on ≠ i) → oi.apart ops oj = true) →
      i ∈ Region.ready .any ops s → YieldsIn P ops C oi v a → HeadQ P ops C n L f (s.setIfInBounds i true) (a.put oi.dst v) → HeadQ P ops C n L (f + 1) s a := by
  have low : ∀ {s : Array Bool} {j : Nat}, HeadInv .any ops n s → i ∈ Region.ready .any ops s → j ∈ Region.ready .any ops s → j < n := fun {s j} inv hr hj => by
    rcases Nat.lt_or_ge j n with h | h
    · exact h
    · exact absurd hj (tail_waits hs hc hn inv _ i rfl hin (mem_ready.1 hr).1 j h)
  intro f
  induction f with
  | zero =>
    intro s a inv _ hr hy H
    refine ⟨List.ne_nil_of_mem hr, fun j hj => ⟨low inv hr hj, ?_⟩⟩
    by_cases hji : j = i
    · subst hji; exact hy.qOp hi H
    · exact absurd (hL _ _ H j (ready_mono hj hji)) (Nat.not_le.2 (low inv hr hj))
  | succ f ih =>
    intro s a inv hfree hr hy H
    refine ⟨List.ne_nil_of_mem hr, fun j hj => ⟨low inv hr hj, ?_⟩⟩
    by_cases hji : j = i
    · subst hji; exact hy.qOp hi H
    · obtain ⟨hju, oj, hoj, hall⟩ := mem_ready.1 hj
      have hno : ∀ e ∈ oj.after, Region.binds .any e = true → e.on ≠ i := fun e he hb h0 => by
        have h1 := hall e he hb
        rw [h0, getD_both (mem_ready.1 hr).1] at h1
        cases h1
      refine qOp_mono (fun a' h3 => ?_) (qOp_put hoj (hfree j oj hoj hji hju hno) (fun cs b => hsel i oi cs b hi) (fun cs b => hsel j oj cs b hoj) hy (H.2 j (ready_mono hj hji)).2)
      refine ih _ a' (inv.set hj (low inv hr hj)) (fun k ok hk hki hku hk2 => hfree k ok hk hki ?_ hk2) (ready_mono hr (Ne.symm hji)) h3.1 ?_
      · by_cases hjk : j = k
        · subst hjk; exact hju
        · rwa [getD_set_ne true hjk] at hku
      · rw [Array.setIfInBounds_comm _ _ hji]; exact h3.2
theorem headQ_walk {n g : Nat} {E : Act → Prop} (hsel : Region.noSelect ops = true) (hs : Region.sinkB .any ops n = true) (hc : Region.chainB .any ops n = true) (hn : n < ops.size) :
    ∀ (l : List Oper) (k : Nat) (s : Array Bool) (a : Act), (∀ j, j < l.length → l[j]? = ops[k + j]?) → k + l.length = n → HeadInv .any ops n s → Region.lexHead .any ops g l.length k s = true → wpQuiet P ops C E l a →
      HeadQ P ops C n (fun s' a' => Region.seqB .any ops g n s' = true ∧ E a') l.length s a := by
  intro l
  induction l with
  | nil =>
    intro k s a _ hk _ hB h
    obtain rfl : k = n := by simpa using hk
    exact ⟨by simpa [Region.lexHead] using hB, h⟩
  | cons o l ih =>
    intro k s a hl hk inv hB h
    have h0 : ops[k]? = some o := by simpa using (hl 0 (by simp)).symm
    simp only [List.length_cons, Region.lexHead, Bool.and_eq_true] at hB
    rw [List.length_cons] at hk
    have hr : k ∈ Region.ready .any ops s := by simpa using hB.1.1
    obtain ⟨v, hy, hK⟩ := yieldsIn_of_qOp (i := k) h0 (show qOp P ops C k (wpQuiet P ops C E l) a by unfold qOp; simp only [h0]; exact h)
    refine headQ_take h0 (Region.noSelect_spec hsel) hs hc hn (by omega) (fun s' a' hL => seqB_ready hL.1) l.length s a inv (Region.free_spec h0 hB.1.2) hr hy ?_
    exact ih (k + 1) _ _ (fun j hj => by have := hl (j + 1) (by simp; omega); simpa [Nat.add_assoc, Nat.add_comm 1 j] using this) (by omega) (inv.set hr (by omega)) hB.2 hK
end
theorem wp_region_quiet_tail {P : Program} {C : World → Prop} {id : Nat} {Q : Exit → Act → World → Prop} {a : Act} {w : World} {l : List Oper} (n : Nat) (hm : P.follows .mixedOrders = true) (hB : Region.lexTailB .any l.toArray n = true) (hC : C { w with drawn := w.drawn + 1 })
    (h : wpQuiet P l.toArray C (fun a' => ∀ w', C w' → wpList P l.toArray Q (l.drop n) a' w') (l.take n) a) : (Code.region id l.toArray true).wp P Q a w := by
  simp only [Region.lexTailB, Bool.and_eq_true, decide_eq_true_eq] at hB
  obtain ⟨⟨⟨⟨hsel, hn⟩, hs⟩, hc⟩, hlex⟩ := hB
  have hn' : n < l.length := by simpa using hn
  have htl : (l.take n).length = n := by rw [List.length_take]; omega
  have hg : l.toArray.size - n = (l.drop n).length := by simp
  have inv : HeadInv .any l.toArray n (Array.replicate l.toArray.size false) :=
    ⟨by simp, fun j oj _ hl => (by rw [getD_replicate_false] at hl; cases hl), fun t _ ht => getD_in (by simpa using ht) (getD_replicate_false _ _)⟩
  have H := headQ_walk (g := l.toArray.size - n) hsel hs hc hn (l.take n) 0 _ a (fun j hj => by
    rw [htl] at hj
    simp [hj]) (by omega) inv (by rw [htl]; exact hlex) h
  refine wp_region_any hm ?_
  have K := headQ_any (Q := Q) (g := l.toArray.size - n) (fun s a' w' hw' hL => by
    have h1 := hL.1
    rw [hg] at h1 ⊢
    exact wpAny_of_seq (l.drop n) n s a' w' (fun j => by simp [List.getElem?_drop]) h1 (hL.2 w' hw')) (l.take n).length (Array.replicate l.toArray.size false) a _ hC H
  rw [htl, show n + (l.toArray.size - n) = l.toArray.size by omega] at K
  exact K
/-- The same, in worlds where all that lay in w lies untouched. -/
theorem wp_region_later_tail {P : Program} {id : Nat} {Q : Exit → Act → World → Prop} {a : Act} {w : World} {l : List Oper} (n : Nat) (hm : P.follows .mixedOrders = true) (hB : Region.lexTailB .any l.toArray n = true)
    (h : wpQuiet P l.toArray (fun w' => ∃ p : Later w, w' = p.val) (fun a' => ∀ w', (∃ p : Later w, w' = p.val) → wpList P l.toArray Q (l.drop n) a' w') (l.take n) a) : (Code.region id l.toArray true).wp P Q a w :=
  wp_region_quiet_tail (C := fun w' => ∃ p : Later w, w' = p.val) n hm hB ⟨⟨_, below_drewN (Below.refl _ _) 1⟩, rfl⟩ h
end Go.Proofs.Ytjpcdbdaimonlaa
/- New stores and decisions: the reference's functions. -/
namespace Go.Proofs.Ytjpcdbdaimonlaa
open Go.ChangeShapes Go.WideShapes Go.ChangeAt Go.RowKit
open Go.Shelf
set_option linter.unusedVariables false
set_option linter.unusedSimpArgs false
set_option maxRecDepth 100000

theorem OwnH.ints {w : World} {B n : Nat} {v : Value} {xs : List Int} (h : OwnH w B 3 1 v n (xs.map (.int .i64))) (hn : n ≤ 9223372036854775807) : OwnI 3 w B v xs := by
  have hl : xs.length = n := by have := h.1; simpa using this
  subst hl
  exact ⟨h, hn⟩
/-- one row in a fresh block. -/
theorem OwnRows.lit1 {w : World} {B : Nat} {v : Value} {x : List Int} (h : OwnI 3 w B v x) (hB : B ≤ w.heap.size) :
    OwnOf 23 (OwnI 3) (w.alloc (.cells #[v] 23)) B (.slice (some ⟨w.heap.size, 0, none⟩) 1 1) [x] :=
  ⟨[v], rfl, World.ownsRow_lit w #[v] 1 hB (by decide) rfl, by simp, fun i u y hu hy => by
    match i, hu, hy with
    | 0, hu, hy =>
      simp at hu hy
      subst hu hy
      exact (OwnI.stays 3).below _ _ _ _ _ (b_alloc _ _) h
    | i + 1, hu, hy => simp at hu⟩
set_option maxHeartbeats 4000000 in
theorem sNewStore (us : List Value) (m : Mod) (w : World) (h : ModR w w.heap.size us m) (hs : SmMod m) (hv : vmodF m = true) :
    Calls Try.prog 26 #[.agg us.toArray] w fun e w' => ∃ vs : List Value, e = .returned (.agg vs.toArray) ∧ OwnSto w' w.heap.size (.agg vs.toArray) ⟨m, [fixF m.cons m.doms]⟩ ∧ Below w.heap.size w w' := by
  obtain ⟨da, ca, cd, cc, rfl, g1, -⟩ := id h
  obtain ⟨wa, hwa⟩ : ∃ wa, wa = w.alloc (.cells #[.slice da m.doms.length cd, .slice ca m.cons.length cc] 26) := ⟨_, rfl⟩
  obtain ⟨wb, hwb⟩ : ∃ wb, wb = wa.alloc (.cells #[.slice none 0 0, .slice none 0 0, .slice none 0 0] 29) := ⟨_, rfl⟩
  have hb0 : Below w.heap.size w wa := by rw [hwa]; exact b_alloc _ _
  have hsa : wa.heap.size = w.heap.size + 1 := by rw [hwa, size_alloc_]
  have hb1 : Below wa.heap.size wa wb := by rw [hwb]; exact b_alloc _ _
  have hsb : wb.heap.size = w.heap.size + 1 + 1 := by rw [hwb, size_alloc_, hsa]
  have hb01 := bgo hb0 hb1
  have HA : Hid (TBlk 26 wb w.heap.size #[.slice da m.doms.length cd, .slice ca m.cons.length cc]) := TBlk.below_ (by rw [hwa]; exact TBlk.new _ _ _) hb1 (by omega)
  have HR : Hid (TBlk 29 wb (w.heap.size + 1) #[.slice none 0 0, .slice none 0 0, .slice none 0 0]) := by rw [hwb, ← hsa]; exact TBlk.new _ _ _
  have GM := Lib.hid (ModR.on h hb01)
  have G1 := Lib.hid (IntR.on g1 hb01)
  have HM := Lib.hid (ModOk.of hv)
  have SM := Lib.hid hs
  have HV := Lib.hid hv
  have a0 : wb.cell? ⟨w.heap.size, 0, none⟩ = some (.slice da m.doms.length cd) := HA.out.at_ 0 rfl
  have a1 : wb.cell? ⟨w.heap.size, 1, none⟩ = some (.slice ca m.cons.length cc) := HA.out.at_ 1 rfl
  clear h g1 hs hv hb0 hb1
  go_enter Try.func26, Try.ntmps26
  go_wp2_with fail
  rw [← hwa, ← hwb]
  clear hwa hwb
  have HSB := Lib.hid hsb
  clear hsb hsa
  refine (svalidModel _ m _ GM.out).mono ?_
  rintro e w1 ⟨rfl, hb1⟩
  rw [HV.out]
  have hzb := HSB.out
  have hz1 := hb1.size
  have hA1 := Lib.hid (HA.out.below_ hb1 (by omega))
  have hR1 := Lib.hid (HR.out.below_ hb1 (by omega))
  have hB1 := Lib.hid (bgo hb01 hb1)
  have hd1 : Below w1.heap.size w1 w1.drew := Below.drew_ (Below.refl _ _)
  have hS : ∀ w', Below w1.heap.size w1 w' → (w'.cell? ⟨w.heap.size, 0, none⟩ = some (.slice da m.doms.length cd) ∧ w'.cell? ⟨w.heap.size, 1, none⟩ = some (.slice ca m.cons.length cc)) := fun w' h => by
    have t := hA1.out.below_ h (by omega)
    exact ⟨t.at_ 0 rfl, t.at_ 1 rfl⟩
  have hS0 := hS _ hd1
  have GM1 := Lib.hid (ModR.on GM.out (bgo hb1 hd1))
  have G11 := Lib.hid (IntR.on G1.out (bgo hb1 hd1))
  clear a0 a1 hb1
  go_wp2_with fail
  go_region_held3 (fun w' => w'.cell? ⟨w.heap.size, 0, none⟩ = some (.slice da m.doms.length cd) ∧ w'.cell? ⟨w.heap.size, 1, none⟩ = some (.slice ca m.cons.length cc))
    (first | with_reducible exact hS0 | with_reducible assumption)
    (first
      | (go_at_call 41
         have hq := hS4
         refine (sfixpointO [.slice da m.doms.length cd, .slice ca m.cons.length cc] m m.doms da m.doms.length cd W4 (ModR.on GM1.out hB4) (IntR.on G11.out hB4) HM.out.one HM.out.four HM.out.six HM.out.cons HM.out.doms).mono ?_
         rintro e W6 ⟨v6, rfl, h6, hB6⟩
         have h6i := OwnH.ints h6 (by have := HM.out.four; omega)
         obtain ⟨A6, d6, rfl⟩ := h6.form
         have hb6 := bgo hb4 hB6
         have hS6 := hS _ hb6
         have hb7 : Below w1.heap.size w1 (W6.alloc (.cells #[.slice A6 m.doms.length d6] 23)) := bgo hb6 (b_alloc _ _)
         obtain ⟨W7, hW7⟩ : ∃ W7, W6.alloc (.cells #[.slice A6 m.doms.length d6] 23) = W7 := ⟨_, rfl⟩
         rw [hW7] at hb7
         have hS7 := hS _ hb7
         obtain ⟨g7, hg7⟩ : ∃ g7, W6.heap.size = g7 := ⟨_, rfl⟩
         have hR7 := hR1.out.below_ hb7 (by omega)
         have y0 := hR7.at_ 0 rfl
         have y1 := hR7.at_ 1 rfl
         have y2 := hR7.at_ 2 rfl
         have f0 := hR7.frozen 0
         have f1 := hR7.frozen 1
         have f2 := hR7.frozen 2
         have hA7 := hA1.out.below_ hb7 (by omega)
         obtain ⟨W8, hW8⟩ : ∃ W8, ((W7.setCell ⟨w.heap.size + 1, 0, none⟩ (.slice A n c)).setCell ⟨w.heap.size + 1, 1, none⟩ (.slice B kk d)).setCell ⟨w.heap.size + 1, 2, none⟩ (.slice (some ⟨g7, 0, none⟩) 1 1) = W8 := ⟨_, rfl⟩
         have hR8 : TBlk 29 W8 (w.heap.size + 1) #[.slice A n c, .slice B kk d, .slice (some ⟨g7, 0, none⟩) 1 1] := by rw [← hW8]; exact ((hR7.store 0 _).store 1 _).store 2 _
         have hA8 : TBlk 26 W8 w.heap.size #[.slice da m.doms.length cd, .slice ca m.cons.length cc] := by rw [← hW8]; exact ((hA7.far (by omega)).far (by omega)).far (by omega)
         have hS8 : (W8.cell? ⟨w.heap.size, 0, none⟩ = some (.slice da m.doms.length cd) ∧ W8.cell? ⟨w.heap.size, 1, none⟩ = some (.slice ca m.cons.length cc)) := ⟨hA8.at_ 0 rfl, hA8.at_ 1 rfl⟩)
      | (go_at_call 34
         refine (scopyMod _ m _ GM1.out SM.out).mono ?_
         rintro e W4 ⟨rs4, rfl, h4, hB4⟩
         obtain ⟨A, n, c, B, kk, d, rfl, -⟩ := OwnModL.shape h4
         have hb4 := bgo hd1 hB4
         have hS4 := hS _ hb4))
  all_goals
    have hz4 := hB4.size
    have hz0 : w1.drew.heap.size = w1.heap.size := rfl
    have hz6 := hB6.size
    have hown7 : OwnSto W7 w.heap.size (.agg #[.slice A n c, .slice B kk d, .slice (some ⟨g7, 0, none⟩) 1 1]) ⟨m, [fixF m.cons m.doms]⟩ := by
      refine ⟨_, _, _, rfl, ?_, ?_⟩
      · exact (OwnMod.below h4 (by rw [← hW7]; exact bgo hB6 (b_alloc _ _))).base_ (by omega)
      · rw [← hW7, ← hg7]
        exact OwnRows.lit1 ((OwnI.stays 3).base _ _ _ _ _ (by omega) h6i) (by omega)
    have hown8 : OwnSto W8 w.heap.size (.agg #[.slice A n c, .slice B kk d, .slice (some ⟨g7, 0, none⟩) 1 1]) ⟨m, [fixF m.cons m.doms]⟩ := by
      rw [← hW8]
      exact ((hown7.set (by decide) (by decide) (by decide) hR7).set (by decide) (by decide) (by decide) (hR7.store 0 _)).set (by decide) (by decide) (by decide) ((hR7.store 0 _).store 1 _)
    have hbf : Below w.heap.size w W8 := by
      rw [← hW8]
      exact (((hB1.out.trans (hb7.mono (by omega))).setCell (p := ⟨w.heap.size + 1, 0, none⟩) (by simp) _).setCell (p := ⟨w.heap.size + 1, 1, none⟩) (by simp) _).setCell (p := ⟨w.heap.size + 1, 2, none⟩) (by simp) _
    have FIN := Lib.hid (And.intro hown8 hbf)
    have r0 := hR8.at_ 0 rfl
    have r1 := hR8.at_ 1 rfl
    have r2 := hR8.at_ 2 rfl
    clear hown7 hown8 hbf hR7 hR8 hA7 hA8 hW8
    go_wp2_with fail
    exact bodyPost_ret (v := .agg #[.slice A n c, .slice B kk d, .slice (some ⟨g7, 0, none⟩) 1 1]) (by simp [results, Try.results26, go_sem, r0, r1, r2]) rfl ⟨[.slice A n c, .slice B kk d, .slice (some ⟨g7, 0, none⟩) 1 1], rfl, FIN.out.1, FIN.out.2⟩
theorem vsto_parts {s : Sto} (h : vstoF s = true) : ModOk s.model ∧ vmodF s.model = true ∧ (∀ d ∈ s.levels, d.length = s.model.doms.length ∧ Doms d) ∧ 1 ≤ s.levels.length ∧ s.levels.length ≤ 12 := by
  unfold vstoF at h
  simp only [Bool.and_eq_true, List.all_eq_true] at h
  obtain ⟨h1, h2, h3⟩ := h
  have h4 := inB_true h3
  refine ⟨ModOk.of h2, h2, fun d hd => ?_, by omega, by omega⟩
  have h5 := h1 d hd
  unfold lvlF dokF at h5
  simp only [Bool.and_eq_true, List.all_eq_true, beq_iff_eq] at h5
  exact ⟨by have := h5.1; omega, fun x hx => inB_true (h5.2.2 x hx)⟩
theorem lvl_of {m : Mod} {d : List Int} (hm : ModOk m) (hl : d.length = m.doms.length) (hd : Doms d) : lvlF m d = true := by
  unfold lvlF dokF
  simp only [Bool.and_eq_true, List.all_eq_true, beq_iff_eq]
  have := hm.one
  have := hm.four
  exact ⟨by omega, inB_mk (by omega), fun x hx => inB_mk (hd x hx)⟩
theorem vsto_snoc {s : Sto} {d : List Int} (h : vstoF s = true) (h12 : s.levels.length < 12) (hl : d.length = s.model.doms.length) (hd : Doms d) : vstoF ⟨s.model, s.levels ++ [d]⟩ = true := by
  obtain ⟨p1, p2, p3, p4, p5⟩ := vsto_parts h
  unfold vstoF
  simp only [Bool.and_eq_true, List.all_eq_true]
  refine ⟨fun y hy => ?_, p2, inB_mk (by simp; omega)⟩
  rcases List.mem_append.1 hy with h1 | h1
  · exact lvl_of p1 (p3 y h1).1 (p3 y h1).2
  · rw [List.mem_singleton.1 h1]; exact lvl_of p1 hl hd
theorem vsto_new {m : Mod} (h : vmodF m = true) : vstoF ⟨m, [fixF m.cons m.doms]⟩ = true := by
  have hm := ModOk.of h
  have hD : DiffC m.cons m.doms.length := fun c hc => vcon_diff (hm.cons c hc) hm.four
  unfold vstoF
  simp only [Bool.and_eq_true, List.all_eq_true]
  refine ⟨fun y hy => ?_, h, inB_mk (by simp)⟩
  rw [List.mem_singleton.1 hy]
  exact lvl_of hm (fix_len hD hm.doms) (fix_doms hD hm.doms)
theorem dtrues_tab : ∀ (v : Fin 6) (b : Bool), 0 ≤ truesF ⟨0, (v.val : Int), b⟩ ∧ truesF ⟨0, (v.val : Int), b⟩ ≤ 63 := by decide +kernel
theorem trues_dom (x : Ltl) (h0 : 0 ≤ x.val) (h1 : x.val ≤ 5) : 0 ≤ truesF x ∧ truesF x ≤ 63 := by
  obtain ⟨k, hk, hkv⟩ : ∃ k : Nat, k < 6 ∧ x.val = (k : Int) := ⟨x.val.toNat, by omega, by omega⟩
  have := dtrues_tab ⟨k, hk⟩ x.neg
  unfold truesF at this ⊢
  rw [hkv]
  exact this
theorem vcl_one {x : Ltl} {n : Int} (hn : 1 ≤ n) (hn4 : n ≤ 4) (h0 : 0 ≤ x.var) (h1 : x.var < n) (h2 : 0 ≤ x.val) (h3 : x.val ≤ 5) : vclF [x] n = true := by
  unfold vclF
  have hw : wrap64 (n - 1) = n - 1 := IntWalk.wrap64_in _ ⟨by omega, by omega⟩
  rw [hw, Bool.and_eq_true]
  refine ⟨OkTo.done (n := 1) (fun i hi => ?_) rfl, by simp⟩
  obtain rfl : i = 0 := by omega
  rw [okAt_z rfl (x := x) (by rfl)]
  rw [inB_mk (show (0 : Int) ≤ x.var ∧ x.var ≤ n - 1 by omega), inB_mk (show (0 : Int) ≤ x.val ∧ x.val ≤ 5 by omega)]
  rfl
end Go.Proofs.Ytjpcdbdaimonlaa
/- A drawn store: what one number, stored or appended, leaves of it. -/
namespace Go.Proofs.Ytjpcdbdaimonlaa
open Go.ChangeShapes Go.WideShapes Go.ChangeAt Go.RowKit
open Go.Shelf
set_option linter.unusedVariables false
set_option linter.unusedSimpArgs false
set_option maxRecDepth 100000

theorem OwnSto.butG {w w' : World} {base g : Nat} {v : Value} {s : Sto} (h : OwnSto w base v s) (hb : ButG g w.heap.size w w') (hg : g < base) : OwnSto w' base v s := by
  obtain ⟨dv, cv, lv, e, h1, h2⟩ := h
  exact ⟨dv, cv, lv, e, OwnMod.butG h1 hb hg, OwnRows.butG h2 hb hg⟩
theorem OwnSto.shape {w : World} {B : Nat} {us : List Value} {s : Sto} (h : OwnSto w B (.agg us.toArray) s) : ∃ (A : Option Addr) (c : Nat) (A' : Option Addr) (c' : Nat) (L : Option Addr) (q : Nat), us = [.slice A s.model.doms.length c, .slice A' s.model.cons.length c', .slice L s.levels.length q] := by
  obtain ⟨dv, cv, lv, e, ⟨dv', cv', e2, h1, h2⟩, h3⟩ := h
  injection e2 with e2
  have e2 : [dv, cv] = [dv', cv'] := List.toArray_inj e2
  simp only [List.cons.injEq, and_true] at e2
  obtain ⟨rfl, rfl⟩ := e2
  obtain ⟨A, c, rfl⟩ := OwnI.form h1
  obtain ⟨A', c', rfl⟩ := OwnK.form h2
  obtain ⟨L, q, rfl⟩ := OwnOf.form h3
  injection e with e
  exact ⟨A, c, A', c', L, q, List.toArray_inj e⟩
/-- a small model, and few levels of few numbers. -/
def SzS (s : Sto) : Prop := SzM s.model ∧ s.levels.length ≤ 12 ∧ ∀ x ∈ s.levels, x.length ≤ 1000
theorem SzS.sm {s : Sto} (h : SzS s) : SmSto s := ⟨h.1.sm, by have := h.2.1; exact Nat.le_trans this (by decide), fun x hx => Nat.le_trans (h.2.2 x hx) (by decide)⟩
theorem SzS.of {s : Sto} (h : SzM s.model) (hv : vstoF s = true) : SzS s := by
  obtain ⟨-, -, h3, -, h5⟩ := vsto_parts hv
  exact ⟨h, h5, fun x hx => by rw [(h3 x hx).1]; have := h.2.1; omega⟩
theorem OwnMod.any {w : World} {B gD j : Nat} {v : Value} {m : Mod} {cs : Array Value} (x : Int) (hb : TBlk 3 w gD cs) (h : OwnMod w B v m) : ∃ m', OwnMod (w.setCell ⟨gD, j, none⟩ (.int .i64 x)) B v m' ∧ m'.doms.length = m.doms.length ∧ (SzM m → SzM m') := by
  obtain ⟨dv, cv, e, h1, h2⟩ := h
  obtain ⟨ds, o1, l1⟩ := OwnI.any (j := j) x hb h1
  obtain ⟨cs', o2, l2, s2⟩ := OwnCons.any (j := j) x hb h2
  exact ⟨⟨ds, cs'⟩, ⟨_, _, e, o1, o2⟩, l1, fun hz => ⟨by show 1 ≤ ds.length; rw [l1]; exact hz.1, by show ds.length ≤ 4; rw [l1]; exact hz.2.1, by show cs'.length ≤ 4; rw [l2]; exact hz.2.2.1, s2 hz.2.2.2⟩⟩
theorem OwnSto.any {w : World} {B gD j : Nat} {v : Value} {s : Sto} {cs : Array Value} (x : Int) (hb : TBlk 3 w gD cs) (h : OwnSto w B v s) : ∃ s', OwnSto (w.setCell ⟨gD, j, none⟩ (.int .i64 x)) B v s' ∧ (SzS s → SzS s') := by
  obtain ⟨dv, cv, lv, e, h1, h2⟩ := h
  obtain ⟨m', o1, l1, s1⟩ := OwnMod.any (j := j) x hb h1
  obtain ⟨rs, o2, l2, s2⟩ := OwnRows.any (j := j) x hb h2
  exact ⟨⟨m', rs⟩, ⟨dv, cv, lv, e, o1, o2⟩, fun hz => ⟨s1 hz.1, by show rs.length ≤ 12; rw [l2]; exact hz.2.1, s2 1000 hz.2.2⟩⟩
/-- whatever own row is stored into a block of rows: what is owned stays owned, and as long. -/
theorem OwnRows.anyR {w : World} {B b j : Nat} {v u : Value} {rows : List (List Int)} {y : List Int} {cs : Array Value} (hb : TBlk 23 w b cs) (hy : OwnI 3 w B u y) (h : OwnOf 23 (OwnI 3) w B v rows) :
    ∃ rows', OwnOf 23 (OwnI 3) (w.setCell ⟨b, j, none⟩ u) B v rows' ∧ rows'.length = rows.length ∧ ∀ m, y.length ≤ m → RowsLe m rows → RowsLe m rows' := by
  have hk : ∀ u' x', OwnI 3 w B u' x' → OwnI 3 (w.setCell ⟨b, j, none⟩ u) B u' x' := fun u' x' ho => OwnI.shuns (show (23 : TypeId) ≠ 3 by decide) _ _ _ _ _ j _ _ _ hb ho
  obtain ⟨us, h1, h2, h3, h4⟩ := h
  have h2' := id h2
  rcases h2.2 with ⟨rfl, h0⟩ | ⟨g', cap, cur, rfl, hg, hh, hcap, hmax, hsz, ht⟩
  · exact ⟨rows, ⟨us, h1, ⟨h2.1, .inl ⟨rfl, h0⟩⟩, h3, fun i u' x' hu hx => hk _ _ (h4 _ _ _ hu hx)⟩, rfl, fun m _ hm => hm⟩
  · by_cases e : g' = b
    · subst e
      refine ⟨rows.set j y, ⟨us.set j u, by rw [List.length_set, List.length_set, h1], by rw [List.length_set]; exact (h2'.stored j u).1, by rw [List.length_set]; exact h3, fun i u' x' hu hx => ?_⟩, List.length_set, fun m hm hr z hz => ?_⟩
      · by_cases ij : j = i
        · subst ij
          have hl := (List.getElem?_eq_some_iff.1 hu).1
          rw [List.length_set] at hl
          rw [List.getElem?_set_self (by omega)] at hu hx
          injection hu with hu
          injection hx with hx
          subst hu hx
          exact hk _ _ hy
        · rw [List.getElem?_set_ne ij] at hu hx
          exact hk _ _ (h4 _ _ _ hu hx)
      · rcases List.mem_or_eq_of_mem_set hz with h | h
        · exact hr z h
        · rw [h]; exact hm
    · refine ⟨rows, ⟨us, h1, ⟨h2.1, .inr ⟨g', cap, cur, rfl, hg, ?_, hcap, hmax, hsz, ht⟩⟩, h3, fun i u' x' hu hx => hk _ _ (h4 _ _ _ hu hx)⟩, rfl, fun m _ hm => hm⟩
      rw [Below.heap_setCell _ _ _ _ (by exact e)]
      exact hh
theorem OwnConU.anyR {w : World} {B b j : Nat} {us : List Value} {u : Value} {k : Con} {y : List Int} {cs : Array Value} (hb : TBlk 23 w b cs) (hy : OwnI 3 w B u y) (hy8 : y.length ≤ 8) (h : OwnConU w B us k) : ∃ k', OwnConU (w.setCell ⟨b, j, none⟩ u) B us k' ∧ (SmD k → SmD k') := by
  obtain ⟨vv, av, rv, e, o1, o2, o3⟩ := h
  obtain ⟨x3, a3, b3, d3⟩ := OwnRows.anyR (j := j) hb hy o3
  exact ⟨⟨k.kind, k.vars, k.args, k.bound, x3⟩, ⟨vv, av, rv, e, OwnI.shuns (show (23 : TypeId) ≠ 3 by decide) _ _ _ _ _ j _ _ _ hb o1, OwnI.shuns (show (23 : TypeId) ≠ 3 by decide) _ _ _ _ _ j _ _ _ hb o2, a3⟩, fun hs => ⟨hs.1, hs.2.1, by show x3.length ≤ 8; rw [b3]; exact hs.2.2.1, d3 8 hy8 hs.2.2.2⟩⟩
theorem OwnCons.anyR {w : World} {B b j : Nat} {v u : Value} {xs : List Con} {y : List Int} {cs : Array Value} (hb : TBlk 23 w b cs) (hy : OwnI 3 w B u y) (hy8 : y.length ≤ 8) (h : OwnCons w B v xs) : ∃ xs', OwnCons (w.setCell ⟨b, j, none⟩ u) B v xs' ∧ xs'.length = xs.length ∧ ((∀ k ∈ xs, SmD k) → ∀ k ∈ xs', SmD k) := by
  obtain ⟨uss, h1, h0, h2, h3, h4⟩ := h
  obtain ⟨l, hl, hq⟩ := list_of xs.length (fun i (k : Con) => ∀ us z, uss[i]? = some us → xs[i]? = some z → OwnConU (w.setCell ⟨b, j, none⟩ u) B us k ∧ (SmD z → SmD k)) (fun i hi => by
    obtain ⟨ys, p, q⟩ := (h4 i _ _ (List.getElem?_eq_getElem (by omega)) (List.getElem?_eq_getElem hi)).anyR (j := j) hb hy hy8
    refine ⟨ys, fun us z hu hz => ?_⟩
    rw [List.getElem?_eq_getElem (by omega)] at hu
    rw [List.getElem?_eq_getElem hi] at hz
    injection hu with hu
    injection hz with hz
    subst hu hz
    exact ⟨p, q⟩)
  refine ⟨l, ⟨uss, by omega, h0, by rw [hl]; exact own_shun (by decide) j _ hb h2, by omega, fun i us k hu hk => ?_⟩, hl, fun hm k hk => ?_⟩
  · have hi : i < xs.length := by
      rw [← hl]; exact (List.getElem?_eq_some_iff.1 hk).1
    exact (hq i k hk us _ hu (List.getElem?_eq_getElem hi)).1
  · obtain ⟨i, hi, e⟩ := List.getElem_of_mem hk
    have hi2 : i < xs.length := by omega
    exact (hq i k (by rw [List.getElem?_eq_getElem hi, e]) _ _ (List.getElem?_eq_getElem (show i < uss.length by omega)) (List.getElem?_eq_getElem hi2)).2 (hm _ (List.getElem_mem hi2))
theorem OwnSto.anyR {w : World} {B b j : Nat} {v u : Value} {s : Sto} {y : List Int} {cs : Array Value} (hb : TBlk 23 w b cs) (hy : OwnI 3 w B u y) (hy8 : y.length ≤ 8) (h : OwnSto w B v s) : ∃ s', OwnSto (w.setCell ⟨b, j, none⟩ u) B v s' ∧ (SzS s → SzS s') := by
  obtain ⟨dv, cv, lv, e, ⟨dv', cv', e2, o1, o2⟩, o3⟩ := h
  obtain ⟨ks, p2, l2, q2⟩ := OwnCons.anyR (j := j) hb hy hy8 o2
  obtain ⟨rs, p3, l3, q3⟩ := OwnRows.anyR (j := j) hb hy o3
  exact ⟨⟨⟨s.model.doms, ks⟩, rs⟩, ⟨dv, cv, lv, e, ⟨dv', cv', e2, OwnI.shuns (show (23 : TypeId) ≠ 3 by decide) _ _ _ _ _ j _ _ _ hb o1, p2⟩, p3⟩, fun hz => ⟨⟨hz.1.1, hz.1.2.1, by show ks.length ≤ 4; rw [l2]; exact hz.1.2.2.1, q2 hz.1.2.2.2⟩, by show rs.length ≤ 12; rw [l3]; exact hz.2.1, q3 1000 (by omega) hz.2.2⟩⟩
/-- the first of the rows. -/
theorem OwnRows.head {w : World} {B m c : Nat} {L : Option Addr} {rows : List (List Int)} {x : List Int} (hm : rows.length = m) (h : OwnOf 23 (OwnI 3) w B (.slice L m c) rows) (hx : rows[0]? = some x) (h1 : 1 ≤ x.length) :
    ∃ b gR c0 : Nat, L = some ⟨b, 0, none⟩ ∧ B ≤ b ∧ B ≤ gR ∧ (∃ cs, TBlk 23 w b cs) ∧ w.cell? ⟨b, 0, none⟩ = some (.slice (some ⟨gR, 0, none⟩) x.length c0) ∧ OwnI 3 w B (.slice (some ⟨gR, 0, none⟩) x.length c0) x ∧
      ∃ cs, TBlk 3 w gR cs ∧ cs.size = c0 ∧ x.length ≤ c0 ∧ ∀ (k : Nat) y, x[k]? = some y → cs[k]? = some (.int .i64 y) := by
  obtain ⟨us, l1, h2, h3, h4⟩ := h
  have hl := (List.getElem?_eq_some_iff.1 hx).1
  subst hm
  rcases id h2.2 with ⟨_, h5⟩ | ⟨b, cap, cur, hv, hb, hh, -⟩
  · omega
  injection hv with e1 e2 e3
  subst e1
  obtain ⟨u, hu⟩ : ∃ u, us[0]? = some u := ⟨us[0], List.getElem?_eq_getElem (by omega)⟩
  have hR := h4 0 u x hu hx
  have hc := h2.cells (g := b) rfl 0 u hu
  rw [add_own] at hc
  rcases id hR.1.2 with ⟨rfl, h6⟩ | ⟨gR, cR, cuR, rfl, hgR, hhR, hcR, hmR, hsR, htR⟩
  · omega
  · obtain ⟨g', c', cur', e', -, t', k'⟩ := own_blk_int hR.1 h1
    injection e' with e4 _ e6
    injection e4 with e4
    injection e4 with e4 _ _
    subst e4
    have ec : cur' = cuR := by
      have : some (Obj.cells cur' 3 (0, 0)) = some (.cells cuR 3 (0, 0)) := t'.symm.trans hhR
      injection this with this
      injection this
    subst ec
    exact ⟨b, gR, cR, rfl, hb, hgR, ⟨cur, hh⟩, hc, hR, cur', t', by rw [hsR, Nat.mul_one], hcR, k'⟩
/-- append of one number to an own row: in place, or in a new block. -/
theorem step_push_any {ops : Array Oper} {o : Oper} {a : Act} {w : World} {K : Act → World → Prop} {Q : Exit → Act → World → Prop} {E : Prop} (i0 : TypeInfo) (hi0 : Try.prog.info? 3 = some i0) (hz0 : i0.zero = some (.int .i64 0)) (hz1 : i0.size = 1) (hz2 : i0.bytes = 8)
    (hgd : o.guard = none) (s x : Operand) (ho : o.op = .call { callee := .builtin .append, args := #[s, x], argTypes := #[ 23, 23 ] })
    (B g n c : Nat) (xs : List Int) (v : Int) (cs : Array Value) (hs : a.eval s = .slice (some ⟨g, 0, none⟩) n c) (hx : a.eval x = .slice (some ⟨w.heap.size, 0, none⟩) 1 1) (hn : xs.length = n) (hn1 : n ≤ 1000)
    (hc : TBlk 3 w g cs) (hm : cs.size = c) (hown : OwnI 3 w B (.slice (some ⟨g, 0, none⟩) n c) xs)
    (h : ∀ v' w', ((v' = .slice (some ⟨g, 0, none⟩) (n + 1) c ∧ n + 1 ≤ c ∧ w' = (w.alloc (.cells #[.int .i64 v] 3)).setCell ⟨g, n, none⟩ (.int .i64 v)) ∨ (w'.ownsRow w.heap.size 3 1 v' (n + 1) ((xs ++ [v]).map (.int .i64)) ∧ Below (w.heap.size + 1) (w.alloc (.cells #[.int .i64 v] 3)) w')) → K (a.put o.dst v') w') :
    if Region.wanted o (yielded ops a.tmps) = true then Oper.wp Try.prog o a (w.alloc (.cells #[.int .i64 v] 3)) K Q else E := by
  have hzz : (w.alloc (.cells #[.int .i64 v] 3)).heap.size = w.heap.size + 1 := size_alloc_ _ _
  by_cases hroom : n < c
  · have hw : Region.wanted o (yielded ops a.tmps) = true := by simp [Region.wanted, hgd]
    rw [if_pos hw]
    have hrun := run_push1 o.type i0 hi0 hz1 (x := v) hc hroom hm hc.lt
    unfold Oper.wp execOp
    simp only [ho, resolve, invoke, builtin, Sem.run_bind, Sem.run_pure, Result.andThen_ok, List.map_toArray, List.map_cons, List.map_nil, hs, hx, hrun]
    exact h _ _ (.inl ⟨rfl, by omega, rfl⟩)
  · have hown' := (OwnI.stays 3).below _ _ _ _ _ (b_alloc w (.cells #[.int .i64 v] 3)) hown
    refine step_append_grows hgd s x 23 ho 3 i0 (.int .i64 0) 1 8 Try.underlying23 hi0 hz0 hz1 hz2 rfl (by decide) (some ⟨g, 0, none⟩) n c (xs.map (.int .i64)) hs (fun e => by cases e) (by simp [hn]) (fun b hb j u hu => ?_) ⟨w.heap.size, 0, none⟩ 1 1 [.int .i64 v] hx rfl (cell_one_new _ _ _) (by simp [Value.oneCell']) (by omega) (by unfold maxLen; omega) (by omega) (fun v' w' ho' hg' => ?_)
    · injection hb with hb
      subst hb
      exact hown'.1.cells (g := g) rfl j u hu
    · refine h _ _ (.inr ⟨?_, ?_⟩)
      · rw [hzz] at ho'
        rw [List.map_append]
        exact own_base ho' (by omega)
      · rw [← hzz]
        exact (Below.refl _ _).grown hg' (Nat.le_refl _) (fun g' hg' => by cases hg')
/-- an own row behind a number laid behind it, in place. -/
theorem own_pushed {w : World} {B g n c : Nat} {xs : List Int} {v : Int} (hn : xs.length = n) (h : OwnI 3 w B (.slice (some ⟨g, 0, none⟩) n c) xs) (hc : n + 1 ≤ c) (h63 : n + 1 ≤ 9223372036854775807) : OwnI 3 (w.setCell ⟨g, n, none⟩ (.int .i64 v)) B (.slice (some ⟨g, 0, none⟩) (n + 1) c) (xs ++ [v]) := by
  subst hn
  refine ⟨⟨by simp, .inr ?_⟩, by simpa using h63⟩
  rcases h.1.2 with ⟨e, -⟩ | ⟨g', cap, cur, e, hg, hh, hcap, hmax, hsz, ht⟩
  · cases e
  injection e with e1 e2 e3
  injection e1 with e1
  injection e1 with e1 _ _
  subst e1 e3
  have hs := TBlk.store (t := 3) hh xs.length (.int .i64 v)
  refine ⟨g, c, _, by simp, hg, hs, by simpa using hc, hmax, by simpa using hsz, ?_⟩
  have hcz : cur.size = c := by simpa using hsz
  rw [Nat.mul_one] at ht
  have hcl : xs.length < cur.toList.length := by
    have e3 : cur.toList.length = cur.size := Array.length_toList
    omega
  rw [Array.toList_setIfInBounds, List.length_append, List.length_singleton, Nat.mul_one, List.take_set, List.take_add_one, ht, List.getElem?_eq_getElem hcl, List.set_append_right _ _ (by simp)]
  simp
/-- the store behind 'append' and the store of its first row. -/
theorem OwnSto.pushed {w wt : World} {B b gR n c0 : Nat} {vs : Value} {s : Sto} {x : List Int} {v : Int} {v' : Value} {cs csb : Array Value} (hn : x.length = n)
    (h : OwnSto w B vs s) (hcs : TBlk 3 w gR cs) (hcb : TBlk 23 w b csb) (hB : B ≤ w.heap.size) (hr : OwnI 3 w B (.slice (some ⟨gR, 0, none⟩) n c0) x) (hz : SzS s) (hxl : n ≤ 7)
    (ht : (v' = .slice (some ⟨gR, 0, none⟩) (n + 1) c0 ∧ n + 1 ≤ c0 ∧ wt = (w.alloc (.cells #[.int .i64 v] 3)).setCell ⟨gR, n, none⟩ (.int .i64 v)) ∨ (wt.ownsRow w.heap.size 3 1 v' (n + 1) ((x ++ [v]).map (.int .i64)) ∧ Below (w.heap.size + 1) (w.alloc (.cells #[.int .i64 v] 3)) wt)) :
    ∃ s', OwnSto (wt.setCell ⟨b, 0, none⟩ v') B vs s' ∧ SzS s' := by
  have hba := b_alloc w (.cells #[.int .i64 v] 3)
  have hzz : (w.alloc (.cells #[.int .i64 v] 3)).heap.size = w.heap.size + 1 := size_alloc_ _ _
  obtain ⟨s1, ho, hz1, y, hy, hyl, tb⟩ : ∃ s1, OwnSto wt B vs s1 ∧ SzS s1 ∧ ∃ y, OwnI 3 wt B v' y ∧ y.length = n + 1 ∧ TBlk 23 wt b csb := by
    rcases ht with ⟨rfl, hc, rfl⟩ | ⟨h1, h2⟩
    · obtain ⟨s1, o1, z1⟩ := OwnSto.any (j := n) v (hcs.on hba) (OwnSto.below h hba)
      exact ⟨s1, o1, z1 hz, x ++ [v], own_pushed hn ((OwnI.stays 3).below _ _ _ _ _ hba hr) hc (by omega), by simp [hn], (hcb.on hba).far (hcb.ne hcs (by decide))⟩
    · have h2' : Below (w.alloc (.cells #[.int .i64 v] 3)).heap.size (w.alloc (.cells #[.int .i64 v] 3)) wt := by rw [hzz]; exact h2
      exact ⟨s, OwnSto.below (OwnSto.below h hba) h2', hz, x ++ [v], ⟨by simpa [hn] using own_base h1 hB, by simp; omega⟩, by simp [hn], (hcb.on hba).on h2'⟩
  obtain ⟨s2, o2, z2⟩ := OwnSto.anyR (j := 0) tb hy (by omega) ho
  exact ⟨s2, o2, z2 hz1⟩
/-- how things stand while a store is drawn: the reader, the result's box, the store's box, what is owned. -/
structure Stg (base g n c q : Nat) (A : Option Addr) (bs : List Int) (B0 g3 : Nat) (cs cs2 : Array Value) (s : Sto) (w W : World) : Prop where
  rd : Rd W base g A n c bs q
  but : ButG g w.heap.size w W
  own : OwnSto W B0 (.agg cs) s
  box : TBlk 29 W g3 cs
  res : TBlk 29 W w.heap.size cs2
  lt : g < w.heap.size ∧ w.heap.size < B0 ∧ B0 ≤ g3
section
variable {base g n c q : Nat} {A : Option Addr} {bs : List Int} {B0 g3 : Nat} {cs cs2 : Array Value} {s : Sto} {w W : World}
theorem Stg.sz (h : Stg base g n c q A bs B0 g3 cs cs2 s w W) : g < w.heap.size ∧ w.heap.size < B0 ∧ B0 ≤ g3 ∧ g3 < W.heap.size := ⟨h.lt.1, h.lt.2.1, h.lt.2.2, h.box.lt⟩
theorem Stg.go (h : Stg base g n c q A bs B0 g3 cs cs2 s w W) {W' : World} {q' : Nat} (hr : Rd W' base g A n c bs q') (hb : ButG g W.heap.size W W') : Stg base g n c q' A bs B0 g3 cs cs2 s w W' := by
  have := h.lt
  exact ⟨hr, h.but.go hb, h.own.butG hb (by omega), h.box.butG hb (by omega), h.res.butG hb (by omega), h.lt⟩
theorem Stg.below (h : Stg base g n c q A bs B0 g3 cs cs2 s w W) {W' : World} (hb : Below W.heap.size W W') : Stg base g n c q A bs B0 g3 cs cs2 s w W' := by
  have := h.sz
  exact h.go (h.rd.under hb (by omega)) (below_butG hb g)
theorem Stg.cells {x0 x1 x2 : Value} (h : Stg base g n c q A bs B0 g3 #[x0, x1, x2] cs2 s w W) : W.cell? ⟨g3, 0, none⟩ = some x0 ∧ W.cell? ⟨g3, 1, none⟩ = some x1 ∧ W.cell? ⟨g3, 2, none⟩ = some x2 := ⟨h.box.at_ 0 rfl, h.box.at_ 1 rfl, h.box.at_ 2 rfl⟩
/-- a store into a block of its own kind above. -/
theorem Stg.far {t : TypeId} (h : Stg base g n c q A bs B0 g3 cs cs2 s w W) {b : Nat} {cb : Array Value} (hb : TBlk t W b cb) (h1 : t ≠ 3) (h2 : t ≠ 23) (h3 : t ≠ 53) (hB : B0 ≤ b) (hne : b ≠ g3) (j : Nat) (u : Value) : Stg base g n c q A bs B0 g3 cs cs2 s w (W.setCell ⟨b, j, none⟩ u) := by
  have hs := h.sz
  exact ⟨h.rd.set (by omega) j u, h.but.setHi (by omega) j u, h.own.set h1 h2 h3 hb, h.box.far (by omega), h.res.far (by omega), h.lt⟩
theorem Stg.any (h : Stg base g n c q A bs B0 g3 cs cs2 s w W) {b j : Nat} {cb : Array Value} (x : Int) (hb : TBlk 3 W b cb) (hB : B0 ≤ b) : ∃ s', Stg base g n c q A bs B0 g3 cs cs2 s' w (W.setCell ⟨b, j, none⟩ (.int .i64 x)) ∧ (SzS s → SzS s') := by
  have hs := h.sz
  obtain ⟨s', o, z⟩ := OwnSto.any (j := j) x hb h.own
  exact ⟨s', ⟨h.rd.set (by omega) j _, h.but.setHi (by omega) j _, o, h.box.far (h.box.ne hb (by decide)), h.res.far (h.res.ne hb (by decide)), h.lt⟩, z⟩
/-- the levels are dropped. -/
theorem Stg.drop {x0 x1 x2 : Value} (h : Stg base g n c q A bs B0 g3 #[x0, x1, x2] cs2 s w W) : Stg base g n c q A bs B0 g3 #[x0, x1, .slice none 0 0] cs2 ⟨s.model, []⟩ w (W.setCell ⟨g3, 2, none⟩ (.slice none 0 0)) := by
  have hs := h.sz
  obtain ⟨dv, cv, lv, e, o1, o2⟩ := h.own.set (show (29 : TypeId) ≠ 3 by decide) (by decide) (by decide) h.box (j := 2) (u := .slice none 0 0)
  injection e with e
  have e : [x0, x1, x2] = [dv, cv, lv] := List.toArray_inj e
  simp only [List.cons.injEq, and_true] at e
  obtain ⟨rfl, rfl, rfl⟩ := e
  exact ⟨h.rd.set (by omega) 2 _, h.but.setHi (by omega) 2 _, ⟨_, _, _, rfl, o1, OwnRows.nil0 _ _⟩, h.box.store 2 _, h.res.far (by omega), h.lt⟩
/-- the store's box takes another store. -/
theorem Stg.take {x0 x1 x2 y0 y1 y2 : Value} {s' : Sto} (h : Stg base g n c q A bs B0 g3 #[x0, x1, x2] cs2 s w W) (ho : OwnSto W B0 (.agg #[y0, y1, y2]) s') : Stg base g n c q A bs B0 g3 #[y0, y1, y2] cs2 s' w (((W.setCell ⟨g3, 0, none⟩ y0).setCell ⟨g3, 1, none⟩ y1).setCell ⟨g3, 2, none⟩ y2) := by
  have hs := h.sz
  have t0 := h.box
  have t1 := t0.store 0 y0
  have t2 := t1.store 1 y1
  refine ⟨((h.rd.set (by omega) 0 _).set (by omega) 1 _).set (by omega) 2 _, ((h.but.setHi (by omega) 0 _).setHi (by omega) 1 _).setHi (by omega) 2 _, ?_, t2.store 2 y2, ((h.res.far (by omega)).far (by omega)).far (by omega), h.lt⟩
  exact ((ho.set (show (29 : TypeId) ≠ 3 by decide) (by decide) (by decide) t0).set (show (29 : TypeId) ≠ 3 by decide) (by decide) (by decide) t1).set (show (29 : TypeId) ≠ 3 by decide) (by decide) (by decide) t2
/-- a number is appended to the first row. -/
theorem Stg.push (h : Stg base g n c q A bs B0 g3 cs cs2 s w W) {wt : World} {b gR m c0 : Nat} {x : List Int} {v : Int} {v' : Value} {csR csb : Array Value} (hn : x.length = m) (hcs : TBlk 3 W gR csR) (hcb : TBlk 23 W b csb) (hB : B0 ≤ b) (hBR : B0 ≤ gR) (hr : OwnI 3 W B0 (.slice (some ⟨gR, 0, none⟩) m c0) x) (hz : SzS s) (hxl : m ≤ 7)
    (ht : (v' = .slice (some ⟨gR, 0, none⟩) (m + 1) c0 ∧ m + 1 ≤ c0 ∧ wt = (W.alloc (.cells #[.int .i64 v] 3)).setCell ⟨gR, m, none⟩ (.int .i64 v)) ∨ (wt.ownsRow W.heap.size 3 1 v' (m + 1) ((x ++ [v]).map (.int .i64)) ∧ Below (W.heap.size + 1) (W.alloc (.cells #[.int .i64 v] 3)) wt)) :
    ∃ s', Stg base g n c q A bs B0 g3 cs cs2 s' w (wt.setCell ⟨b, 0, none⟩ v') ∧ SzS s' := by
  have hs := h.sz
  have hba := b_alloc W (.cells #[.int .i64 v] 3)
  have hzz : (W.alloc (.cells #[.int .i64 v] 3)).heap.size = W.heap.size + 1 := size_alloc_ _ _
  obtain ⟨s', o, z⟩ := OwnSto.pushed hn h.own hcs hcb (by omega) hr hz hxl ht
  have ha := h.below hba
  obtain ⟨k1, k2, k3, k4⟩ : Rd wt base g A n c bs q ∧ ButG g w.heap.size w wt ∧ TBlk 29 wt g3 cs ∧ TBlk 29 wt w.heap.size cs2 := by
    rcases ht with ⟨-, -, rfl⟩ | ⟨-, h2⟩
    · exact ⟨ha.rd.set (by omega) m _, ha.but.setHi (by omega) m _, ha.box.far (h.box.ne hcs (by decide)), ha.res.far (h.res.ne hcs (by decide))⟩
    · have hk := ha.below (W' := wt) (by rw [hzz]; exact h2)
      exact ⟨hk.rd, hk.but, hk.box, hk.res⟩
  exact ⟨s', ⟨k1.set (by omega) 0 _, k2.setHi (by omega) 0 _, o, k3.far (h.box.ne hcb (by decide)), k4.far (h.res.ne hcb (by decide)), h.lt⟩, z⟩
/-- the store is laid into the result's box. -/
theorem Stg.fin {x0 x1 x2 z0 z1 z2 : Value} (h : Stg base g n c q A bs B0 g3 #[x0, x1, x2] #[z0, z1, z2] s w W) {wf : World} (hf : wf = ((W.setCell ⟨w.heap.size, 0, none⟩ x0).setCell ⟨w.heap.size, 1, none⟩ x1).setCell ⟨w.heap.size, 2, none⟩ x2) :
    (wf.cell? ⟨w.heap.size, 0, none⟩ = some x0 ∧ wf.cell? ⟨w.heap.size, 1, none⟩ = some x1 ∧ wf.cell? ⟨w.heap.size, 2, none⟩ = some x2) ∧ OwnSto wf w.heap.size (.agg #[x0, x1, x2]) s ∧ Rd wf base g A n c bs q ∧ ButG g w.heap.size w wf := by
  have hs := h.sz
  have t1 := h.res.store 0 x0
  have t2 := t1.store 1 x1
  have t3 := t2.store 2 x2
  subst hf
  refine ⟨⟨t3.at_ 0 rfl, t3.at_ 1 rfl, t3.at_ 2 rfl⟩, OwnSto.base_ (((h.own.set (show (29 : TypeId) ≠ 3 by decide) (by decide) (by decide) h.res).set (show (29 : TypeId) ≠ 3 by decide) (by decide) (by decide) t1).set (show (29 : TypeId) ≠ 3 by decide) (by decide) (by decide) t2) (by omega), ((h.rd.set (by omega) 0 _).set (by omega) 1 _).set (by omega) 2 _, ((h.but.setHi (by omega) 0 _).setHi (by omega) 1 _).setHi (by omega) 2 _⟩
end
end Go.Proofs.Ytjpcdbdaimonlaa
