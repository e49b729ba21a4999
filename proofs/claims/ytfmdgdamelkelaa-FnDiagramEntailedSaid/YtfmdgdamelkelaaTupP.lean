/- Tuples of domains, and the supports of a constraint: plain lists. No program in sight. -/
import Derived.Test.YtfmdgdamelkelaaSatP
namespace Go.Proofs.Ytfmdgdamelkelaa
open Go.ChangeShapes Go.WideShapes Go.ChangeAt Go.RowKit
open Go.Shelf
set_option linter.unusedVariables false
set_option maxRecDepth 100000

/-- all lists with a value of each domain, the least ones first. -/
def allT : List Int → List (List Int)
  | [] => [[]]
  | d :: ds => (valsTo d 6).flatMap fun v => (allT ds).map (v :: ·)
/-- all that begin with t. -/
def extT (ds : List Int) (t : List Int) : List (List Int) := (allT (ds.drop t.length)).map (t ++ ·)
theorem extT_nil (ds : List Int) : extT ds [] = allT ds := by simp [extT]
theorem extT_full {ds t : List Int} (h : t.length = ds.length) : extT ds t = [t] := by
  unfold extT
  rw [List.drop_eq_nil_of_le (by omega)]
  simp [allT]
theorem extT_step {ds t : List Int} {d : Int} (h : ds[t.length]? = some d) : extT ds t = (valsTo d 6).flatMap fun v => extT ds (t ++ [v]) := by
  have hk : t.length < ds.length := by
    rcases Nat.lt_or_ge t.length ds.length with h1 | h1
    · exact h1
    · rw [List.getElem?_eq_none h1] at h; cases h
  unfold extT
  rw [List.drop_eq_getElem_cons hk]
  rw [List.getElem?_eq_getElem hk] at h
  injection h with h
  rw [h, allT, List.map_flatMap]
  congr 1
  funext v
  rw [List.map_map]
  simp [Function.comp_def]
/-- the tuples of the first k values of a position. -/
def extK (ds t : List Int) (vs : List Int) (k : Nat) : List (List Int) := (vs.take k).flatMap fun v => extT ds (t ++ [v])
theorem extK_zero (ds t vs : List Int) : extK ds t vs 0 = [] := rfl
theorem extK_succ {ds t vs : List Int} {k : Nat} {v : Int} (h : vs[k]? = some v) : extK ds t vs (k + 1) = extK ds t vs k ++ extT ds (t ++ [v]) := by
  unfold extK
  rw [List.take_add_one, h, List.flatMap_append]
  simp
theorem extK_done {ds t : List Int} {d : Int} (h : ds[t.length]? = some d) : extK ds t (valsTo d 6) (valsTo d 6).length = extT ds t := by
  unfold extK
  rw [List.take_length, extT_step h]
theorem valsTo_mem {d v : Int} {k : Nat} (h : v ∈ valsTo d k) : 0 ≤ v ∧ v < (k : Int) ∧ hasB d v = true := by
  induction k with
  | zero => simp [valsTo] at h
  | succ k ih =>
    rw [valsTo, List.mem_append] at h
    rcases h with h | h
    · have := ih h; exact ⟨this.1, by omega, this.2.2⟩
    · split at h
      · rename_i hh
        rw [List.mem_singleton.1 h]
        exact ⟨by omega, by omega, hh⟩
      · simp at h
theorem valsTo_has {d v : Int} {k : Nat} (h0 : 0 ≤ v) (h1 : v < (k : Int)) (h2 : hasB d v = true) : v ∈ valsTo d k := by
  induction k with
  | zero => omega
  | succ k ih =>
    rw [valsTo, List.mem_append]
    by_cases h3 : v < (k : Int)
    · exact .inl (ih h3)
    · obtain rfl : v = (k : Int) := by omega
      right
      rw [h2]
      simp
/-- t takes its values from ds. -/
def InDs (ds t : List Int) : Prop := t.length = ds.length ∧ ∀ (j : Nat) d v, ds[j]? = some d → t[j]? = some v → 0 ≤ v ∧ v ≤ 5 ∧ hasB d v = true
theorem mem_allT {ds t : List Int} : t ∈ allT ds ↔ InDs ds t := by
  induction ds generalizing t with
  | nil =>
    constructor
    · intro h
      simp [allT] at h
      subst h
      exact ⟨rfl, fun j d v h => by simp at h⟩
    · rintro ⟨h, -⟩
      simp at h
      subst h
      simp [allT]
  | cons d ds ih =>
    constructor
    · intro h
      rw [allT, List.mem_flatMap] at h
      obtain ⟨v, hv, h⟩ := h
      obtain ⟨t', ht', rfl⟩ := List.mem_map.1 h
      obtain ⟨h1, h2⟩ := ih.1 ht'
      obtain ⟨g0, g1, g2⟩ := valsTo_mem hv
      refine ⟨by simp [h1], fun j e x hj hx => ?_⟩
      cases j with
      | zero =>
        simp at hj hx
        subst hj hx
        exact ⟨g0, by omega, g2⟩
      | succ j => exact h2 j e x (by simpa using hj) (by simpa using hx)
    · rintro ⟨h1, h2⟩
      cases t with
      | nil => simp at h1
      | cons v t =>
        obtain ⟨g0, g1, g2⟩ := h2 0 d v rfl rfl
        rw [allT, List.mem_flatMap]
        refine ⟨v, valsTo_has g0 (by omega) g2, List.mem_map.2 ⟨t, ih.2 ⟨by simpa using h1, fun j e x hj hx => h2 (j + 1) e x (by simpa using hj) (by simpa using hx)⟩, rfl⟩⟩

/-- v put into the domain a. -/
def orB (a : Int) (v : Int) : Int := if hasB a v then a else a + 2 ^ v.toNat
theorem orB_tab : ∀ a : Fin 64, ∀ v : Fin 6, 0 ≤ orB a.val v.val ∧ orB a.val v.val ≤ 63 ∧ bits .or .i64 (a.val : Int) (2 ^ (v.val : Int).toNat) = orB a.val v.val ∧ (hasB a.val v.val = false → orB a.val v.val = (a.val : Int) + 2 ^ (v.val : Int).toNat) ∧ (hasB a.val v.val = true → orB a.val v.val = a.val) := by decide +kernel
theorem orB_has : ∀ a : Fin 64, ∀ v u : Fin 6, hasB (orB a.val v.val) u.val = (hasB a.val u.val || u.val == v.val) := by decide +kernel
theorem orB_in {a v : Int} (h0 : 0 ≤ a) (h1 : a ≤ 63) (v0 : 0 ≤ v) (v1 : v ≤ 5) : 0 ≤ orB a v ∧ orB a v ≤ 63 ∧ bits .or .i64 a (2 ^ v.toNat) = orB a v ∧ (hasB a v = false → orB a v = a + 2 ^ v.toNat) ∧ (hasB a v = true → orB a v = a) := by
  obtain ⟨n, rfl⟩ := dom_fin h0 h1
  have := orB_tab n ⟨v.toNat, by omega⟩
  have e : ((v.toNat : Nat) : Int) = v := by omega
  simp only [e] at this
  exact this
theorem orB_has' {a v u : Int} (h0 : 0 ≤ a) (h1 : a ≤ 63) (v0 : 0 ≤ v) (v1 : v ≤ 5) (u0 : 0 ≤ u) (u1 : u ≤ 5) : hasB (orB a v) u = (hasB a u || u == v) := by
  obtain ⟨n, rfl⟩ := dom_fin h0 h1
  have := orB_has n ⟨v.toNat, by omega⟩ ⟨u.toNat, by omega⟩
  have e : ((v.toNat : Nat) : Int) = v := by omega
  have e2 : ((u.toNat : Nat) : Int) = u := by omega
  simp only [e, e2] at this
  rw [this]
  congr 1
  rw [Bool.eq_iff_iff]; simp; omega
/-- the first k places of acc, each with t's value put in. -/
def updTo (acc t : List Int) (k : Nat) : List Int := (List.zipWith orB acc t).take k ++ acc.drop k
theorem updTo_zero (acc t : List Int) : updTo acc t 0 = acc := by simp [updTo]
theorem updTo_len {acc t : List Int} (h : acc.length = t.length) (k : Nat) : (updTo acc t k).length = acc.length := by simp [updTo]; omega
theorem updTo_at {acc t : List Int} {k : Nat} {a : Int} (h : acc.length = t.length) (ha : acc[k]? = some a) : (updTo acc t k)[k]? = some a := by
  have hk : k < acc.length := by
    rcases Nat.lt_or_ge k acc.length with h1 | h1
    · exact h1
    · rw [List.getElem?_eq_none h1] at ha; cases ha
  unfold updTo
  rw [List.getElem?_append_right (by simp; omega)]
  have : k - (List.take k (List.zipWith orB acc t)).length = 0 := by simp; omega
  rw [this, List.getElem?_drop, Nat.add_zero]
  exact ha
theorem updTo_succ {acc t : List Int} {k : Nat} {a v : Int} (h : acc.length = t.length) (ha : acc[k]? = some a) (hv : t[k]? = some v) : (updTo acc t k).set k (orB a v) = updTo acc t (k + 1) := by
  have hk : k < acc.length := by
    rcases Nat.lt_or_ge k acc.length with h1 | h1
    · exact h1
    · rw [List.getElem?_eq_none h1] at ha; cases ha
  unfold updTo
  rw [List.set_append_right _ _ (by simp; omega)]
  have : k - (List.take k (List.zipWith orB acc t)).length = 0 := by simp; omega
  rw [this, List.drop_eq_getElem_cons hk, List.set_cons_zero, List.take_add_one]
  have hz : (List.zipWith orB acc t)[k]? = some (orB a v) := by
    rw [List.getElem?_zipWith, ha, hv]
  rw [hz]
  simp
theorem updTo_done {acc t : List Int} {n : Nat} (h : acc.length = t.length) (hn : acc.length = n) : updTo acc t n = List.zipWith orB acc t := by
  subst hn
  unfold updTo
  rw [List.take_of_length_le (by rw [List.length_zipWith]; omega), List.drop_eq_nil_of_le (by omega), List.append_nil]
def stepV (c : Con) (acc t : List Int) : List Int := if satF c t then List.zipWith orB acc t else acc
/-- what the satisfying tuples among ts support, place by place. -/
def supV (c : Con) (m : Nat) (ts : List (List Int)) : List Int := ts.foldl (stepV c) (List.replicate m 0)
theorem supV_snoc (c : Con) (m : Nat) (ts : List (List Int)) (t : List Int) : supV c m (ts ++ [t]) = stepV c (supV c m ts) t := by simp [supV]
/-- all are domains. -/
def Doms (xs : List Int) : Prop := ∀ x ∈ xs, 0 ≤ x ∧ x ≤ 63
theorem stepV_ok {c : Con} {acc t : List Int} (h : Doms acc) (hl : acc.length = t.length) (ht : ∀ v ∈ t, 0 ≤ v ∧ v ≤ 5) : Doms (stepV c acc t) ∧ (stepV c acc t).length = acc.length := by
  unfold stepV
  split
  · refine ⟨fun x hx => ?_, by simp; omega⟩
    obtain ⟨k, hk, e⟩ := List.getElem_of_mem hx
    simp at hk
    rw [List.getElem_zipWith] at e
    have h1 := h (acc[k]'(by omega)) (List.getElem_mem _)
    have h2 := ht (t[k]'(by omega)) (List.getElem_mem _)
    have := orB_in h1.1 h1.2 h2.1 h2.2
    rw [← e]
    exact ⟨this.1, this.2.1⟩
  · exact ⟨h, rfl⟩
theorem updTo_doms {acc t : List Int} (h : Doms acc) (hl : acc.length = t.length) (ht : ∀ v ∈ t, 0 ≤ v ∧ v ≤ 5) (k : Nat) : Doms (updTo acc t k) := by
  intro x hx
  unfold updTo at hx
  rcases List.mem_append.1 hx with hx | hx
  · obtain ⟨j, hj, e⟩ := List.getElem_of_mem (List.mem_of_mem_take hx)
    simp at hj
    rw [List.getElem_zipWith] at e
    have h1 := h (acc[j]'(by omega)) (List.getElem_mem _)
    have h2 := ht (t[j]'(by omega)) (List.getElem_mem _)
    have := orB_in h1.1 h1.2 h2.1 h2.2
    rw [← e]
    exact ⟨this.1, this.2.1⟩
  · exact h x (List.mem_of_mem_drop hx)
/-- all of ts have m values from 0 to 5. -/
def OkT (m : Nat) (ts : List (List Int)) : Prop := ∀ t ∈ ts, t.length = m ∧ ∀ v ∈ t, 0 ≤ v ∧ v ≤ 5
theorem OkT.snoc {m : Nat} {ts : List (List Int)} {t : List Int} (h : OkT m ts) (h1 : t.length = m) (h2 : ∀ v ∈ t, 0 ≤ v ∧ v ≤ 5) : OkT m (ts ++ [t]) := by
  intro x hx
  rcases List.mem_append.1 hx with hx | hx
  · exact h x hx
  · rw [List.mem_singleton.1 hx]; exact ⟨h1, h2⟩
theorem supV_ok' (c : Con) (m : Nat) : ∀ (ts : List (List Int)) (acc : List Int), OkT m ts → Doms acc → acc.length = m → Doms (ts.foldl (stepV c) acc) ∧ (ts.foldl (stepV c) acc).length = m
  | [], acc, _, h, hl => ⟨h, hl⟩
  | t :: ts, acc, ho, h, hl => by
    obtain ⟨h1, h2⟩ := ho t (by simp)
    obtain ⟨h3, h4⟩ := stepV_ok (c := c) h (by rw [hl, h1]) h2
    exact supV_ok' c m ts _ (fun x hx => ho x (by simp [hx])) h3 (by rw [h4, hl])
theorem supV_ok {c : Con} {m : Nat} {ts : List (List Int)} (h : OkT m ts) : Doms (supV c m ts) ∧ (supV c m ts).length = m :=
  supV_ok' c m ts _ h (fun x hx => by rw [List.eq_of_mem_replicate hx]; decide) (by simp)
theorem allT_ok (ds : List Int) : OkT ds.length (allT ds) := by
  intro t ht
  obtain ⟨h1, h2⟩ := mem_allT.1 ht
  refine ⟨h1, fun v hv => ?_⟩
  obtain ⟨j, hj, e⟩ := List.getElem_of_mem hv
  have := h2 j (ds[j]'(by omega)) v (List.getElem?_eq_getElem _) (by rw [List.getElem?_eq_getElem hj, e])
  exact ⟨this.1, this.2.1⟩
/-- the first k variables' domains replaced. -/
def putTo (ds vars sup : List Int) : Nat → List Int
  | 0 => ds
  | k + 1 => (putTo ds vars sup k).set (gat vars k).toNat (gat sup k)
theorem putTo_len (ds vars sup : List Int) (k : Nat) : (putTo ds vars sup k).length = ds.length := by
  induction k with
  | zero => rfl
  | succ k ih => rw [putTo, List.length_set, ih]
/-- the domains that filtering with c leaves. -/
def filF (c : Con) (ds : List Int) : List Int := putTo ds c.vars (supV c c.vars.length (allT (wordF c.vars ds))) c.vars.length
end Go.Proofs.Ytfmdgdamelkelaa
