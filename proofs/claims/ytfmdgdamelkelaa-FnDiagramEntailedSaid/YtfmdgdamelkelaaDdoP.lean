/- The values on paths of a diagram: plain lists. -/
import Derived.Test.YtfmdgdamelkelaaCnt
import Derived.Test.YtfmdgdamelkelaaEdge
namespace Go.Proofs.Ytfmdgdamelkelaa
open Go.ChangeShapes Go.WideShapes Go.ChangeAt Go.RowKit
open Go.Shelf
set_option linter.unusedVariables false
set_option maxRecDepth 100000

/-- 0 ≤ c ≤ M for all. -/
def Bd (M : Int) (cs : List Int) : Prop := ∀ c ∈ cs, 0 ≤ c ∧ c ≤ M
theorem getD_bd {M : Int} {cs : List Int} (h : Bd M cs) (hM : 0 ≤ M) (k : Nat) : 0 ≤ cs[k]?.getD 0 ∧ cs[k]?.getD 0 ≤ M := by
  cases h1 : cs[k]? with
  | none => simp; omega
  | some c => exact h c (List.mem_of_getElem? h1)
theorem sumTo_bd {M : Int} {cs row : List Int} (h : Bd M cs) (hM : 0 ≤ M) (hM2 : M ≤ 1000000) : ∀ k, k ≤ 6 → 0 ≤ sumTo cs row k ∧ sumTo cs row k ≤ k * M
  | 0, _ => by simp [sumTo]
  | k + 1, hk => by
    have ih := sumTo_bd (row := row) h hM hM2 k (by omega)
    have hg := getD_bd h hM (row[k]?.getD 0).toNat
    have h6 : (k : Int) * M ≤ 6 * M := Int.mul_le_mul_of_nonneg_right (by omega) hM
    have h7 : ((k + 1 : Nat) : Int) * M = k * M + M := by rw [Int.natCast_succ, Int.add_mul, Int.one_mul]
    rw [sumTo, h7]
    split
    · unfold wrap64; omega
    · omega
theorem sumTo_mono {M : Int} {cs row : List Int} (h : Bd M cs) (hM : 0 ≤ M) (hM2 : M ≤ 1000000) : ∀ k v, k ≤ 6 → v < k → 0 ≤ row[v]?.getD (-1) → cs[(row[v]?.getD 0).toNat]?.getD 0 ≤ sumTo cs row k
  | 0, v, _, hv, _ => by omega
  | k + 1, v, hk, hv, h0 => by
    have hs := sumTo_bd (row := row) h hM hM2 k (by omega)
    have hg := getD_bd h hM (row[k]?.getD 0).toNat
    have h6 : (k : Int) * M ≤ 6 * M := Int.mul_le_mul_of_nonneg_right (by omega) hM
    rw [sumTo]
    rcases Nat.lt_or_ge v k with h1 | h1
    · have ih := sumTo_mono h hM hM2 k v (by omega) h1 h0
      split
      · unfold wrap64; omega
      · exact ih
    · obtain rfl : v = k := by omega
      rw [if_pos h0]
      unfold wrap64; omega
theorem cntL_bd {M : Int} {cs : List Int} (h : Bd M cs) (hM : 0 ≤ M) (hM2 : M ≤ 1000000) (l : List (List Int)) : Bd (6 * M) (cntL cs l) := by
  intro c hc
  obtain ⟨r, -, rfl⟩ := List.mem_map.1 hc
  have := sumTo_bd (row := r) h hM hM2 6 (by omega)
  exact ⟨this.1, by have := this.2; omega⟩
theorem cnt_bd : ∀ d : List (List (List Int)), d.length ≤ 5 → ∃ M : Int, 1 ≤ M ∧ M ≤ 7776 ∧ (d.length ≤ 4 → M ≤ 1296) ∧ (d.length ≤ 3 → M ≤ 216) ∧ (d.length ≤ 2 → M ≤ 36) ∧ (d.length ≤ 1 → M ≤ 6) ∧ (d.length ≤ 0 → M ≤ 1) ∧ Bd M (cnt d)
  | [], _ => ⟨1, by omega, by omega, by simp, by simp, by simp, by simp, by simp, fun c hc => by simp [cnt] at hc; omega⟩
  | l :: ls, h => by
    simp only [List.length_cons] at h
    obtain ⟨M, h1, h2, h3, h4, h5, h6, h7, h8⟩ := cnt_bd ls (by omega)
    refine ⟨6 * M, by omega, by have := h3 (by omega); omega, fun hh => ?_, fun hh => ?_, fun hh => ?_, fun hh => ?_, fun hh => ?_, cntL_bd h8 (by omega) (by omega) l⟩ <;> simp only [List.length_cons] at hh
    · have := h4 (by omega); omega
    · have := h5 (by omega); omega
    · have := h6 (by omega); omega
    · have := h7 (by omega); omega
    · omega
theorem vdg_len {d : List (List (List Int))} (h : vdgF d = true) : 1 ≤ d.length ∧ d.length ≤ 4 := by
  unfold vdgF at h
  simp only [Bool.and_eq_true] at h
  have := inB_true h.1.1
  omega
theorem cnt_bd' {d : List (List (List Int))} (h : vdgF d = true) (i : Nat) : ∃ M : Int, 0 ≤ M ∧ M ≤ 1000000 ∧ Bd M (cnt (d.drop i)) := by
  obtain ⟨M, h1, h2, -, -, -, -, -, h8⟩ := cnt_bd (d.drop i) (by have := vdg_len h; simp; omega)
  exact ⟨M, by omega, by omega, h8⟩
/-- a node with an edge to a node with paths has paths. -/
theorem live_up {d : List (List (List Int))} (h : vdgF d = true) {i a v : Nat} (hv : v < 6) (h0 : 0 ≤ edge d i a v) (h1 : 0 < cntAt d (i + 1) (edge d i a v).toNat) : 0 < cntAt d i a := by
  obtain ⟨l, r, hl, hr, hx⟩ := edge_some h0
  obtain ⟨M, hM, hM2, hB⟩ := cnt_bd' h (i + 1)
  rw [cntAt_of (cnt_at hl hr)]
  have := sumTo_mono (row := r) hB hM hM2 6 v (by omega) hv (by rw [hx]; exact h0)
  rw [hx] at this
  simp only [Option.getD_some] at this
  unfold cntAt at h1
  omega
/-- spec's list of the nodes that edges lead to. -/
def nextR (d : List (List (List Int))) (i a : Nat) (acc : List Int) : Nat → List Int
  | 0 => acc
  | v + 1 => if 0 ≤ edge d i a v ∧ ¬ edge d i a v ∈ nextR d i a acc v then nextR d i a acc v ++ [edge d i a v] else nextR d i a acc v
def nextT (d : List (List (List Int))) (i : Nat) (rs : List Int) : Nat → List Int
  | 0 => []
  | j + 1 => nextR d i (rs[j]?.getD 0).toNat (nextT d i rs j) 6
def reach (d : List (List (List Int))) : Nat → List Int
  | 0 => [0]
  | i + 1 => nextT d i (reach d i) (reach d i).length
theorem mem_nextR {d : List (List (List Int))} {i a : Nat} {acc : List Int} {x : Int} : ∀ v, x ∈ nextR d i a acc v ↔ x ∈ acc ∨ ∃ u, u < v ∧ edge d i a u = x ∧ 0 ≤ x
  | 0 => by simp [nextR]
  | v + 1 => by
    rw [nextR]
    have ih := mem_nextR (d := d) (i := i) (a := a) (acc := acc) (x := x) v
    split
    · rename_i h
      rw [List.mem_append, ih, List.mem_singleton]
      constructor
      · rintro ((h1 | ⟨u, h1, h2, h3⟩) | rfl)
        · exact .inl h1
        · exact .inr ⟨u, by omega, h2, h3⟩
        · exact .inr ⟨v, by omega, rfl, h.1⟩
      · rintro (h1 | ⟨u, h1, h2, h3⟩)
        · exact .inl (.inl h1)
        · rcases Nat.lt_or_ge u v with h4 | h4
          · exact .inl (.inr ⟨u, h4, h2, h3⟩)
          · obtain rfl : u = v := by omega
            exact .inr h2.symm
    · rename_i h
      rw [ih]
      constructor
      · rintro (h1 | ⟨u, h1, h2, h3⟩)
        · exact .inl h1
        · exact .inr ⟨u, by omega, h2, h3⟩
      · rintro (h1 | ⟨u, h1, h2, h3⟩)
        · exact .inl h1
        · rcases Nat.lt_or_ge u v with h4 | h4
          · exact .inr ⟨u, h4, h2, h3⟩
          · obtain rfl : u = v := by omega
            subst h2
            exact ih.1 (Classical.byContradiction fun h5 => h ⟨h3, h5⟩)
theorem mem_nextT {d : List (List (List Int))} {i : Nat} {rs : List Int} {x : Int} : ∀ j, j ≤ rs.length → (x ∈ nextT d i rs j ↔ ∃ k n u, k < j ∧ rs[k]? = some n ∧ u < 6 ∧ edge d i n.toNat u = x ∧ 0 ≤ x)
  | 0, _ => by simp [nextT]
  | j + 1, hj => by
    have hn : rs[j]? = some rs[j] := List.getElem?_eq_getElem (by omega)
    rw [nextT, mem_nextR, mem_nextT j (by omega), hn]
    simp only [Option.getD_some]
    constructor
    · rintro (⟨k, n, u, h1, h2, h3⟩ | ⟨u, h1, h2, h3⟩)
      · exact ⟨k, n, u, by omega, h2, h3⟩
      · exact ⟨j, _, u, by omega, hn, h1, h2, h3⟩
    · rintro ⟨k, n, u, h1, h2, h3⟩
      rcases Nat.lt_or_ge k j with h4 | h4
      · exact .inl ⟨k, n, u, h4, h2, h3⟩
      · obtain rfl : k = j := by omega
        rw [hn] at h2
        injection h2 with h2
        subst h2
        exact .inr ⟨u, h3⟩
theorem mem_reach {d : List (List (List Int))} {i : Nat} {x : Int} : x ∈ reach d (i + 1) ↔ ∃ n u, n ∈ reach d i ∧ u < 6 ∧ edge d i n.toNat u = x ∧ 0 ≤ x := by
  rw [reach, mem_nextT _ (Nat.le_refl _)]
  constructor
  · rintro ⟨k, n, u, -, h2, h3⟩
    exact ⟨n, u, List.mem_of_getElem? h2, h3⟩
  · rintro ⟨n, u, h2, h3⟩
    obtain ⟨k, hk, e⟩ := List.getElem_of_mem h2
    exact ⟨k, n, u, hk, by rw [List.getElem?_eq_getElem hk, e], h3⟩
/-- reached nodes are nodes. -/
theorem reach_ok {d : List (List (List Int))} (h : vdgF d = true) : ∀ i, i < d.length → ∀ x ∈ reach d i, 0 ≤ x ∧ ∀ l, d[i]? = some l → x.toNat < l.length
  | 0, hi, x, hx => by
    simp [reach] at hx
    subst hx
    obtain ⟨l, c, hl, hl1, -⟩ := cnt_first h
    exact ⟨by omega, fun l2 h2 => by rw [hl] at h2; injection h2 with h2; subst h2; simp; omega⟩
  | i + 1, hi, x, hx => by
    obtain ⟨n, u, -, -, h3, h4⟩ := mem_reach.1 hx
    subst h3
    obtain ⟨l, r, hl, hr, hx2⟩ := edge_some h4
    obtain ⟨c, -, h5, -⟩ := edge_ok h hl hr hx2 h4
    exact ⟨h4, h5⟩
/-- v put in where p holds. -/
def putB (p : Bool) (a : Int) (v : Nat) : Int := if p && !hasB a v then a + 2 ^ v else a
theorem putB_tab : ∀ p : Bool, ∀ a : Fin 64, ∀ v : Fin 6, 0 ≤ putB p a.val v.val ∧ putB p a.val v.val ≤ 63 ∧ (p = true → bits .or .i64 (a.val : Int) (2 ^ v.val) = putB p a.val v.val) := by decide +kernel
theorem putB_has : ∀ p : Bool, ∀ a : Fin 64, ∀ v u : Fin 6, hasB (putB p a.val v.val) u.val = (hasB a.val u.val || (p && u.val == v.val)) := by decide +kernel
theorem putB_in (p : Bool) {a : Int} {v : Nat} (h0 : 0 ≤ a) (h1 : a ≤ 63) (hv : v < 6) : 0 ≤ putB p a v ∧ putB p a v ≤ 63 ∧ (p = true → bits .or .i64 a (2 ^ v) = putB p a v) := by
  obtain ⟨n, rfl⟩ := dom_fin h0 h1
  exact putB_tab p n ⟨v, hv⟩
theorem putB_has' (p : Bool) {a : Int} {v u : Nat} (h0 : 0 ≤ a) (h1 : a ≤ 63) (hv : v < 6) (hu : u < 6) : hasB (putB p a v) u = (hasB a u || (p && u == v)) := by
  obtain ⟨n, rfl⟩ := dom_fin h0 h1
  exact putB_has p n ⟨v, hv⟩ ⟨u, hu⟩
theorem dom_ext : ∀ a b : Fin 64, (∀ u : Fin 6, hasB a.val u.val = hasB b.val u.val) → (a.val : Int) = b.val := by decide +kernel
/-- is the edge at v on a path? -/
def liveE (d : List (List (List Int))) (i a v : Nat) : Bool := decide (0 ≤ edge d i a v) && decide (0 < cntAt d (i + 1) (edge d i a v).toNat)
/-- the values of a list of nodes: first the node's, then v's. p tells which nodes count. -/
def outR (d : List (List (List Int))) (i a : Nat) (p : Bool) (acc : Int) : Nat → Int
  | 0 => acc
  | v + 1 => putB (p && liveE d i a v) (outR d i a p acc v) v
theorem outR_in {d : List (List (List Int))} {i a : Nat} {p : Bool} {acc : Int} (h0 : 0 ≤ acc) (h1 : acc ≤ 63) : ∀ v, v ≤ 6 → 0 ≤ outR d i a p acc v ∧ outR d i a p acc v ≤ 63
  | 0, _ => ⟨h0, h1⟩
  | v + 1, hv => by
    have ih := outR_in (d := d) (i := i) (a := a) (p := p) h0 h1 v (by omega)
    have := putB_in (p && liveE d i a v) ih.1 ih.2 (show v < 6 by omega)
    exact ⟨this.1, this.2.1⟩
theorem outR_has {d : List (List (List Int))} {i a : Nat} {p : Bool} {acc : Int} (h0 : 0 ≤ acc) (h1 : acc ≤ 63) {u : Nat} (hu : u < 6) : ∀ v, v ≤ 6 → hasB (outR d i a p acc v) u = (hasB acc u || (decide (u < v) && (p && liveE d i a u)))
  | 0, _ => by simp [outR]
  | v + 1, hv => by
    have hi := outR_in (d := d) (i := i) (a := a) (p := p) h0 h1 v (by omega)
    rw [outR, putB_has' _ hi.1 hi.2 (show v < 6 by omega) hu, outR_has h0 h1 hu v (by omega)]
    by_cases huv : u = v
    · subst huv; simp
    · by_cases h2 : u < v
      · have h3 : u < v + 1 := by omega
        simp [h2, h3, huv]
      · have h3 : ¬ u < v + 1 := by omega
        simp [h2, h3, huv]
/-- spec: over the reached nodes. -/
def outS (d : List (List (List Int))) (i : Nat) (rs : List Int) : Nat → Int
  | 0 => 0
  | j + 1 => outR d i (rs[j]?.getD 0).toNat true (outS d i rs j) 6
theorem outS_in (d : List (List (List Int))) (i : Nat) (rs : List Int) : ∀ j, 0 ≤ outS d i rs j ∧ outS d i rs j ≤ 63
  | 0 => by simp [outS]
  | j + 1 => by have ih := outS_in d i rs j; exact outR_in ih.1 ih.2 6 (by omega)
theorem outS_has (d : List (List (List Int))) (i : Nat) (rs : List Int) {u : Nat} (hu : u < 6) : ∀ j, j ≤ rs.length → (hasB (outS d i rs j) u = true ↔ ∃ k n, k < j ∧ rs[k]? = some n ∧ liveE d i n.toNat u = true)
  | 0, _ => by
    have : hasB 0 u = false := by rcases six_cases hu with rfl | rfl | rfl | rfl | rfl | rfl <;> decide
    simp [outS, this]
  | j + 1, hj => by
    have hi := outS_in d i rs j
    have hn : rs[j]? = some rs[j] := List.getElem?_eq_getElem (by omega)
    rw [outS, outR_has hi.1 hi.2 hu 6 (by omega), hn]
    simp only [Option.getD_some, hu, decide_true, Bool.true_and, Bool.or_eq_true]
    rw [outS_has d i rs hu j (by omega)]
    constructor
    · rintro (⟨k, n, h1, h2, h3⟩ | h3)
      · exact ⟨k, n, by omega, h2, h3⟩
      · exact ⟨j, _, by omega, hn, h3⟩
    · rintro ⟨k, n, h1, h2, h3⟩
      rcases Nat.lt_or_ge k j with h4 | h4
      · exact .inl ⟨k, n, h4, h2, h3⟩
      · obtain rfl : k = j := by omega
        rw [hn] at h2
        injection h2 with h2
        subst h2
        exact .inr h3
def onF (d : List (List (List Int))) (i : Nat) : Int := outS d i (reach d i) (reach d i).length
/-- impl: which nodes of layer i are met. -/
def metF (d : List (List (List Int))) : Nat → Int → Bool
  | 0, x => x == 0
  | i + 1, x => (List.range ((d[i]?.getD []).length)).any fun a => metF d i (a : Int) && (List.range 6).any fun v => liveE d i a v && edge d i a v == x
/-- .. the first k nodes' values. -/
def outI (d : List (List (List Int))) (i : Nat) : Nat → Int
  | 0 => 0
  | k + 1 => outR d i k (metF d i (k : Int)) (outI d i k) 6
theorem outI_in (d : List (List (List Int))) (i : Nat) : ∀ j, 0 ≤ outI d i j ∧ outI d i j ≤ 63
  | 0 => by simp [outI]
  | j + 1 => by have ih := outI_in d i j; exact outR_in ih.1 ih.2 6 (by omega)
theorem outI_has (d : List (List (List Int))) (i : Nat) {u : Nat} (hu : u < 6) : ∀ j, (hasB (outI d i j) u = true ↔ ∃ k, k < j ∧ metF d i (k : Int) = true ∧ liveE d i k u = true)
  | 0 => by
    have : hasB 0 u = false := by rcases six_cases hu with rfl | rfl | rfl | rfl | rfl | rfl <;> decide
    simp [outI, this]
  | j + 1 => by
    have hi := outI_in d i j
    rw [outI, outR_has hi.1 hi.2 hu 6 (by omega)]
    simp only [hu, decide_true, Bool.true_and, Bool.or_eq_true, Bool.and_eq_true]
    rw [outI_has d i hu j]
    constructor
    · rintro (⟨k, h1, h2⟩ | h3)
      · exact ⟨k, by omega, h2⟩
      · exact ⟨j, by omega, h3⟩
    · rintro ⟨k, h1, h2⟩
      rcases Nat.lt_or_ge k j with h4 | h4
      · exact .inl ⟨k, h4, h2⟩
      · obtain rfl : k = j := by omega
        exact .inr h2
theorem met_reach {d : List (List (List Int))} (h : vdgF d = true) : ∀ i, i < d.length → ∀ a : Nat, (metF d i (a : Int) = true → (a : Int) ∈ reach d i) ∧ ((a : Int) ∈ reach d i → (i = 0 ∨ 0 < cntAt d i a) → metF d i (a : Int) = true)
  | 0, hi, a => by simp [metF, reach]
  | i + 1, hi, a => by
    refine ⟨fun hm => ?_, fun hm hc => ?_⟩
    · rw [metF, List.any_eq_true] at hm
      obtain ⟨b, hb, hm⟩ := hm
      rw [Bool.and_eq_true, List.any_eq_true] at hm
      obtain ⟨hm1, v, hv, hm2⟩ := hm
      rw [Bool.and_eq_true] at hm2
      have he : edge d i b v = (a : Int) := by simpa using hm2.2
      exact mem_reach.2 ⟨(b : Int), v, (met_reach h i (by omega) b).1 hm1, by simpa using hv, by rw [Int.toNat_natCast]; exact he, by omega⟩
    · obtain ⟨n, u, h1, h2, h3, h4⟩ := mem_reach.1 hm
      have hc' : 0 < cntAt d (i + 1) a := hc.resolve_left (by omega)
      obtain ⟨hn0, hn1⟩ := reach_ok h i (by omega) n h1
      have hl : d[i]? = some d[i] := List.getElem?_eq_getElem (by omega)
      have hnl := hn1 _ hl
      obtain ⟨b, rfl⟩ : ∃ b : Nat, n = (b : Int) := ⟨n.toNat, by omega⟩
      rw [Int.toNat_natCast] at h3 hnl
      have hlive : liveE d i b u = true := by unfold liveE; rw [h3]; simp [hc']
      have hup : 0 < cntAt d i b := live_up h h2 (by rw [h3]; omega) (by rw [h3, Int.toNat_natCast]; exact hc')
      rw [metF, List.any_eq_true]
      refine ⟨b, by rw [List.mem_range, hl]; exact hnl, ?_⟩
      rw [Bool.and_eq_true, List.any_eq_true]
      exact ⟨(met_reach h i (by omega) b).2 h1 (.inr hup), u, by simpa using h2, by rw [Bool.and_eq_true]; exact ⟨hlive, by simpa using h3⟩⟩
/-- Both find the same values. -/
theorem out_eq {d : List (List (List Int))} (h : vdgF d = true) {i : Nat} (hi : i < d.length) {l : List (List Int)} (hl : d[i]? = some l) : outI d i l.length = onF d i := by
  have e1 := outI_in d i l.length
  have e2 := outS_in d i (reach d i) (reach d i).length
  obtain ⟨a, ha⟩ := dom_fin e1.1 e1.2
  obtain ⟨b, hb⟩ := dom_fin e2.1 e2.2
  unfold onF
  rw [ha, hb]
  refine dom_ext a b fun u => ?_
  rw [← ha, ← hb, Bool.eq_iff_iff, outI_has d i u.isLt, outS_has d i _ u.isLt _ (Nat.le_refl _)]
  constructor
  · rintro ⟨k, h1, h2, h3⟩
    obtain ⟨j, hj, e⟩ := List.getElem_of_mem ((met_reach h i hi k).1 h2)
    exact ⟨j, (k : Int), hj, by rw [List.getElem?_eq_getElem hj, e], by rw [Int.toNat_natCast]; exact h3⟩
  · rintro ⟨k, n, h1, h2, h3⟩
    have hm := List.mem_of_getElem? h2
    obtain ⟨hn0, hn1⟩ := reach_ok h i hi n hm
    have hnl := hn1 _ hl
    obtain ⟨c, rfl⟩ : ∃ c : Nat, n = (c : Int) := ⟨n.toNat, by omega⟩
    rw [Int.toNat_natCast] at h3 hnl
    have h4 := h3
    unfold liveE at h4
    rw [Bool.and_eq_true] at h4
    exact ⟨c, hnl, (met_reach h i hi c).2 hm (.inr (live_up h u.isLt (of_decide_eq_true h4.1) (of_decide_eq_true h4.2))), h3⟩
def ddF (d : List (List (List Int))) : List Int := if vdgF d then (List.range d.length).map (onF d) else []
theorem ddF_len (d : List (List (List Int))) : (ddF d).length ≤ d.length := by unfold ddF; split <;> simp
end Go.Proofs.Ytfmdgdamelkelaa
